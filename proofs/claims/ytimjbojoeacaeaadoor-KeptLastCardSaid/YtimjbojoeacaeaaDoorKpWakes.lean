/- wakes, of layer 22, run by the evaluator: a closed run. -/

import Derived.Test.YtimjbojoeacaeaaDoorKxIns2
import Derived.Test.YtimjbojoeacaeaaDoorRows
import Derived.KernelRfl
import Derived.WalkKit
import Derived.Lib.AppendZerosOnto
import Derived.Lib.Overlaps
import Derived.Deep.RegionLaw
import Derived.Shelf.Spec.SlicesInsert
namespace Go.Proofs.YtimjbojoeacaeaaDoor
open Go.Proofs.YtimjbojoeacaeaaDoor.Kx Go.RowKit Go.Lib
theorem wish_size (w : World) : (Go.sizeOf 55).run Tryd.prog w = .ok 4 w := by kernel_rfl
set_option maxHeartbeats 4000000 in
set_option maxRecDepth 100000 in
theorem wish_room (b off n c i vb voff vc : Nat) (L LV : List Value) (t tV : TypeId) (fr frV : Nat × Nat) (w : World) (hi : i < n) (hroom : n + 1 ≤ c) (hsm : n + 1 ≤ 1048576) (hvb : vb ≠ b)
    (hb : w.heap[b]? = some (.cells L.toArray t fr)) (hf : ∀ j : Nat, ¬ (fr.1 ≤ j ∧ j < fr.2)) (hfit : off + (n + 1) * 4 ≤ L.length) (hv : w.heap[vb]? = some (.cells LV.toArray tV frV)) (hfv : ∀ j : Nat, ¬ (frV.1 ≤ j ∧ j < frV.2)) (hvfit : voff + 4 ≤ LV.length)
    (h1L : ∀ v ∈ (L.drop (off + i * 4)).take ((n - i) * 4), one1 v = true) (h1V : ∀ v ∈ (LV.drop voff).take 4, one1 v = true) :
    Calls Tryd.prog 64 #[.slice (some ⟨b, off, none⟩) n c, .int .i64 i, .slice (some ⟨vb, voff, none⟩) 1 vc] w fun e w' =>
      e = .returned (.slice (some ⟨b, off, none⟩) (n + 1) c) ∧ w' = wset (wset w.drew b (.cells (lay L (off + (i + 1) * 4) ((L.drop (off + i * 4)).take ((n - i) * 4))).toArray t fr)) b (.cells (lay (lay L (off + (i + 1) * 4) ((L.drop (off + i * 4)).take ((n - i) * 4))) (off + i * 4) ((LV.drop voff).take 4)).toArray t fr) := by
  have hz2 : ¬ ((i : Int) = (n : Int)) := by omega
  have hov : ∀ lb cb, (callFunc 78 #[.slice (some ⟨vb, voff, none⟩) 1 vc, .slice (some ⟨b, off + (i + 1) * 4, none⟩) lb cb]).run Tryd.prog w = .ok (.value (.bool false)) w := fun lb cb => by
    rw [run_callFunc_extern Tryd.func78 (by kernel_rfl) (by kernel_rfl) (by kernel_rfl) (e := Extern.SlicesOverlaps.overlaps #[49, 49] #[4]) (by kernel_rfl),
      Lib.run_overlaps_apart w 49 4 55 Tryd.underlying49 4 wish_size ⟨vb, voff, none⟩ ⟨b, off + (i + 1) * 4, none⟩ 1 vc lb cb hvb tV t LV.length L.length (by simp [World.shape?, hv]) (by simp [World.shape?, hb]) (by omega) (by simp only [World.frozen?, hv]; have := hfv voff; rw [Bool.and_eq_false_iff, decide_eq_false_iff_not, decide_eq_false_iff_not]; omega) (by simp only [World.frozen?, hv]; have := hfv LV.length; rw [Bool.and_eq_false_iff, decide_eq_false_iff_not, decide_eq_false_iff_not]; omega)]
    rfl
  obtain ⟨D, hD⟩ : ∃ D, D = (L.drop (off + i * 4)).take ((n - i) * 4) := ⟨_, rfl⟩
  obtain ⟨V, hV⟩ : ∃ V, V = (LV.drop voff).take 4 := ⟨_, rfl⟩
  rw [← hD] at h1L ⊢
  rw [← hV] at h1V ⊢
  have hDl : D.length = (n - i) * 4 := by rw [hD]; simp; omega
  have hVl : V.length = 4 := by rw [hV]; simp; omega
  have hbl : b < w.heap.size := (Array.getElem?_eq_some_iff.1 hb).1
  have hcp1 : ∀ ty dc sc, (Builtin.copy_ #[49, 49] ty #[.slice (some ⟨b, off + (i + 1) * 4, none⟩) (n - i) dc, .slice (some ⟨b, off + i * 4, none⟩) (n + 1 - i) sc]).run Tryd.prog w.drew = .ok (goInt (n - i : Nat)) (wset w.drew b (.cells (lay L (off + (i + 1) * 4) D).toArray t fr)) := fun ty dc sc =>
    copy_row Tryd.underlying49 wish_size (W := w.drew) hb hf D h1L (n - i) _ _ _ _ (by simp only [Nat.min_def]; split <;> omega) (by omega) _ (by rw [hD]; exact load_row (W := w.drew) hb (by omega))
  obtain ⟨W1, hW1⟩ : ∃ W1, W1 = wset w.drew b (.cells (lay L (off + (i + 1) * 4) D).toArray t fr) := ⟨_, rfl⟩
  have hb1 : W1.heap[b]? = some (.cells (lay L (off + (i + 1) * 4) D).toArray t fr) := by rw [hW1]; exact wset_same _ _ _ hbl
  have hv1 : W1.heap[vb]? = some (.cells LV.toArray tV frV) := by rw [hW1, wset_other _ _ _ _ hvb]; exact hv
  have hL1 : (lay L (off + (i + 1) * 4) D).length = L.length := lay_length (by omega)
  have hcp2 : ∀ ty dc, (Builtin.copy_ #[49, 49] ty #[.slice (some ⟨b, off + i * 4, none⟩) (n + 1 - i) dc, .slice (some ⟨vb, voff, none⟩) 1 vc]).run Tryd.prog W1 = .ok (goInt (1 : Nat)) (wset W1 b (.cells (lay (lay L (off + (i + 1) * 4) D) (off + i * 4) V).toArray t fr)) := fun ty dc =>
    copy_row Tryd.underlying49 wish_size hb1 hf V h1V 1 _ _ _ _ (by simp only [Nat.min_def]; split <;> omega) (by omega) _ (by rw [hV]; exact load_row hv1 (by omega))
  rw [← hW1] at hcp1 ⊢
  have hw1 : IntKind.i64.wrap ((i : Int) + 1) = (i : Int) + 1 := by rw [IntKind.wrap_i64]; omega
  have hw2 : IntKind.i64.wrap ((n : Int) + 1) = (n : Int) + 1 := by rw [IntKind.wrap_i64]; omega
  have hin : i ≤ n := by omega
  have htn : ((i : Int) + 1).toNat = i + 1 := by omega
  have htm : ((n : Int) + 1).toNat = n + 1 := by omega
  have hb2 : ¬ (c = i + 1) := by omega
  have hb4 : ¬ (c = i) := by omega
  have hb0 : (0 : Int) ≤ (i : Int) + 1 := by omega
  have hb3 : (i : Int) ≤ (n : Int) + 1 := by omega
  clear hb1 hv1 hL1 hDl hVl h1L h1V hW1 hD hV hbl
  try simp only [Nat.mul_one] at hov hcp1 hcp2 ⊢
  go_enter Tryd.func64, Tryd.ntmps64
  go_wp2_with (simp only [hov])
  go_region_law (refine step_copy_runI rfl _ _ 49 49 rfl _ _ (by simp [Act.eval, Act.put]) (by simp [Act.eval, Act.put]) (hcp1 _ _ _) ?_)
  go_wp2_with (at_builtin; refine wpList_copy_runI _ rfl _ _ 49 49 rfl _ _ rfl rfl (hcp2 _ _) ?_)
  go_ret
  exact ⟨rfl, rfl⟩
set_option maxHeartbeats 4000000 in
set_option maxRecDepth 100000 in
theorem wish_growM (b off n c i vb voff vc : Nat) (L LV : List Value) (t tV : TypeId) (fr frV : Nat × Nat) (w : World) (hi : i < n) (hnc : n ≤ c) (hroom : c < n + 1) (hsm : n + 1 ≤ 1048576)
    (hb : w.heap[b]? = some (.cells L.toArray t fr)) (hfit : off + n * 4 ≤ L.length) (hv : w.heap[vb]? = some (.cells LV.toArray tV frV)) (hvfit : voff + 4 ≤ LV.length)
    (h1L : ∀ v ∈ (L.drop (off + i * 4)).take ((n - i) * 4), one1 v = true) (h1V : ∀ v ∈ (LV.drop voff).take 4, one1 v = true)
    (i0 : TypeInfo) (z : Value) (hi0 : Tryd.prog.info? 55 = some i0) (hz0 : i0.zero = some z) (hzs : i0.size = 4) (hzc : z.cells.size = 4) (hzb : i0.bytes ≤ 1048576) :
    Calls Tryd.prog 64 #[.slice (some ⟨b, off, none⟩) n c, .int .i64 i, .slice (some ⟨vb, voff, none⟩) 1 vc] w fun e w' =>
      ∃ (G : Nat) (Z : List Value), e = .returned (.slice (some ⟨w.heap.size, 0, none⟩) (n + 1) G) ∧ n + 1 ≤ G ∧ G ≤ 9223372036854775807 ∧ Z.length = (G - (n + 1)) * 4 ∧
        w'.heap = w.heap.push (.cells (((L.drop off).take (i * 4)) ++ ((LV.drop voff).take 4 ++ (L.drop (off + i * 4)).take ((n - i) * 4)) ++ Z).toArray 55) ∧ w'.os = w.os ∧ w'.tape = w.tape ∧ w'.output = w.output := by
  have hz2 : ¬ ((i : Int) = (n : Int)) := by omega
  have hz3 : (c : Int) < (n : Int) + 1 := by omega
  obtain ⟨D, hD⟩ : ∃ D, D = (L.drop (off + i * 4)).take ((n - i) * 4) := ⟨_, rfl⟩
  obtain ⟨V, hV⟩ : ∃ V, V = (LV.drop voff).take 4 := ⟨_, rfl⟩
  obtain ⟨O, hO⟩ : ∃ O, O = (L.drop off).take (i * 4) := ⟨_, rfl⟩
  rw [← hD] at h1L ⊢
  rw [← hV] at h1V ⊢
  rw [← hO]
  have hDl : D.length = (n - i) * 4 := by rw [hD]; simp; omega
  have hVl : V.length = 4 := by rw [hV]; simp; omega
  have hOl : O.length = i * 4 := by rw [hO]; simp; omega
  have hbl : b < w.heap.size := (Array.getElem?_eq_some_iff.1 hb).1
  have hvl : vb < w.heap.size := (Array.getElem?_eq_some_iff.1 hv).1
  have hold : (Builtin.firstCells i0.size i (.slice (some ⟨b, off, none⟩) i c)).run Tryd.prog w.drew = .ok O.toArray w.drew := by
    rw [hzs, hO]
    exact load_row (W := w.drew) hb (by omega)
  have hkk : (n : Int) + 1 - (i : Int) = ((n + 1 - i : Nat) : Int) := by omega
  have hik : i + (n + 1 - i) = n + 1 := by omega
  have hbig : (n + 1) * i0.bytes ≤ 140737488355328 := Nat.le_trans (Nat.mul_le_mul hsm hzb) (by decide)
  obtain ⟨G, hG⟩ : ∃ G, G = grownCap w (n + 1) c 55 := ⟨_, rfl⟩
  have hGn : n + 1 ≤ G := by rw [hG]; exact grownCap_ge w _ _ _
  have hG63 : G ≤ 9223372036854775807 := by
    have := grownCap_le_maxLen w (n + 1) c 55 (by unfold maxLen; omega)
    rw [← hG] at this
    unfold maxLen at this
    omega
  obtain ⟨Z1, hZ1⟩ : ∃ Z1, Z1 = (Builtin.zeroCells z.cells (n + 1 - i)).toList := ⟨_, rfl⟩
  obtain ⟨Z, hZ⟩ : ∃ Z, Z = (Builtin.zeroCells z.cells (G - (n + 1))).toList := ⟨_, rfl⟩
  have hZ1l : Z1.length = (n + 1 - i) * 4 := by rw [hZ1]; simp [Builtin.zeroCells, hzc]
  have hZl : Z.length = (G - (n + 1)) * 4 := by rw [hZ]; simp [Builtin.zeroCells, hzc]
  obtain ⟨W0, hW0⟩ : ∃ W0, W0 = w.drew.alloc (.cells (O ++ Z1 ++ Z).toArray 55) := ⟨_, rfl⟩
  have hrz : ∀ ty, (Builtin.append_ #[49, 3] ty #[.slice (some ⟨b, off, none⟩) i c, .int .i64 ((n : Int) + 1 - (i : Int))]).run Tryd.prog w = .ok (.slice (some ⟨w.heap.size, 0, none⟩) (n + 1) G) W0 := fun ty => by
    have h := Lib.run_append_grow_zeros w 49 3 ty 55 i0 z .i64 .i64 Tryd.underlying49 Tryd.underlying3 hi0 hz0 (some ⟨b, off, none⟩) i c O hold (n + 1 - i) (by omega) (by omega) (by omega) (by omega) (Nat.le_trans (Nat.le_trans (Nat.mul_le_mul_right _ (by omega)) hbig) (by decide)) (by rw [hik]; exact growslice_fits hroom hbig)
    rw [hik, ← hG] at h
    rw [hkk, h, hW0, hZ1, hZ]
    congr 4
    apply Array.ext'
    simp
  have hh0 : W0.heap = w.heap.push (.cells (O ++ Z1 ++ Z).toArray 55) := by rw [hW0]; rfl
  have hs0 : W0.os = w.os ∧ W0.tape = w.tape ∧ W0.output = w.output := by rw [hW0]; exact ⟨rfl, rfl, rfl⟩
  have hR : (O ++ Z1 ++ Z).length = G * 4 := by simp; omega
  obtain ⟨W1, hW1⟩ : ∃ W1, W1 = wset W0 w.heap.size (.cells (lay (O ++ Z1 ++ Z) (i * 4) V).toArray 55) := ⟨_, rfl⟩
  have hh1 : W1.heap = w.heap.push (.cells (lay (O ++ Z1 ++ Z) (i * 4) V).toArray 55) := by rw [hW1]; exact wset_push hh0
  have hs1 : W1.os = w.os ∧ W1.tape = w.tape ∧ W1.output = w.output := by rw [hW1]; exact hs0
  have hR1 : (lay (O ++ Z1 ++ Z) (i * 4) V).length = G * 4 := by rw [lay_length (by omega)]; exact hR
  have hcpA : ∀ ty dc, (Builtin.copy_ #[49, 49] ty #[.slice (some ⟨w.heap.size, i * 4, none⟩) (n + 1 - i) dc, .slice (some ⟨vb, voff, none⟩) 1 vc]).run Tryd.prog W0 = .ok (goInt (1 : Nat)) W1 := fun ty dc => by
    rw [hW1]
    exact copy_row Tryd.underlying49 wish_size (push_at w _ hh0) (fun j => by simp) V h1V 1 _ _ _ _ (by simp only [Nat.min_def]; split <;> omega) (by omega) _ (by rw [hV]; exact load_row ((push_below hh0 hvl).trans hv) (by omega))
  obtain ⟨W2, hW2⟩ : ∃ W2, W2 = wset W1.drew w.heap.size (.cells (lay (lay (O ++ Z1 ++ Z) (i * 4) V) ((i + 1) * 4) D).toArray 55) := ⟨_, rfl⟩
  have hcpB : ∀ ty dc sc, (Builtin.copy_ #[49, 49] ty #[.slice (some ⟨w.heap.size, (i + 1) * 4, none⟩) (n - i) dc, .slice (some ⟨b, off + i * 4, none⟩) (n - i) sc]).run Tryd.prog W1.drew = .ok (goInt (n - i : Nat)) W2 := fun ty dc sc => by
    rw [hW2]
    exact copy_row Tryd.underlying49 wish_size (W := W1.drew) (push_at w _ (W := W1.drew) hh1) (fun j => by simp) D h1L (n - i) _ _ _ _ (by simp only [Nat.min_def]; split <;> omega) (by omega) _ (by rw [hD]; exact load_row (W := W1.drew) ((push_below (W := W1.drew) hh1 hbl).trans hb) (by omega))
  have hfin : W2.heap = w.heap.push (.cells (O ++ (V ++ D) ++ Z).toArray 55) ∧ W2.os = w.os ∧ W2.tape = w.tape ∧ W2.output = w.output := by
    refine ⟨?_, by rw [hW2]; exact hs1.1, by rw [hW2]; exact hs1.2.1, by rw [hW2]; exact hs1.2.2⟩
    rw [hW2, wset_push (W := W1.drew) (w := w) hh1]
    have := lay_grow (O := O) (Z1 := Z1) (Z2 := Z) (V := V) (D := D) (by omega)
    rw [hOl, hVl, show i * 4 + 4 = (i + 1) * 4 by omega] at this
    rw [this]
  have hw1 : IntKind.i64.wrap ((i : Int) + 1) = (i : Int) + 1 := by rw [IntKind.wrap_i64]; omega
  have hw2 : IntKind.i64.wrap ((n : Int) + 1) = (n : Int) + 1 := by rw [IntKind.wrap_i64]; omega
  have hw3 : IntKind.i64.wrap ((n : Int) + 1 - (i : Int)) = (n : Int) + 1 - (i : Int) := by rw [IntKind.wrap_i64]; omega
  have hin : i ≤ n := by omega
  have hin1 : (i : Int) ≤ (n : Int) := by omega
  have hin2 : i ≤ n + 1 := by omega
  have htn : ((i : Int) + 1).toNat = i + 1 := by omega
  have htm : ((n : Int) + 1).toNat = n + 1 := by omega
  have hci : ¬ (c = i) := by omega
  have hGi : ¬ (G = i) := by omega
  have hGi1 : ¬ (G = i + 1) := by omega
  have hb0 : (0 : Int) ≤ (i : Int) + 1 := by omega
  have hb3 : (i : Int) ≤ (n : Int) + 1 := by omega
  have hc63 : c ≤ 9223372036854775807 := by omega
  refine Calls.mono (R := fun e w' => e = .returned (.slice (some ⟨w.heap.size, 0, none⟩) (n + 1) G) ∧ w' = W2) ?_ (fun e w' ⟨h1, h2⟩ => ⟨G, Z, h1, hGn, hG63, hZl, by rw [h2]; exact hfin⟩)
  obtain ⟨N, hN⟩ : ∃ N, N = w.heap.size := ⟨_, rfl⟩
  rw [← hN] at hrz hcpA hcpB ⊢
  clear hfin hW2 hW1 hW0 hZ hZ1 hZ1l hZl hG hGn hold hh0 hh1 hs0 hs1 hR hR1 hO hV hD hDl hVl hOl hN hkk hik hbig h1L h1V hi0 hz0 hzs hzc hzb
  try simp only [Nat.mul_one] at hcpA hcpB ⊢
  go_enter Tryd.func64, Tryd.ntmps64
  go_wp2_with (first
    | (at_builtin; refine Lib.wpList_append_run _ rfl _ _ _ _ rfl _ _ rfl rfl _ _ (hrz _) ?_)
    | (at_builtin; refine wpList_copy_runI _ rfl _ _ 49 49 rfl _ _ rfl rfl (hcpA _ _) ?_))
  go_region_law (refine step_copy_runI rfl _ _ 49 49 rfl _ _ (by simp [Act.eval, Act.put]) (by simp [Act.eval, Act.put]) (hcpB _ _ _) ?_)
  go_wp2
  go_ret
  exact ⟨rfl, rfl⟩
set_option maxHeartbeats 4000000 in
theorem wish_grow (b off n c i vb voff vc : Nat) (L LV : List Value) (t tV : TypeId) (fr frV : Nat × Nat) (w : World) (hi : i < n) (hnc : n ≤ c) (hroom : c < n + 1) (hsm : n + 1 ≤ 1048576)
    (hb : w.heap[b]? = some (.cells L.toArray t fr)) (hfit : off + n * 4 ≤ L.length) (hv : w.heap[vb]? = some (.cells LV.toArray tV frV)) (hvfit : voff + 4 ≤ LV.length)
    (h1L : ∀ v ∈ (L.drop (off + i * 4)).take ((n - i) * 4), one1 v = true) (h1V : ∀ v ∈ (LV.drop voff).take 4, one1 v = true)
    (i0 : TypeInfo) (z : Value) (hi0 : Tryd.prog.info? 55 = some i0) (hz0 : i0.zero = some z) (hzs : i0.size = 4) (hzc : z.cells.size = 4) (hzb : i0.bytes ≤ 1048576) :
    Calls Tryd.prog 64 #[.slice (some ⟨b, off, none⟩) n c, .int .i64 i, .slice (some ⟨vb, voff, none⟩) 1 vc] w fun e w' =>
      ∃ (G : Nat) (Z : List Value), e = .returned (.slice (some ⟨w.heap.size, 0, none⟩) (n + 1) G) ∧ n + 1 ≤ G ∧ Z.length = (G - (n + 1)) * 4 ∧
        w'.heap = w.heap.push (.cells (((L.drop off).take (i * 4)) ++ ((LV.drop voff).take 4 ++ (L.drop (off + i * 4)).take ((n - i) * 4)) ++ Z).toArray 55) ∧ w'.os = w.os ∧ w'.tape = w.tape ∧ w'.output = w.output := by
  refine (wish_growM b off n c i vb voff vc L LV t tV fr frV w hi hnc hroom hsm hb hfit hv hvfit h1L h1V i0 z hi0 hz0 hzs hzc hzb).mono ?_
  rintro e w' ⟨G, Z, h1, h2, _, h3⟩
  exact ⟨G, Z, h1, h2, h3⟩
theorem wish_ins : InsT Tryd.prog 64 55 4 := ⟨wish_size, wish_room, wish_grow⟩
theorem wish_ok : OvOk Tryd.prog 64 (ovInsert (mkTI Tryd.prog) 55) := ovInsert_ok wish_ins ⟨_, Tryd.func64, by kernel_rfl, by kernel_rfl⟩
noncomputable def wov : Ovs := ovl [(111, ovIndexByte), (103, ovCount), (89, ovCompare), (64, ovInsert (mkTI Tryd.prog) 55)]
theorem wov_ok : OvsOk Tryd.prog wov := by
  refine ovl_ok fun p hp => ?_
  simp only [List.mem_cons, List.mem_nil_iff, or_false] at hp
  rcases hp with rfl | rfl | rfl | rfl
  · exact ovIndexByte_ok ⟨_, Tryd.func111, by kernel_rfl, by kernel_rfl, by kernel_rfl, by kernel_rfl⟩
  · exact ovCount_ok ⟨_, Tryd.func103, by kernel_rfl, by kernel_rfl, by kernel_rfl, by kernel_rfl⟩
  · exact ovCompare_ok ⟨_, Tryd.func89, by kernel_rfl, by kernel_rfl, by kernel_rfl, by kernel_rfl⟩
  · exact wish_ok
set_option maxRecDepth 100000 in
theorem ev_kwakes : isT (rn Tryd.prog wov 10000 (.call 30 []) .e ⟨.e, 0⟩) = true := by kernel_rfl
theorem kwakes_any (w : World) : Calls Tryd.prog 30 #[] w fun e w' => e = .returned (.bool true) ∧ Below w.heap.size w w' :=
  run_true (Ov := wov) (args' := []) Tryd.checked.mixed wov_ok ev_kwakes .nil w
end Go.Proofs.YtimjbojoeacaeaaDoor
