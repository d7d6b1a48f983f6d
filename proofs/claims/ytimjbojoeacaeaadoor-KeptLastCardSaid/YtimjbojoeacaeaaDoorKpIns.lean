/- Lists of wishes of the call's own: one put in. -/

import Derived.Test.YtimjbojoeacaeaaDoorKpOps
import Derived.Test.YtimjbojoeacaeaaDoorKpWakes
namespace Go.Proofs.YtimjbojoeacaeaaDoor
open Go.RowKit Go.Shelf Go.Proofs

theorem one1_w (L : List Msg1) : ∀ u ∈ wCells L, Kx.one1 u = true := by
  intro u hu
  obtain ⟨x, _, hx⟩ := List.mem_flatMap.1 hu
  simp [wC] at hx
  rcases hx with rfl | rfl | rfl | rfl <;> rfl
theorem Rd_lit (w : World) (vb : Nat) (x : Msg1) (h : w.heap[vb]? = some (.cells #[.string x.f, .string x.p, .int .i64 x.q, .bool x.r] 55 (0, 0))) : Rd w (vb + 1) 4 (.slice (some ⟨vb, 0, none⟩) 1 1) 1 (wC x) := by
  refine ⟨rfl, _, _, rfl, by omega, by unfold maxLen; omega, (fun e => by cases e), fun _ => ⟨_, _, rfl, by omega, fun j u hu => ?_⟩⟩
  rcases four hu with ⟨rfl, rfl⟩ | ⟨rfl, rfl⟩ | ⟨rfl, rfl⟩ | ⟨rfl, rfl⟩ <;> simp [World.cell?, h]

set_option maxHeartbeats 1000000 in
/-- At the end. -/
theorem Insert_end (w : World) (B : Nat) (v : Value) (L : List Msg1) (x : Msg1) (vb : Nat) (h : w.ownsRow B 55 4 v L.length (wCells L)) (hB : B ≤ w.heap.size) (hn : L.length ≤ 1000000000)
    (hv : w.heap[vb]? = some (.cells #[.string x.f, .string x.p, .int .i64 x.q, .bool x.r] 55 (0, 0))) :
    Calls Tryd.prog 64 #[v, .int .i64 L.length, .slice (some ⟨vb, 0, none⟩) 1 1] w fun e w' => ∃ v', e = .returned v' ∧ w'.ownsRow B 55 4 v' (L.length + 1) (wCells (L ++ [x])) ∧ Below B w w' := by
  have H := Lib.hid h
  have HX := Lib.hid (Rd_lit w vb x hv)
  have HS : Hid (wCells L ++ wC x = wCells (L ++ [x])) := Lib.hid (wCells_snoc L x)
  obtain ⟨ao, cap, rfl, hc, hm⟩ := (Rd.of_own h).form
  have hm' : cap ≤ 9223372036854775807 := by unfold maxLen at hm; omega
  clear h hv hm
  rcases ao with _ | p
  · go_enter Tryd.func64, Tryd.ntmps64
    go_upto_region 7 with fail
    go_wp2_with (at_builtin; refine wpList_app _ rfl (.tmp 23) (.tmp 24) _ rfl B 55 wZ 4 48 Tryd.underlying49 inf_w rfl (by omega) _ L.length (wCells L) rfl H.out _ _ 1 (wC x) rfl HX.out (wC_one x) ?_ ?_ ?_ ?_)
    · unfold maxLen; omega
    · omega
    · exact hB
    intro v1 w1 hown1 hg1 _
    have hb1 := own_ground H.out hg1 hB
    rw [HS.out] at hown1
    have HO := Lib.hid hown1
    clear hown1 hg1
    go_wp2
    go_ret
    exact ⟨_, rfl, HO.out, hb1⟩
  · by_cases hcl : cap = L.length
    · go_enter Tryd.func64, Tryd.ntmps64
      go_upto_region 7 with fail
      go_wp2_with (at_builtin; refine wpList_app _ rfl (.tmp 23) (.tmp 24) _ rfl B 55 wZ 4 48 Tryd.underlying49 inf_w rfl (by omega) _ L.length (wCells L) rfl H.out _ _ 1 (wC x) rfl HX.out (wC_one x) ?_ ?_ ?_ ?_)
      · unfold maxLen; omega
      · omega
      · exact hB
      intro v1 w1 hown1 hg1 _
      have hb1 := own_ground H.out hg1 hB
      rw [HS.out] at hown1
      have HO := Lib.hid hown1
      clear hown1 hg1
      go_wp2
      go_ret
      exact ⟨_, rfl, HO.out, hb1⟩
    · go_enter Tryd.func64, Tryd.ntmps64
      go_upto_region 7 with fail
      go_wp2_with (at_builtin; refine wpList_app _ rfl (.tmp 23) (.tmp 24) _ rfl B 55 wZ 4 48 Tryd.underlying49 inf_w rfl (by omega) _ L.length (wCells L) rfl H.out _ _ 1 (wC x) rfl HX.out (wC_one x) ?_ ?_ ?_ ?_)
      · unfold maxLen; omega
      · omega
      · exact hB
      intro v1 w1 hown1 hg1 _
      have hb1 := own_ground H.out hg1 hB
      rw [HS.out] at hown1
      have HO := Lib.hid hown1
      clear hown1 hg1
      go_wp2
      go_ret
      exact ⟨_, rfl, HO.out, hb1⟩

theorem info_w : ∃ i0 : TypeInfo, Tryd.prog.info? 55 = some i0 ∧ i0.zero = some wZ ∧ i0.size = 4 ∧ i0.bytes = 48 := info_parts inf_w

set_option maxHeartbeats 1000000 in
/-- Ahead of the end. -/
theorem Insert_mid (w : World) (B : Nat) (v : Value) (L : List Msg1) (x : Msg1) (i vb : Nat) (hi : i < L.length) (h : w.ownsRow B 55 4 v L.length (wCells L)) (hB : B ≤ w.heap.size) (hn : L.length ≤ 1000000)
    (hv : w.heap[vb]? = some (.cells #[.string x.f, .string x.p, .int .i64 x.q, .bool x.r] 55 (0, 0))) (hne : v.ownBlock ≠ some vb) :
    Calls Tryd.prog 64 #[v, .int .i64 i, .slice (some ⟨vb, 0, none⟩) 1 1] w fun e w' => ∃ v', e = .returned v' ∧ w'.ownsRow B 55 4 v' (L.length + 1) (wCells (L.take i ++ x :: L.drop i)) ∧ Below B w w' := by
  obtain ⟨hl, h2⟩ := h
  rcases h2 with ⟨rfl, h0⟩ | ⟨g, cap, cur, rfl, hBg, hg, hnc, hcm, hcs, htk⟩
  · omega
  have hgl : g < w.heap.size := (Array.getElem?_eq_some_iff.1 hg).1
  have hcl : cur.toList.length = cap * 4 := by rw [Array.length_toList]; exact hcs
  have hca : w.heap[g]? = some (.cells cur.toList.toArray 55 (0, 0)) := by rw [Array.toArray_toList]; exact hg
  have hvl : w.heap[vb]? = some (.cells (wC x).toArray 55 (0, 0)) := hv
  have hgv : vb ≠ g := fun e => hne (by subst e; rfl)
  have hsp : wCells L = wCells (L.take i) ++ wCells (L.drop i) := by rw [← wCells_app, List.take_append_drop]
  have l2 : (wCells (L.take i)).length = i * 4 := by rw [wCells_length, List.length_take]; omega
  have l3 : (wCells (L.drop i)).length = (L.length - i) * 4 := by rw [wCells_length, List.length_drop]
  have hcur : cur.toList = wCells (L.take i) ++ wCells (L.drop i) ++ cur.toList.drop (L.length * 4) := by rw [← hsp, ← htk, List.take_append_drop]
  obtain ⟨R, hR⟩ : ∃ R, R = cur.toList.drop (L.length * 4) := ⟨_, rfl⟩
  rw [← hR] at hcur
  have lR : R.length = (cap - L.length) * 4 := by rw [hR, List.length_drop, hcl]; omega
  have hD : (cur.toList.drop (0 + i * 4)).take ((L.length - i) * 4) = wCells (L.drop i) := by
    rw [hcur, Nat.zero_add, List.append_assoc, ← l2, List.drop_left, ← l3, List.take_left]
  have hA : (cur.toList.drop 0).take (i * 4) = wCells (L.take i) := by
    rw [hcur, List.drop_zero, List.append_assoc, ← l2, List.take_left]
  have hV : ((wC x).drop 0).take 4 = wC x := rfl
  have hnew : wCells (L.take i ++ x :: L.drop i) = wCells (L.take i) ++ (wC x ++ wCells (L.drop i)) := by rw [wCells_app]; rfl
  have hlen : (wCells (L.take i ++ x :: L.drop i)).length = (L.length + 1) * 4 := by rw [wCells_length]; simp; omega
  have one1 : ∀ u ∈ (cur.toList.drop (0 + i * 4)).take ((L.length - i) * 4), Kx.one1 u = true := by rw [hD]; exact one1_w _
  have one2 : ∀ u ∈ ((wC x).drop 0).take 4, Kx.one1 u = true := by rw [hV]; intro u hu; simp [wC] at hu; rcases hu with rfl | rfl | rfl | rfl <;> rfl
  by_cases hroom : L.length + 1 ≤ cap
  · refine (wish_room g 0 L.length cap i vb 0 1 cur.toList (wC x) 55 55 (0, 0) (0, 0) w hi hroom (by omega) hgv hca (fun j => by simp) (by omega) hvl (fun j => by simp) (by simp [wC]) one1 one2).mono ?_
    rintro e w' ⟨rfl, rfl⟩
    have e1 := Kx.lay_lay (L := cur.toList) (V := wC x) (r := 0) (a := i * 4) (s := 4) (m := (L.length - i) * 4) rfl (by omega)
    rw [show 0 + (i * 4 + 4) = 0 + (i + 1) * 4 by omega, hD, hA, ← hnew] at e1
    rw [hD, hV, Kx.wset_wset, e1]
    have hcell := Kx.wset_same w.drew g (.cells (Kx.lay cur.toList 0 (wCells (L.take i ++ x :: L.drop i))).toArray 55 (0, 0)) hgl
    refine ⟨_, rfl, ⟨hlen, .inr ⟨g, cap, _, rfl, hBg, hcell, hroom, hcm, ?_, ?_⟩⟩, ?_⟩
    · rw [List.size_toArray, Kx.lay_length (by omega)]; exact hcl
    · rw [List.toList_toArray]
      unfold Kx.lay
      rw [List.take_zero, List.nil_append, ← hlen, List.take_left]
    · refine ((Below.refl B w).drew).grown (row := some g) ⟨rfl, rfl, rfl, by rw [Kx.wset_size]; exact Nat.le_refl _, fun k hk hk2 => Kx.wset_other _ _ _ _ (fun e => hk2 (by rw [e]))⟩ (by simpa using hB) (fun k hk => by injection hk with hk; omega)
  · obtain ⟨i0, hi0, hz0, hz1, hz2⟩ := info_w
    refine (wish_growM g 0 L.length cap i vb 0 1 cur.toList (wC x) 55 55 (0, 0) (0, 0) w hi hnc (by omega) (by omega) hca (by omega) hvl (by simp [wC]) one1 one2 i0 wZ hi0 hz0 hz1 rfl (by omega)).mono ?_
    rintro e w' ⟨G, Z, rfl, hG, hG63, hZ, hh, hos, htp, hop⟩
    rw [hD, hA, hV, ← hnew] at hh
    have hcell : w'.heap[w.heap.size]? = some (.cells (wCells (L.take i ++ x :: L.drop i) ++ Z).toArray 55 (0, 0)) := by rw [hh]; simp
    refine ⟨_, rfl, ⟨hlen, .inr ⟨w.heap.size, G, _, rfl, hB, hcell, hG, by unfold maxLen; omega, ?_, ?_⟩⟩, ?_⟩
    · simp only [List.size_toArray, List.length_append, hlen, hZ]; omega
    · rw [List.toList_toArray, ← hlen, List.take_left]
    · exact (Below.refl B w).grown (row := none) ⟨hos, htp, hop, by rw [hh]; simp, fun k hk _ => by rw [hh]; simp [Array.getElem?_push, Nat.ne_of_lt hk]⟩ hB (fun k hk => by cases hk)
end Go.Proofs.YtimjbojoeacaeaaDoor
