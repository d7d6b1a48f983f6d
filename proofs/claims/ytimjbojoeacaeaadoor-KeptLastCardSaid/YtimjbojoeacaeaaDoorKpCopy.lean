/- Lists of messages: copied, held against each other. -/


import Derived.Test.YtimjbojoeacaeaaDoorKpMay
import Derived.Outline
namespace Go.Proofs.YtimjbojoeacaeaaDoor
open Go.RowKit Go.Shelf Go.Proofs

def wZ : Value := .agg #[.string ⟨#[]⟩, .string ⟨#[]⟩, .int .i64 0, .bool false]
theorem inf_w : (Tryd.prog.info? 55).map (fun i => (i.zero, i.size, i.bytes)) = some (some wZ, 4, 48) := by kernel_rfl
theorem wC_one (x : Msg1) : ∀ u ∈ wC x, u.oneCell' = true := by simp [wC, Value.oneCell']
theorem four {j : Nat} {x : Msg1} {u : Value} (hu : (wC x)[j]? = some u) : (j = 0 ∧ u = .string x.f) ∨ (j = 1 ∧ u = .string x.p) ∨ (j = 2 ∧ u = .int .i64 x.q) ∨ (j = 3 ∧ u = .bool x.r) := by
  have hj : j < 4 := by
    have := (List.getElem?_eq_some_iff.1 hu).1
    simp [wC] at this
    omega
  have : j = 0 ∨ j = 1 ∨ j = 2 ∨ j = 3 := by omega
  rcases this with rfl | rfl | rfl | rfl <;> (simp [wC] at hu; subst hu; simp)
theorem one_newW (w : World) (x : Msg1) : Rd (w.alloc (.cells #[.string x.f, .string x.p, .int .i64 x.q, .bool x.r] 55)) (w.heap.size + 1) 4 (.slice (some ⟨w.heap.size, 0, none⟩) 1 1) 1 (wC x) := by
  refine ⟨rfl, _, _, rfl, by omega, by unfold maxLen; omega, (fun e => by cases e), fun _ => ⟨_, _, rfl, by omega, fun j u hu => ?_⟩⟩
  rcases four hu with ⟨rfl, rfl⟩ | ⟨rfl, rfl⟩ | ⟨rfl, rfl⟩ | ⟨rfl, rfl⟩ <;> simp
theorem wCells_snoc (L : List Msg1) (x : Msg1) : wCells L ++ wC x = wCells (L ++ [x]) := by rw [wCells_app]; simp [wCells]
theorem wtake_snoc (L : List Msg1) (k : Nat) (x : Msg1) (h : L[k]? = some x) : L.take (k + 1) = L.take k ++ [x] := by
  obtain ⟨hk, rfl⟩ := List.getElem?_eq_some_iff.1 h
  exact List.take_succ_eq_append_getElem hk

set_option maxHeartbeats 1000000 in
theorem CopyW_any (w : World) (v : Value) (L : List Msg1) (Bd : Nat) (h : Rd w Bd 4 v L.length (wCells L)) (hBd : Bd ≤ w.heap.size) (hn : L.length ≤ 2000000000000) :
    Calls Tryd.prog 31 #[v] w fun e w' => ∃ v', e = .returned v' ∧ w'.ownsRow w.heap.size 55 4 v' L.length (wCells L) ∧ Below w.heap.size w w' := by
  obtain ⟨ao, cap, rfl, hc, hm⟩ := h.form
  have hm' : cap ≤ 9223372036854775807 := by unfold maxLen at hm; omega
  have H := Lib.hid h
  clear h hm
  go_enter Tryd.func31, Tryd.ntmps31
  go_wp2
  go_loopw [3, 4] (fun v i wr => ∃ k : Nat, k ≤ L.length ∧ i = .int .i64 k ∧ wr.ownsRow w.heap.size 55 4 v k (wCells (L.take k)) ∧ Below w.heap.size w wr) (fun _ i _ => L.length - (intOf i).toNat)
  case atStart => exact ⟨0, by omega, rfl, by simpa [wCells] using World.ownsRow_nil _ _ _ _, Below.refl _ _⟩
  case round =>
    obtain ⟨k, hk, rfl, hown, hb⟩ := hrel
    have HO := Lib.hid hown
    have hzs := hb.size
    clear hown
    by_cases hlt : k < L.length
    · obtain ⟨x, hx⟩ : ∃ x, L[k]? = some x := ⟨_, List.getElem?_eq_getElem hlt⟩
      obtain ⟨b, o, rfl, hbl, c0, c1, c2, c3⟩ := wish_cell (H.out.below (hb.mono hBd)) rfl hx
      have HS : Hid (wCells (L.take k) ++ wC x = wCells (L.take (k + 1))) := Lib.hid (by rw [wCells_snoc, wtake_snoc L k x hx])
      clear hx
      go_wp2_with (at_builtin; with_reducible refine wpList_app _ rfl (.tmp 11) (.tmp 16) _ rfl w.heap.size 55 wZ 4 48 Tryd.underlying49 inf_w rfl (by omega) _ k (wCells (L.take k)) rfl (HO.out.alloc _) _ _ 1 (wC x) rfl (one_newW _ _) (wC_one x) ?_ ?_ ?_ ?_)
      · unfold maxLen; omega
      · omega
      · simp; omega
      intro v1 w1 hown1 hg1 _
      have hb1 := (hb.alloc hzs _).grown hg1 (by simp; omega) (fun g hg => (HO.out.lt g hg).1)
      rw [HS.out] at hown1
      have HO1 := Lib.hid hown1
      clear hown1 hg1
      go_wp2
      go_roundw
      case rel => exact ⟨k + 1, by omega, by go_num, HO1.out, hb1⟩
      case measure => simp [intOf]; omega
    · have : k = L.length := by omega
      subst this
      go_wp2
      go_ret
      exact ⟨_, rfl, by simpa using HO.out, hb⟩

set_option maxHeartbeats 1000000 in
theorem EqW_any (w : World) (v1 v2 : Value) (A B : List Msg1) (B1 B2 : Nat) (h1 : Rd w B1 4 v1 A.length (wCells A)) (h2 : Rd w B2 4 v2 B.length (wCells B)) (he : A = B) :
    Calls Tryd.prog 35 #[v1, v2] w fun e w' => e = .returned (.bool true) ∧ Below w.heap.size w w' := by
  subst he
  obtain ⟨ao, cap, rfl, hc, hm⟩ := h1.form
  obtain ⟨bo, cap2, rfl, hc2, hm2⟩ := h2.form
  have hm' : cap ≤ 9223372036854775807 := by unfold maxLen at hm; omega
  have hm2' : cap2 ≤ 9223372036854775807 := by unfold maxLen at hm2; omega
  have H1 := Lib.hid h1
  have H2 := Lib.hid h2
  clear h1 h2 hm hm2
  go_enter Tryd.func35, Tryd.ntmps35
  go_wp2
  go_loopw [5] (fun i wr => ∃ k : Nat, k ≤ A.length ∧ i = .int .i64 k ∧ Below w.heap.size w wr ∧ ∃ nd, wr = w.drewN nd) (fun i _ => A.length - (intOf i).toNat)
  case atStart => exact ⟨0, by omega, rfl, Below.refl _ _, 0, rfl⟩
  case round =>
    obtain ⟨k, hk, rfl, hb, nd, rfl⟩ := hrel
    by_cases hlt : k < A.length
    · obtain ⟨x, hx⟩ : ∃ x, A[k]? = some x := ⟨_, List.getElem?_eq_getElem hlt⟩
      obtain ⟨b, o, rfl, _, c0, c1, c2, c3⟩ := wish_cell H1.out rfl hx
      obtain ⟨b2, o2, rfl, _, d0, d1, d2, d3⟩ := wish_cell H2.out rfl hx
      clear hx
      go_wp2
      refine wp_region_held_drew (S := fun wx => wx.cell? ⟨b, o + k * 4, none⟩ = some (.string x.f) ∧ wx.cell? ⟨b, o + k * 4 + 1, none⟩ = some (.string x.p) ∧ wx.cell? ⟨b, o + k * 4 + 2, none⟩ = some (.int .i64 x.q) ∧ wx.cell? ⟨b, o + k * 4 + 3, none⟩ = some (.bool x.r) ∧ wx.cell? ⟨b2, o2 + k * 4, none⟩ = some (.string x.f) ∧ wx.cell? ⟨b2, o2 + k * 4 + 1, none⟩ = some (.string x.p) ∧ wx.cell? ⟨b2, o2 + k * 4 + 2, none⟩ = some (.int .i64 x.q) ∧ wx.cell? ⟨b2, o2 + k * 4 + 3, none⟩ = some (.bool x.r)) (by kernel_rfl) ⟨c0, c1, c2, c3, d0, d1, d2, d3⟩ (fun hHeld => ?_)
      refine take_h 0 ⟨?_, ?_, ?_, by kernel_rfl, by kernel_rfl, by kernel_rfl, ?_, ?_, by assumption, ?_⟩
      rotate_left 2
      · (simp only [List.getElem?_toArray, List.getElem?_cons_succ, List.getElem?_cons_zero]; exact rfl)
      · exact fun _ _ _ h => h
      · first
          | (refine Or.inr ⟨by rfl, ?_⟩; exact rfl)
          | (refine Or.inl ⟨by rfl, ?_⟩
             intro w hSw
             (try dsimp only at hSw)
             (try go_split_ands)
             go_simp
             (first | done | with_reducible rfl))
      try simp only [Act.put, List.setIfInBounds_toArray, List.set_cons_zero, List.set_cons_succ]
      refine take_h 1 ⟨?_, ?_, ?_, by kernel_rfl, by kernel_rfl, by kernel_rfl, ?_, ?_, by assumption, ?_⟩
      rotate_left 2
      · (simp only [List.getElem?_toArray, List.getElem?_cons_succ, List.getElem?_cons_zero]; exact rfl)
      · exact fun _ _ _ h => h
      · first
          | (refine Or.inr ⟨by rfl, ?_⟩; exact rfl)
          | (refine Or.inl ⟨by rfl, ?_⟩
             intro w hSw
             (try dsimp only at hSw)
             (try go_split_ands)
             go_simp
             (first | done | with_reducible rfl))
      try simp only [Act.put, List.setIfInBounds_toArray, List.set_cons_zero, List.set_cons_succ]
      refine take_h 2 ⟨?_, ?_, ?_, by kernel_rfl, by kernel_rfl, by kernel_rfl, ?_, ?_, by assumption, ?_⟩
      rotate_left 2
      · (simp only [List.getElem?_toArray, List.getElem?_cons_succ, List.getElem?_cons_zero]; exact rfl)
      · exact fun _ _ _ h => h
      · first
          | (refine Or.inr ⟨by rfl, ?_⟩; exact rfl)
          | (refine Or.inl ⟨by rfl, ?_⟩
             intro w hSw
             (try dsimp only at hSw)
             (try go_split_ands)
             go_simp
             (first | done | with_reducible rfl))
      try simp only [Act.put, List.setIfInBounds_toArray, List.set_cons_zero, List.set_cons_succ]
      refine take_h 3 ⟨?_, ?_, ?_, by kernel_rfl, by kernel_rfl, by kernel_rfl, ?_, ?_, by assumption, ?_⟩
      rotate_left 2
      · (simp only [List.getElem?_toArray, List.getElem?_cons_succ, List.getElem?_cons_zero]; exact rfl)
      · exact fun _ _ _ h => h
      · first
          | (refine Or.inr ⟨by rfl, ?_⟩; exact rfl)
          | (refine Or.inl ⟨by rfl, ?_⟩
             intro w hSw
             (try dsimp only at hSw)
             (try go_split_ands)
             go_simp
             (first | done | with_reducible rfl))
      try simp only [Act.put, List.setIfInBounds_toArray, List.set_cons_zero, List.set_cons_succ]
      refine take_h 4 ⟨?_, ?_, ?_, by kernel_rfl, by kernel_rfl, by kernel_rfl, ?_, ?_, by assumption, ?_⟩
      rotate_left 2
      · (simp only [List.getElem?_toArray, List.getElem?_cons_succ, List.getElem?_cons_zero]; exact rfl)
      · exact fun _ _ _ h => h
      · first
          | (refine Or.inr ⟨by rfl, ?_⟩; exact rfl)
          | (refine Or.inl ⟨by rfl, ?_⟩
             intro w hSw
             (try dsimp only at hSw)
             (try go_split_ands)
             go_simp
             (first | done | with_reducible rfl))
      try simp only [Act.put, List.setIfInBounds_toArray, List.set_cons_zero, List.set_cons_succ]
      refine take_h 5 ⟨?_, ?_, ?_, by kernel_rfl, by kernel_rfl, by kernel_rfl, ?_, ?_, by assumption, ?_⟩
      rotate_left 2
      · (simp only [List.getElem?_toArray, List.getElem?_cons_succ, List.getElem?_cons_zero]; exact rfl)
      · exact fun _ _ _ h => h
      · first
          | (refine Or.inr ⟨by rfl, ?_⟩; exact rfl)
          | (refine Or.inl ⟨by rfl, ?_⟩
             intro w hSw
             (try dsimp only at hSw)
             (try go_split_ands)
             go_simp
             (first | done | with_reducible rfl))
      try simp only [Act.put, List.setIfInBounds_toArray, List.set_cons_zero, List.set_cons_succ]
      refine take_h 6 ⟨?_, ?_, ?_, by kernel_rfl, by kernel_rfl, by kernel_rfl, ?_, ?_, by assumption, ?_⟩
      rotate_left 2
      · (simp only [List.getElem?_toArray, List.getElem?_cons_succ, List.getElem?_cons_zero]; exact rfl)
      · exact fun _ _ _ h => h
      · first
          | (refine Or.inr ⟨by rfl, ?_⟩; exact rfl)
          | (refine Or.inl ⟨by rfl, ?_⟩
             intro w hSw
             (try dsimp only at hSw)
             (try go_split_ands)
             go_simp
             (first | done | with_reducible rfl))
      try simp only [Act.put, List.setIfInBounds_toArray, List.set_cons_zero, List.set_cons_succ]
      refine take_h 7 ⟨?_, ?_, ?_, by kernel_rfl, by kernel_rfl, by kernel_rfl, ?_, ?_, by assumption, ?_⟩
      rotate_left 2
      · (simp only [List.getElem?_toArray, List.getElem?_cons_succ, List.getElem?_cons_zero]; exact rfl)
      · exact fun _ _ _ h => h
      · first
          | (refine Or.inr ⟨by rfl, ?_⟩; exact rfl)
          | (refine Or.inl ⟨by rfl, ?_⟩
             intro w hSw
             (try dsimp only at hSw)
             (try go_split_ands)
             go_simp
             (first | done | with_reducible rfl))
      try simp only [Act.put, List.setIfInBounds_toArray, List.set_cons_zero, List.set_cons_succ]
      refine take_h 8 ⟨?_, ?_, ?_, by kernel_rfl, by kernel_rfl, by kernel_rfl, ?_, ?_, by assumption, ?_⟩
      rotate_left 2
      · (simp only [List.getElem?_toArray, List.getElem?_cons_succ, List.getElem?_cons_zero]; exact rfl)
      · exact fun _ _ _ h => h
      · first
          | (refine Or.inr ⟨by rfl, ?_⟩; exact rfl)
          | (refine Or.inl ⟨by rfl, ?_⟩
             intro w hSw
             (try dsimp only at hSw)
             (try go_split_ands)
             go_simp
             (first | done | with_reducible rfl))
      try simp only [Act.put, List.setIfInBounds_toArray, List.set_cons_zero, List.set_cons_succ]
      refine wpAnyH_done (by kernel_rfl) ?_ _
      go_wp2
      go_roundw
      case rel => exact ⟨k + 1, by omega, by go_num, hb.drew, nd + 1, rfl⟩
      case measure => simp [intOf]; omega
    · have : k = A.length := by omega
      subst this
      go_wp2
      go_ret
      exact ⟨rfl, hb⟩
end Go.Proofs.YtimjbojoeacaeaaDoor
