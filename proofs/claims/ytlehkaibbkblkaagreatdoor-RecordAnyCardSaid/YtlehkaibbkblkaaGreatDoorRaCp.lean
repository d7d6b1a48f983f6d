/- Lists copied: numbers, messages, wishes, flights: of any. -/


import Derived.Test.YtlehkaibbkblkaaGreatDoorRcRd3
namespace Go.Proofs.YtlehkaibbkblkaaGreatDoor
open Go.RowKit
set_option maxRecDepth 20000 in
set_option maxHeartbeats 1000000 in
theorem cpI_any (w : World) (v : Value) (L : List Int) (Bd : Nat) (h : Rd w Bd 1 v L.length (eI.cells L)) (hBd : Bd ≤ w.heap.size) (hn : L.length ≤ 1000000000) :
    Calls Tryz.prog 60 #[v] w fun e w' => ∃ v', e = .returned v' ∧ w'.ownsRow w.heap.size 3 1 v' L.length (eI.cells L) ∧ Below w.heap.size w w' := by
  obtain ⟨ao, cap, rfl, hc, hm⟩ := h.form
  have hm' : cap ≤ 9223372036854775807 := by unfold maxLen at hm; omega
  have H := Lib.hid h
  clear h hm
  go_enter Tryz.func60, Tryz.ntmps60
  go_wp2
  go_loopw [3, 4] (fun v i wr => ∃ k : Nat, k ≤ L.length ∧ i = .int .i64 k ∧ wr.ownsRow w.heap.size 3 1 v k (eI.cells (L.take k)) ∧ Below w.heap.size w wr) (fun _ i _ => L.length - (intOf i).toNat)
  case atStart => exact ⟨0, by omega, rfl, by simpa using World.ownsRow_nil _ _ _ _, Below.refl _ _⟩
  case round =>
    obtain ⟨k, hk, rfl, hown, hb⟩ := hrel
    have HO := Lib.hid hown
    have hzs := hb.size
    clear hown
    by_cases hlt : k < L.length
    · have hlt' : (k : Int) < (L.length : Int) := by omega
      obtain ⟨x, hx⟩ : ∃ x, L[k]? = some x := ⟨_, List.getElem?_eq_getElem hlt⟩
      obtain ⟨b, o, rfl, _, hcs⟩ := Enc.rd_cell (E := eI) (H.out.below (hb.mono hBd)) rfl hx
      obtain x0 := (show wr.cell? ⟨b, o + k, none⟩ = some (.int .i64 x) by simpa [eI] using hcs 0 _ rfl)
      have HS : Hid (eI.cells (L.take k) ++ eI.c x = eI.cells (L.take (k + 1))) := Lib.hid (by rw [← eI.cells_one x, ← eI.cells_app, List.take_add_one, hx]; rfl)
      have HA := Lib.hid (enc_new eI wr 3 x)
      clear hx hcs
      simp only [eI] at HA
      go_wp2_with (at_builtin; refine wpList_app _ rfl (.tmp 11) (.tmp 16) _ rfl w.heap.size 3 (.int .i64 0) 1 8 Tryz.underlying25 inf_I rfl (by omega) _ k (eI.cells (L.take k)) rfl (HO.out.alloc _) _ _ 1 (eI.c x) rfl HA.out (eI.one _) ?_ ?_ ?_ ?_)
      · unfold maxLen; omega
      · omega
      · simp; omega
      intro v1 w1 hown1 hg1 _
      have hb1 := (hb.alloc hzs _).grown hg1 (by simp; omega) (fun g hg => (HO.out.lt g hg).1)
      rw [HS.out] at hown1
      have HO1 := Lib.hid hown1
      clear hown1 hg1
      go_wp2
      go_roundw
      case rel => exact ⟨k + 1, by omega, by go_num, HO1.out, hb1⟩
      case measure => simp [intOf]; omega
    · have : k = L.length := by omega
      subst this
      go_wp2
      go_ret
      exact ⟨_, rfl, by simpa using HO.out, hb⟩
set_option maxRecDepth 20000 in
set_option maxHeartbeats 1000000 in
theorem cpM_any (w : World) (v : Value) (L : List Msg) (Bd : Nat) (h : Rd w Bd 4 v L.length (eM.cells L)) (hBd : Bd ≤ w.heap.size) (hn : L.length ≤ 1000000000) :
    Calls Tryz.prog 40 #[v] w fun e w' => ∃ v', e = .returned v' ∧ w'.ownsRow w.heap.size 64 4 v' L.length (eM.cells L) ∧ Below w.heap.size w w' := by
  obtain ⟨ao, cap, rfl, hc, hm⟩ := h.form
  have hm' : cap ≤ 9223372036854775807 := by unfold maxLen at hm; omega
  have H := Lib.hid h
  clear h hm
  go_enter Tryz.func40, Tryz.ntmps40
  go_wp2
  go_loopw [3, 4] (fun v i wr => ∃ k : Nat, k ≤ L.length ∧ i = .int .i64 k ∧ wr.ownsRow w.heap.size 64 4 v k (eM.cells (L.take k)) ∧ Below w.heap.size w wr) (fun _ i _ => L.length - (intOf i).toNat)
  case atStart => exact ⟨0, by omega, rfl, by simpa using World.ownsRow_nil _ _ _ _, Below.refl _ _⟩
  case round =>
    obtain ⟨k, hk, rfl, hown, hb⟩ := hrel
    have HO := Lib.hid hown
    have hzs := hb.size
    clear hown
    by_cases hlt : k < L.length
    · have hlt' : (k : Int) < (L.length : Int) := by omega
      obtain ⟨x, hx⟩ : ∃ x, L[k]? = some x := ⟨_, List.getElem?_eq_getElem hlt⟩
      obtain ⟨b, o, rfl, _, hcs⟩ := Enc.rd_cell (E := eM) (H.out.below (hb.mono hBd)) rfl hx
      obtain ⟨x0, x1, x2, x3⟩ := msg_cells (show World.rangeAt _ b (o + k * 4) (eM.c x) from hcs)
      have HS : Hid (eM.cells (L.take k) ++ eM.c x = eM.cells (L.take (k + 1))) := Lib.hid (by rw [← eM.cells_one x, ← eM.cells_app, List.take_add_one, hx]; rfl)
      have HA := Lib.hid (enc_new eM wr 64 x)
      clear hx hcs
      simp only [eM, msgC] at HA
      go_wp2_with (at_builtin; refine wpList_app _ rfl (.tmp 11) (.tmp 16) _ rfl w.heap.size 64 (.agg #[.string ⟨#[]⟩, .string ⟨#[]⟩, .int .i64 0, .bool false]) 4 48 Tryz.underlying27 inf_M rfl (by omega) _ k (eM.cells (L.take k)) rfl (HO.out.alloc _) _ _ 1 (eM.c x) rfl HA.out (eM.one _) ?_ ?_ ?_ ?_)
      · unfold maxLen; omega
      · omega
      · simp; omega
      intro v1 w1 hown1 hg1 _
      have hb1 := (hb.alloc hzs _).grown hg1 (by simp; omega) (fun g hg => (HO.out.lt g hg).1)
      rw [HS.out] at hown1
      have HO1 := Lib.hid hown1
      clear hown1 hg1
      go_wp2
      go_roundw
      case rel => exact ⟨k + 1, by omega, by go_num, HO1.out, hb1⟩
      case measure => simp [intOf]; omega
    · have : k = L.length := by omega
      subst this
      go_wp2
      go_ret
      exact ⟨_, rfl, by simpa using HO.out, hb⟩
set_option maxRecDepth 20000 in
set_option maxHeartbeats 1000000 in
theorem cpW_any (w : World) (v : Value) (L : List Wish1) (Bd : Nat) (h : Rd w Bd 2 v L.length (eW.cells L)) (hBd : Bd ≤ w.heap.size) (hn : L.length ≤ 1000000000) :
    Calls Tryz.prog 58 #[v] w fun e w' => ∃ v', e = .returned v' ∧ w'.ownsRow w.heap.size 62 2 v' L.length (eW.cells L) ∧ Below w.heap.size w w' := by
  obtain ⟨ao, cap, rfl, hc, hm⟩ := h.form
  have hm' : cap ≤ 9223372036854775807 := by unfold maxLen at hm; omega
  have H := Lib.hid h
  clear h hm
  go_enter Tryz.func58, Tryz.ntmps58
  go_wp2
  go_loopw [3, 4] (fun v i wr => ∃ k : Nat, k ≤ L.length ∧ i = .int .i64 k ∧ wr.ownsRow w.heap.size 62 2 v k (eW.cells (L.take k)) ∧ Below w.heap.size w wr) (fun _ i _ => L.length - (intOf i).toNat)
  case atStart => exact ⟨0, by omega, rfl, by simpa using World.ownsRow_nil _ _ _ _, Below.refl _ _⟩
  case round =>
    obtain ⟨k, hk, rfl, hown, hb⟩ := hrel
    have HO := Lib.hid hown
    have hzs := hb.size
    clear hown
    by_cases hlt : k < L.length
    · have hlt' : (k : Int) < (L.length : Int) := by omega
      obtain ⟨x, hx⟩ : ∃ x, L[k]? = some x := ⟨_, List.getElem?_eq_getElem hlt⟩
      obtain ⟨b, o, rfl, _, hcs⟩ := Enc.rd_cell (E := eW) (H.out.below (hb.mono hBd)) rfl hx
      obtain ⟨x0, x1⟩ := (show wr.cell? ⟨b, o + k * 2, none⟩ = some (.string x.f) ∧ wr.cell? ⟨b, o + k * 2 + 1, none⟩ = some (.int .i64 x.q) from ⟨hcs 0 _ rfl, hcs 1 _ rfl⟩)
      have HS : Hid (eW.cells (L.take k) ++ eW.c x = eW.cells (L.take (k + 1))) := Lib.hid (by rw [← eW.cells_one x, ← eW.cells_app, List.take_add_one, hx]; rfl)
      have HA := Lib.hid (enc_new eW wr 62 x)
      clear hx hcs
      simp only [eW] at HA
      go_wp2_with (at_builtin; refine wpList_app _ rfl (.tmp 11) (.tmp 16) _ rfl w.heap.size 62 (.agg #[.string ⟨#[]⟩, .int .i64 0]) 2 24 Tryz.underlying45 inf_W rfl (by omega) _ k (eW.cells (L.take k)) rfl (HO.out.alloc _) _ _ 1 (eW.c x) rfl HA.out (eW.one _) ?_ ?_ ?_ ?_)
      · unfold maxLen; omega
      · omega
      · simp; omega
      intro v1 w1 hown1 hg1 _
      have hb1 := (hb.alloc hzs _).grown hg1 (by simp; omega) (fun g hg => (HO.out.lt g hg).1)
      rw [HS.out] at hown1
      have HO1 := Lib.hid hown1
      clear hown1 hg1
      go_wp2
      go_roundw
      case rel => exact ⟨k + 1, by omega, by go_num, HO1.out, hb1⟩
      case measure => simp [intOf]; omega
    · have : k = L.length := by omega
      subst this
      go_wp2
      go_ret
      exact ⟨_, rfl, by simpa using HO.out, hb⟩
set_option maxRecDepth 20000 in
set_option maxHeartbeats 1000000 in
theorem cpF_any (w : World) (v : Value) (L : List Fl) (Bd : Nat) (h : Rd w Bd 6 v L.length (eF.cells L)) (hBd : Bd ≤ w.heap.size) (hn : L.length ≤ 1000000000) :
    Calls Tryz.prog 72 #[v] w fun e w' => ∃ v', e = .returned v' ∧ w'.ownsRow w.heap.size 67 6 v' L.length (eF.cells L) ∧ Below w.heap.size w w' := by
  obtain ⟨ao, cap, rfl, hc, hm⟩ := h.form
  have hm' : cap ≤ 9223372036854775807 := by unfold maxLen at hm; omega
  have H := Lib.hid h
  clear h hm
  go_enter Tryz.func72, Tryz.ntmps72
  go_wp2
  go_loopw [3, 4] (fun v i wr => ∃ k : Nat, k ≤ L.length ∧ i = .int .i64 k ∧ wr.ownsRow w.heap.size 67 6 v k (eF.cells (L.take k)) ∧ Below w.heap.size w wr) (fun _ i _ => L.length - (intOf i).toNat)
  case atStart => exact ⟨0, by omega, rfl, by simpa using World.ownsRow_nil _ _ _ _, Below.refl _ _⟩
  case round =>
    obtain ⟨k, hk, rfl, hown, hb⟩ := hrel
    have HO := Lib.hid hown
    have hzs := hb.size
    clear hown
    by_cases hlt : k < L.length
    · have hlt' : (k : Int) < (L.length : Int) := by omega
      obtain ⟨x, hx⟩ : ∃ x, L[k]? = some x := ⟨_, List.getElem?_eq_getElem hlt⟩
      obtain ⟨b, o, rfl, _, hcs⟩ := Enc.rd_cell (E := eF) (H.out.below (hb.mono hBd)) rfl hx
      obtain ⟨x0, x1, x2, x3, x4, x5⟩ := fl_cells (show World.rangeAt _ b (o + k * 6) (eF.c x) from hcs)
      have HS : Hid (eF.cells (L.take k) ++ eF.c x = eF.cells (L.take (k + 1))) := Lib.hid (by rw [← eF.cells_one x, ← eF.cells_app, List.take_add_one, hx]; rfl)
      have HA := Lib.hid (enc_new eF wr 67 x)
      clear hx hcs
      simp only [eF, flC] at HA
      go_wp2_with (at_builtin; refine wpList_app _ rfl (.tmp 11) (.tmp 16) _ rfl w.heap.size 67 (.agg #[.int .i64 0, .string ⟨#[]⟩, .string ⟨#[]⟩, .int .i64 0, .bool false, .bool false]) 6 64 Tryz.underlying46 inf_F rfl (by omega) _ k (eF.cells (L.take k)) rfl (HO.out.alloc _) _ _ 1 (eF.c x) rfl HA.out (eF.one _) ?_ ?_ ?_ ?_)
      · unfold maxLen; omega
      · omega
      · simp; omega
      intro v1 w1 hown1 hg1 _
      have hb1 := (hb.alloc hzs _).grown hg1 (by simp; omega) (fun g hg => (HO.out.lt g hg).1)
      rw [HS.out] at hown1
      have HO1 := Lib.hid hown1
      clear hown1 hg1
      go_wp2
      go_roundw
      case rel => exact ⟨k + 1, by omega, by go_num, HO1.out, hb1⟩
      case measure => simp [intOf]; omega
    · have : k = L.length := by omega
      subst this
      go_wp2
      go_ret
      exact ⟨_, rfl, by simpa using HO.out, hb⟩
end Go.Proofs.YtlehkaibbkblkaaGreatDoor
