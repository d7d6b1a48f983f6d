/- The page's own: a broker may be: of any. -/


import Derived.Test.YtknnaeejkmlnbaaGreatDoorDuS
import Derived.Test.YtknnaeejkmlnbaaGreatDoorRcMay3
import Derived.Test.YtknnaeejkmlnbaaGreatDoorGf
namespace Go.Proofs.YtknnaeejkmlnbaaGreatDoor
open Go.RowKit Go.Shelf Go.Proofs
set_option maxHeartbeats 1000000 in
theorem In_any (w : World) (v : Value) (L : List Int) (n : Int) (Bd : Nat) (h : Rd w Bd 1 v L.length (eI.cells L)) :
    Calls Tryz.prog 25 #[v, .int .i64 n] w fun e w' => ∃ r : Int, e = .returned (.int .i64 r) ∧ (0 ≤ r ↔ n ∈ L) ∧ w = w' := by
  obtain ⟨ao, cap, rfl, hc, hm⟩ := h.form
  have hc2 : cap ≤ 9223372036854775807 := by unfold maxLen at hm; omega
  have H := Lib.hid h
  clear h hm
  go_enter Tryz.func25, Tryz.ntmps25
  go_wp2
  go_loopw [5] (fun i wr => ∃ k : Nat, i = .int .i64 k ∧ w = wr ∧ Hid (∀ j x, j < k → L[j]? = some x → x ≠ n)) (fun i _ => L.length - (intOf i).toNat)
  case atStart => exact ⟨0, rfl, rfl, Lib.hid (fun j x hj => by omega)⟩
  case round =>
    obtain ⟨k, rfl, rfl, HK⟩ := hrel
    by_cases hlt : k < L.length
    · have hlt' : (k : Int) < (L.length : Int) := by omega
      obtain ⟨x, hx⟩ : ∃ x, L[k]? = some x := ⟨_, List.getElem?_eq_getElem hlt⟩
      obtain ⟨b, o, rfl, _, hcs⟩ := Enc.rd_cell (E := eI) H.out rfl hx
      have x0 : w.cell? ⟨b, o + k, none⟩ = some (.int .i64 x) := by simpa [eI] using hcs 0 _ rfl
      have HX := Lib.hid hx
      clear hcs hx
      by_cases e : x = n
      · have he : (x == n) = true := beq_iff_eq.2 e
        have HM : Hid (n ∈ L) := Lib.hid (e ▸ List.mem_of_getElem? HX.out)
        clear e
        go_wp2
        go_ret
        exact ⟨_, rfl, ⟨fun _ => HM.out, fun _ => by omega⟩, rfl⟩
      · have he : (x == n) = false := beq_eq_false_iff_ne.2 e
        have HG : Hid (∀ j x, j < k + 1 → L[j]? = some x → x ≠ n) := Lib.hid (fun i z hi hz => by
          by_cases e2 : i = k
          · subst e2
            rw [HX.out] at hz
            injection hz with hz
            subst hz
            exact e
          · exact HK.out i z (by omega) hz)
        clear e
        go_wp2
        go_roundw
        case rel => exact ⟨k + 1, by go_num, by trivial, HG⟩
        case measure => simp [intOf]; omega
    · have hlt' : ¬ ((k : Int) < (L.length : Int)) := by omega
      have HM : Hid (n ∉ L) := Lib.hid (fun hm => by
        obtain ⟨j, hj⟩ := List.getElem?_of_mem hm
        exact HK.out j n (by have := (List.getElem?_eq_some_iff.1 hj).1; omega) hj rfl)
      go_wp2
      go_ret
      exact ⟨_, rfl, ⟨fun h => by omega, fun h => absurd h HM.out⟩, rfl⟩
theorem links_parts {L : List Int} : (∀ k x, L[k]? = some x → linkOk L k x) ↔ riseOk L ∧ betw L 1 1099511627776 := by
  constructor
  · intro h
    refine ⟨fun k x hx => (h k x hx).2.2, fun x hx => ?_⟩
    obtain ⟨k, hk⟩ := List.getElem?_of_mem hx
    exact ⟨(h k x hk).1, (h k x hk).2.1⟩
  · intro h k x hx
    exact ⟨(h.2 x (List.mem_of_getElem? hx)).1, (h.2 x (List.mem_of_getElem? hx)).2, h.1 k x hx⟩
theorem seen_no {L : List Int} {S : List Se} {i : Nat} {x : Int} (h0 : 0 < x) : x ∉ seenK L S i ↔ x ∉ L ∧ ∀ k s, k < i → S[k]? = some s → s.ln ≠ x := by
  unfold seenK
  rw [List.mem_append, not_or]
  refine and_congr_right fun _ => ⟨fun h k s hk hs e => h ?_, fun h hm => ?_⟩
  · rw [List.mem_filter]
    refine ⟨List.mem_map.2 ⟨s, List.mem_of_getElem? (i := k) (by rw [List.getElem?_take_of_lt hk]; exact hs), e⟩, by simpa using h0⟩
  · rw [List.mem_filter] at hm
    obtain ⟨s, hs, e⟩ := List.mem_map.1 hm.1
    obtain ⟨k, hk⟩ := List.getElem?_of_mem hs
    have hki : k < i := by have := (List.getElem?_eq_some_iff.1 hk).1; rw [List.length_take] at this; omega
    rw [List.getElem?_take_of_lt hki] at hk
    exact h k s hki hk e
theorem seen_zero {L : List Int} {S : List Se} {i : Nat} (h : betw L 1 1099511627776) : (0 : Int) ∉ seenK L S i := by
  unfold seenK
  rw [List.mem_append]
  rintro (h1 | h1)
  · have := (h 0 h1).1; omega
  · rw [List.mem_filter] at h1; simp at h1
set_option maxRecDepth 20000 in
set_option maxHeartbeats 16000000 in
theorem rbMay_any (w : World) (lv sv kv : Value) (R : List Rs) (b : Br) (h : BRd w w.heap.size lv sv kv R b) (hs : ShB b) (hE : Env w) :
    Calls Tryz.prog 7 #[.agg #[lv, sv, kv]] w fun e w' => e = .returned (.bool (yes (broOk b))) ∧ Below w.heap.size w w' := by
  obtain ⟨L, S, K⟩ := b
  obtain ⟨hRe, hRl, hRs, hRr, hRk⟩ := h
  obtain ⟨hsl, ⟨hss1, hss2⟩, hsk⟩ := hs
  simp only at hRe hRl hRk hsl hss1 hss2 hsk
  subst hRe
  obtain ⟨la, lc, rfl, _, hlm⟩ := hRl.form
  obtain ⟨sa, sc, rfl, _, hsm⟩ := hRs.form
  obtain ⟨ka, kc, rfl, _, _⟩ := hRk.form
  have hsc : sc ≤ 9223372036854775807 := by unfold maxLen at hsm; omega
  obtain ⟨B, hB⟩ : ∃ B, w.heap.size = B := ⟨_, rfl⟩
  obtain ⟨wa, hwa⟩ : ∃ wa, w.alloc (.cells #[.slice la L.length lc, .slice sa R.length sc, .slice ka K.length kc] 26) = wa := ⟨_, rfl⟩
  have hb0 : Below w.heap.size w wa := by rw [← hwa]; exact (Below.refl _ _).alloc (Nat.le_refl _) _
  have hW : Whole wa B 26 [.slice la L.length lc, .slice sa R.length sc, .slice ka K.length kc] := by rw [← hwa, ← hB]; exact Whole.new w 26 _
  have HCL := Lib.hid (fun wx (hx : Below wa.heap.size wa wx) => (hW.belowH hx).three)
  have HRI := Lib.hid (fun wx (hx : Below wa.heap.size wa wx) => Rising_any wx (.slice la L.length lc) L _ ((hRl.below hb0).below (hx.mono hb0.size)) (by omega))
  have HBE := Lib.hid (fun wx (hx : Below wa.heap.size wa wx) => Between_any wx (.slice la L.length lc) L 1 1099511627776 _ ((hRl.below hb0).below (hx.mono hb0.size)))
  have HIN := Lib.hid (fun wx (hx : Below wa.heap.size wa wx) (n : Int) => In_any wx (.slice la L.length lc) L n _ ((hRl.below hb0).below (hx.mono hb0.size)))
  have HKP := Lib.hid (fun wx (hx : Below wa.heap.size wa wx) => Kq.rKept_any wx (.slice ka K.length kc) (K.map k1) (by rw [k1_cells, List.length_map]; exact ((hRk.below hb0).below (hx.mono hb0.size)).more (Nat.le_trans hb0.size hx.size)) (fun i x hi => by
    obtain ⟨m, hm, rfl⟩ := List.mem_map.1 (List.mem_of_getElem? hi)
    exact hsk m hm) ((hE.below hb0).below hx))
  have HRS := Lib.hid (fun wx (hx : Below wa.heap.size wa wx) => (hRs.below hb0).below (hx.mono hb0.size))
  have HRR := Lib.hid (fun x (hm : x ∈ R) wx (hx : Below wa.heap.size wa wx) => (((hRr x hm).below hb0).below (hx.mono hb0.size)).more (Nat.le_trans hb0.size hx.size))
  have HEE := Lib.hid (fun wx (hx : Below wa.heap.size wa wx) => (hE.below hb0).below hx)
  have HSH : Hid (∀ x ∈ R, ShS x.s) := Lib.hid (fun x hx => hss2 x.s (List.mem_map.2 ⟨x, hx, rfl⟩))
  have HNO : Hid (¬ broOk ⟨L, R.map (·.s), K⟩ → yes (broOk ⟨L, R.map (·.s), K⟩) = false) := Lib.hid yes_false
  have HWA := Lib.hid hwa
  have HB0 := Lib.hid hb0
  have HBB := Lib.hid hB
  obtain ⟨c0, c1, c2, _, _, _⟩ := hW.three
  have hcur := Below.refl wa.heap.size wa
  clear hRl hRs hRr hRk hss2 hsk hE hwa hb0 hW hlm hsm hss1
  go_enter Tryz.func7, Tryz.ntmps7
  go_upto_region 1 with fail
  rw [HWA.out]
  clear hB
  by_cases g1 : (8 : Int) < (L.length : Int)
  · have HR := Lib.hid (HNO.out (fun h => by have h1 := h.2.2.2.2; have : L.length ≤ (seenK L (R.map (·.s)) (R.map (·.s)).length).length := (by unfold seenK; rw [List.length_append]; omega); simp only at h1; omega))
    go_wp2_with first
      | (go_at_call 21; refine (HRI.out _ hcur).mono ?_; rintro e wz ⟨rfl, hbz⟩; replace hcur := b_tr hcur hbz; clear hbz c0 c1 c2; obtain ⟨c0, c1, c2, _, _, _⟩ := HCL.out _ hcur)
      | (go_at_call 22; refine (HBE.out _ hcur).mono ?_; rintro e w' ⟨rfl, rfl⟩)
      | (go_at_call 23; refine (HKP.out _ hcur).mono ?_; rintro e wz ⟨rfl, hbz⟩; replace hcur := b_tr hcur hbz; clear hbz c0 c1 c2; obtain ⟨c0, c1, c2, _, _, _⟩ := HCL.out _ hcur)
    go_ret
    exact ⟨by rw [HR.out]; rfl, b_tr HB0.out hcur⟩
  cases hvr : yes (riseOk L)
  · rw [hvr] at HRI
    have HR := Lib.hid (HNO.out (fun h => yes_not.1 hvr (links_parts.1 h.2.2.1).1))
    go_wp2_with first
      | (go_at_call 21; refine (HRI.out _ hcur).mono ?_; rintro e wz ⟨rfl, hbz⟩; replace hcur := b_tr hcur hbz; clear hbz c0 c1 c2; obtain ⟨c0, c1, c2, _, _, _⟩ := HCL.out _ hcur)
      | (go_at_call 22; refine (HBE.out _ hcur).mono ?_; rintro e w' ⟨rfl, rfl⟩)
      | (go_at_call 23; refine (HKP.out _ hcur).mono ?_; rintro e wz ⟨rfl, hbz⟩; replace hcur := b_tr hcur hbz; clear hbz c0 c1 c2; obtain ⟨c0, c1, c2, _, _, _⟩ := HCL.out _ hcur)
    go_ret
    exact ⟨by rw [HR.out]; rfl, b_tr HB0.out hcur⟩
  cases hvt : yes (betw L 1 1099511627776)
  · rw [hvr] at HRI
    rw [hvt] at HBE
    have HR := Lib.hid (HNO.out (fun h => yes_not.1 hvt (links_parts.1 h.2.2.1).2))
    go_wp2_with first
      | (go_at_call 21; refine (HRI.out _ hcur).mono ?_; rintro e wz ⟨rfl, hbz⟩; replace hcur := b_tr hcur hbz; clear hbz c0 c1 c2; obtain ⟨c0, c1, c2, _, _, _⟩ := HCL.out _ hcur)
      | (go_at_call 22; refine (HBE.out _ hcur).mono ?_; rintro e w' ⟨rfl, rfl⟩)
      | (go_at_call 23; refine (HKP.out _ hcur).mono ?_; rintro e wz ⟨rfl, hbz⟩; replace hcur := b_tr hcur hbz; clear hbz c0 c1 c2; obtain ⟨c0, c1, c2, _, _, _⟩ := HCL.out _ hcur)
    go_ret
    exact ⟨by rw [HR.out]; rfl, b_tr HB0.out hcur⟩
  rw [hvr] at HRI
  rw [hvt] at HBE
  by_cases g2 : (8 : Int) < (R.length : Int)
  · have HR := Lib.hid (HNO.out (fun h => by have h1 := h.1; simp only [List.length_map] at h1; omega))
    go_wp2_with first
      | (go_at_call 21; refine (HRI.out _ hcur).mono ?_; rintro e wz ⟨rfl, hbz⟩; replace hcur := b_tr hcur hbz; clear hbz c0 c1 c2; obtain ⟨c0, c1, c2, _, _, _⟩ := HCL.out _ hcur)
      | (go_at_call 22; refine (HBE.out _ hcur).mono ?_; rintro e w' ⟨rfl, rfl⟩)
      | (go_at_call 23; refine (HKP.out _ hcur).mono ?_; rintro e wz ⟨rfl, hbz⟩; replace hcur := b_tr hcur hbz; clear hbz c0 c1 c2; obtain ⟨c0, c1, c2, _, _, _⟩ := HCL.out _ hcur)
    go_ret
    exact ⟨by rw [HR.out]; rfl, b_tr HB0.out hcur⟩
  cases hvk : Kq.subsB (K.map k1)
  · rw [hvk] at HKP
    have HR := Lib.hid (HNO.out (fun h => by have h1 := h.2.1; simp only at h1; rw [hvk] at h1; cases h1))
    go_wp2_with first
      | (go_at_call 21; refine (HRI.out _ hcur).mono ?_; rintro e wz ⟨rfl, hbz⟩; replace hcur := b_tr hcur hbz; clear hbz c0 c1 c2; obtain ⟨c0, c1, c2, _, _, _⟩ := HCL.out _ hcur)
      | (go_at_call 22; refine (HBE.out _ hcur).mono ?_; rintro e w' ⟨rfl, rfl⟩)
      | (go_at_call 23; refine (HKP.out _ hcur).mono ?_; rintro e wz ⟨rfl, hbz⟩; replace hcur := b_tr hcur hbz; clear hbz c0 c1 c2; obtain ⟨c0, c1, c2, _, _, _⟩ := HCL.out _ hcur)
    go_ret
    exact ⟨by rw [HR.out]; rfl, b_tr HB0.out hcur⟩
  rw [hvk] at HKP
  have HLK : Hid (∀ k x, L[k]? = some x → linkOk L k x) := Lib.hid (links_parts.2 ⟨yes_iff.1 hvr, yes_iff.1 hvt⟩)
  have HBW := Lib.hid (yes_iff.1 hvt)
  have HKK := Lib.hid hvk
  have hrl : R.length ≤ 8 := by omega
  have hll : L.length ≤ 8 := by omega
  clear hvr hvt hvk
  go_upto_region 4 with first
    | (go_at_call 21; refine (HRI.out _ hcur).mono ?_; rintro e wz ⟨rfl, hbz⟩; replace hcur := b_tr hcur hbz; clear hbz c0 c1 c2; obtain ⟨c0, c1, c2, _, _, _⟩ := HCL.out _ hcur)
    | (go_at_call 22; refine (HBE.out _ hcur).mono ?_; rintro e w' ⟨rfl, rfl⟩)
    | (go_at_call 23; refine (HKP.out _ hcur).mono ?_; rintro e wz ⟨rfl, hbz⟩; replace hcur := b_tr hcur hbz; clear hbz c0 c1 c2; obtain ⟨c0, c1, c2, _, _, _⟩ := HCL.out _ hcur)
  clear HRI HBE HKP
  go_wp2
  go_loopw [3, 4] (fun n i wr => ∃ k : Nat, k ≤ R.length ∧ n = .int .i64 (seenK L (R.map (·.s)) k).length ∧ i = .int .i64 k ∧ Below wa.heap.size wa wr ∧ Hid (∀ j s, j < k → (R.map (·.s))[j]? = some s → sesAt L (R.map (·.s)) j s)) (fun _ i _ => R.length - (intOf i).toNat)
  case atStart => exact ⟨0, by omega, by simp [seenK], rfl, hcur, Lib.hid (fun j s hj => by omega)⟩
  case round =>
    clear hcur c0 c1 c2
    obtain ⟨k, hkl, rfl, rfl, hb, HP⟩ := hrel
    obtain ⟨c0, c1, c2, _, _, _⟩ := HCL.out _ hb
    obtain ⟨N, hN⟩ : ∃ N, (seenK L (R.map (·.s)) k).length = N := ⟨_, rfl⟩
    have hNs : N ≤ 8 + k := by
      rw [← hN]
      unfold seenK
      rw [List.length_append]
      have h1 := List.length_filter_le (fun x : Int => decide (0 < x)) (((R.map (·.s)).take k).map (·.ln))
      rw [List.length_map, List.length_take, List.length_map] at h1
      omega
    have HN := Lib.hid hN
    rw [hN]
    clear hN
    by_cases hlt : k < R.length
    · have hlt' : (k : Int) < (R.length : Int) := by omega
      obtain ⟨x, hx⟩ : ∃ x, R[k]? = some x := ⟨_, List.getElem?_eq_getElem hlt⟩
      obtain ⟨b, o, rfl, _, hcs⟩ := Enc.rd_cell (E := eS) (HRS.out _ hb) rfl hx
      have hxs : (R.map (·.s))[k]? = some x.s := by rw [List.getElem?_map, hx]; rfl
      obtain ⟨x0, x1, x2, x3, x4, x5, x6, x7, x8, x9, x10, x11, x12, x13, x14⟩ := ses_cells (show World.rangeAt _ b (o + k * 15) (eS.c x) from hcs)
      obtain ⟨wT, hwT⟩ : ∃ wT, wr.alloc (.cells (seC x).toArray 61) = wT := ⟨_, rfl⟩
      have hbT : Below wr.heap.size wr wT := by rw [← hwT]; exact (Below.refl _ _).alloc (Nat.le_refl _) _
      have hWT : Whole wT wr.heap.size 61 (seC x) := by rw [← hwT]; exact Whole.new wr 61 _
      obtain ⟨T, hT⟩ : ∃ T, wr.heap.size = T := ⟨_, rfl⟩
      rw [hT] at hWT
      have HT := Lib.hid hT
      clear hT
      have hSE := fun wx (hx2 : Below wT.heap.size wT wx) => rses_any wx x (HRR.out x (List.mem_of_getElem? hx) wx (b_tr (b_tr hb hbT) hx2)) (HSH.out x (List.mem_of_getElem? hx)) (HEE.out wx (b_tr (b_tr hb hbT) hx2))
      have HWT := Lib.hid hwT
      simp only [seC] at HWT
      have hcw := b_cell hbT c1
      have HXS := Lib.hid hxs
      have HWH := Lib.hid (fun wx (hx2 : Below wT.heap.size wT wx) => ses_whole (hWT.belowH hx2))
      have HBT := Lib.hid (b_tr hb hbT)
      have HPV : Hid (∀ j, k = j + 1 → ∃ y, R[j]? = some y) := Lib.hid (fun j hj => ⟨_, List.getElem?_eq_getElem (by omega)⟩)
      obtain ⟨P8, hP8⟩ : ∃ P8 : Prop, P8 = (sesOk x.s ∧ ∀ j y, j + 1 = k → (R.map (·.s))[j]? = some y → lessB y.c x.s.c = true) := ⟨_, rfl⟩
      obtain ⟨z8, hz8⟩ : ∃ z8 : Bool, z8 = !yes P8 := ⟨_, rfl⟩
      have HN8 : Hid (¬ P8 → z8 = true) := Lib.hid (fun h => by rw [hz8, yes_false h]; rfl)
      have HY8 : Hid (P8 → z8 = false) := Lib.hid (fun h => by rw [hz8, yes_true h]; rfl)
      have HZ8 := Lib.hid hz8
      have HP8 := Lib.hid hP8
      clear hx hcs hwT hxs hz8 hP8 hbT hWT
      go_upto_region 8 with fail
      rw [HWT.out, HT.out]
      clear x0 x1 x2 x3 x4 x5 x6 x7 x8 x9 x10 x11 x12 x13 x14 c0 c1 c2
      obtain ⟨x0, x1, x2, x3, x4, x5, x6, x7, x8, x9, x10, x11, x12, x13, x14⟩ := HWH.out _ (Below.refl _ _)
      go_cut [66] (fun s wx => s = .bool z8 ∧ Below wT.heap.size wT wx)
      case first =>
        as_aux_lemma =>
          by_cases hk1 : k = 0
          · have HK0 := Lib.hid hk1
            have hi0 : decide ((0 : Int) < (k : Int)) = false := decide_eq_false (by omega)
            have hi0' : ¬ (0 < k) := by omega
            have hi0'' : decide (0 < k) = false := decide_eq_false hi0'
            clear hk1
            cases hso : yes (sesOk x.s)
            · have HZZ := Lib.hid (HN8.out (fun h => by rw [HP8.out] at h; exact yes_not.1 hso h.1))
              rw [hso] at hSE
              have HSE := Lib.hid hSE
              clear hso hSE
              refine wp_region_held_drew (S := fun wx =>  wx.cell? ⟨B, 1, none⟩ = some (.slice (some ⟨b, o, none⟩) R.length sc) ∧ wx.cell? ⟨T, 0, none⟩ = some (.string x.s.c) ∧ wx.cell? ⟨T, 1, none⟩ = some (.bool x.s.cl) ∧ wx.cell? ⟨T, 2, none⟩ = some (.int .i64 x.s.ln) ∧ wx.cell? ⟨T, 3, none⟩ = some (.slice x.sa x.s.S.length x.sc) ∧ wx.cell? ⟨T, 4, none⟩ = some (.int .i64 x.s.o.last) ∧ wx.cell? ⟨T, 5, none⟩ = some (.slice x.fa x.s.o.F.length x.fc) ∧ wx.cell? ⟨T, 6, none⟩ = some (.slice x.qa x.s.o.Q.length x.qc) ∧ wx.cell? ⟨T, 7, none⟩ = some (.slice x.ia x.s.I.length x.ic) ∧ wx.cell? ⟨T, 8, none⟩ = some (.bool x.s.wl.is) ∧ wx.cell? ⟨T, 9, none⟩ = some (.string x.s.wl.t) ∧ wx.cell? ⟨T, 10, none⟩ = some (.string x.s.wl.p) ∧ wx.cell? ⟨T, 11, none⟩ = some (.int .i64 x.s.wl.q) ∧ wx.cell? ⟨T, 12, none⟩ = some (.bool x.s.wl.r) ∧ wx.cell? ⟨T, 13, none⟩ = some (.int .i64 x.s.keep) ∧ wx.cell? ⟨T, 14, none⟩ = some (.int .i64 x.s.idle)) (by kernel_rfl) ⟨hcw, x0, x1, x2, x3, x4, x5, x6, x7, x8, x9, x10, x11, x12, x13, x14⟩ (fun hHeld => ?_)
              refine tk 0 (by assumption) ?_
              (try simp only [aPt])
              refine wpAnyH_ready (rs := [1]) (by kernel_rfl) (by simp) ?_
              refine call_h 1 ⟨?_, ?_, fun K hK => ?_⟩
              rotate_left 1
              · (simp only [List.getElem?_toArray, List.getElem?_cons_succ, List.getElem?_cons_zero]; exact rfl)
              go_simp
              (go_at_call 24; refine (HSE.out _ (Below.refl wT.heap.size wT).drew).mono ?_; rintro e wz ⟨rfl, hbz⟩)
              go_wp2_with fail
              refine hK.out _ _ ⟨b_cell hbz hcw, HWH.out _ (b_tr (Below.refl wT.heap.size wT).drew hbz)⟩ (fun hHeld => ?_)
              clear hK K
              (try simp only [aPt])
              refine tk 2 (by assumption) ?_
              (try simp only [aPt])
              refine tk 3 (by assumption) ?_
              (try simp only [aPt])
              refine tk 4 (by assumption) ?_
              (try simp only [aPt])
              refine tk 5 (by assumption) ?_
              (try simp only [aPt])
              refine tk 6 (by assumption) ?_
              (try simp only [aPt])
              refine tk 7 (by assumption) ?_
              (try simp only [aPt])
              refine tk 8 (by assumption) ?_
              (try simp only [aPt])
              refine tk 9 (by assumption) ?_
              (try simp only [aPt])
              refine tk 10 (by assumption) ?_
              (try simp only [aPt])
              refine tk 11 (by assumption) ?_
              (try simp only [aPt])
              refine tk 12 (by assumption) ?_
              (try simp only [aPt])
              refine tk 13 (by assumption) ?_
              (try simp only [aPt])
              refine tk 14 (by assumption) ?_
              (try simp only [aPt])
              refine tk 15 (by assumption) ?_
              (try simp only [aPt])
              refine tk 16 (by assumption) ?_
              (try simp only [aPt])
              refine tk 17 (by assumption) ?_
              (try simp only [aPt])
              refine tk 18 (by assumption) ?_
              (try simp only [aPt])
              refine wpAnyH_done (by kernel_rfl) ?_ _
              clear hHeld
              have hbc := b_tr (Below.refl wT.heap.size wT).drew hbz
              go_wp2
              go_meet
              exact ⟨by rw [HZZ.out], hbc⟩
            · have HZZ := Lib.hid (HY8.out (by rw [HP8.out]; exact ⟨yes_iff.1 hso, fun j y hj => by have := HK0.out; omega⟩))
              rw [hso] at hSE
              have HSE := Lib.hid hSE
              clear hso hSE
              refine wp_region_held_drew (S := fun wx =>  wx.cell? ⟨B, 1, none⟩ = some (.slice (some ⟨b, o, none⟩) R.length sc) ∧ wx.cell? ⟨T, 0, none⟩ = some (.string x.s.c) ∧ wx.cell? ⟨T, 1, none⟩ = some (.bool x.s.cl) ∧ wx.cell? ⟨T, 2, none⟩ = some (.int .i64 x.s.ln) ∧ wx.cell? ⟨T, 3, none⟩ = some (.slice x.sa x.s.S.length x.sc) ∧ wx.cell? ⟨T, 4, none⟩ = some (.int .i64 x.s.o.last) ∧ wx.cell? ⟨T, 5, none⟩ = some (.slice x.fa x.s.o.F.length x.fc) ∧ wx.cell? ⟨T, 6, none⟩ = some (.slice x.qa x.s.o.Q.length x.qc) ∧ wx.cell? ⟨T, 7, none⟩ = some (.slice x.ia x.s.I.length x.ic) ∧ wx.cell? ⟨T, 8, none⟩ = some (.bool x.s.wl.is) ∧ wx.cell? ⟨T, 9, none⟩ = some (.string x.s.wl.t) ∧ wx.cell? ⟨T, 10, none⟩ = some (.string x.s.wl.p) ∧ wx.cell? ⟨T, 11, none⟩ = some (.int .i64 x.s.wl.q) ∧ wx.cell? ⟨T, 12, none⟩ = some (.bool x.s.wl.r) ∧ wx.cell? ⟨T, 13, none⟩ = some (.int .i64 x.s.keep) ∧ wx.cell? ⟨T, 14, none⟩ = some (.int .i64 x.s.idle)) (by kernel_rfl) ⟨hcw, x0, x1, x2, x3, x4, x5, x6, x7, x8, x9, x10, x11, x12, x13, x14⟩ (fun hHeld => ?_)
              refine tk 0 (by assumption) ?_
              (try simp only [aPt])
              refine wpAnyH_ready (rs := [1]) (by kernel_rfl) (by simp) ?_
              refine call_h 1 ⟨?_, ?_, fun K hK => ?_⟩
              rotate_left 1
              · (simp only [List.getElem?_toArray, List.getElem?_cons_succ, List.getElem?_cons_zero]; exact rfl)
              go_simp
              (go_at_call 24; refine (HSE.out _ (Below.refl wT.heap.size wT).drew).mono ?_; rintro e wz ⟨rfl, hbz⟩)
              go_wp2_with fail
              refine hK.out _ _ ⟨b_cell hbz hcw, HWH.out _ (b_tr (Below.refl wT.heap.size wT).drew hbz)⟩ (fun hHeld => ?_)
              clear hK K
              (try simp only [aPt])
              refine tk 2 (by assumption) ?_
              (try simp only [aPt])
              refine tk 3 (by assumption) ?_
              (try simp only [aPt])
              refine tk 4 (by assumption) ?_
              (try simp only [aPt])
              refine tk 5 (by assumption) ?_
              (try simp only [aPt])
              refine tk 6 (by assumption) ?_
              (try simp only [aPt])
              refine tk 7 (by assumption) ?_
              (try simp only [aPt])
              refine tk 8 (by assumption) ?_
              (try simp only [aPt])
              refine tk 9 (by assumption) ?_
              (try simp only [aPt])
              refine tk 10 (by assumption) ?_
              (try simp only [aPt])
              refine tk 11 (by assumption) ?_
              (try simp only [aPt])
              refine tk 12 (by assumption) ?_
              (try simp only [aPt])
              refine tk 13 (by assumption) ?_
              (try simp only [aPt])
              refine tk 14 (by assumption) ?_
              (try simp only [aPt])
              refine tk 15 (by assumption) ?_
              (try simp only [aPt])
              refine tk 16 (by assumption) ?_
              (try simp only [aPt])
              refine tk 17 (by assumption) ?_
              (try simp only [aPt])
              refine tk 18 (by assumption) ?_
              (try simp only [aPt])
              refine wpAnyH_done (by kernel_rfl) ?_ _
              clear hHeld
              have hbc := b_tr (Below.refl wT.heap.size wT).drew hbz
              go_wp2
              go_meet
              exact ⟨by rw [HZZ.out], hbc⟩
          · obtain ⟨j, hj⟩ : ∃ j, k = j + 1 := ⟨k - 1, by omega⟩
            obtain ⟨y, hy⟩ := HPV.out j hj
            obtain ⟨b', o', he, _, hcs2⟩ := Enc.rd_cell (E := eS) (HRS.out _ HBT.out) rfl hy
            injection he with he
            injection he with he1 he2
            subst he1 he2
            have y0 : wT.cell? ⟨b, o + j * 15, none⟩ = some (.string y.s.c) := hcs2 0 _ rfl
            have hys : (R.map (·.s))[j]? = some y.s := by rw [List.getElem?_map, hy]; rfl
            have hi0 : decide ((0 : Int) < (k : Int)) = true := decide_eq_true (by omega)
            have hi0' : 0 < k := by omega
            have hi0'' : decide (0 < k) = true := decide_eq_true hi0'
            have hj0 : (0 : Int) ≤ (j : Int) := by omega
            have hjl : (j : Int) < (R.length : Int) := by omega
            have hw1 : IntKind.i64.wrap ((k : Int) - 1) = (j : Int) := by
              have : (k : Int) - 1 = j := by omega
              rw [this]; exact IntWalk.i64_in _ ⟨by omega, by omega⟩
            have HJ := Lib.hid hj
            have HYS := Lib.hid hys
            clear hcs2 hy hj hys
            cases hso : yes (sesOk x.s)
            · have HZZ := Lib.hid (HN8.out (fun h => by rw [HP8.out] at h; exact yes_not.1 hso h.1))
              rw [hso] at hSE
              have HSE := Lib.hid hSE
              clear hso hSE
              refine wp_region_held_drew (S := fun wx =>  wx.cell? ⟨B, 1, none⟩ = some (.slice (some ⟨b, o, none⟩) R.length sc) ∧ wx.cell? ⟨T, 0, none⟩ = some (.string x.s.c) ∧ wx.cell? ⟨T, 1, none⟩ = some (.bool x.s.cl) ∧ wx.cell? ⟨T, 2, none⟩ = some (.int .i64 x.s.ln) ∧ wx.cell? ⟨T, 3, none⟩ = some (.slice x.sa x.s.S.length x.sc) ∧ wx.cell? ⟨T, 4, none⟩ = some (.int .i64 x.s.o.last) ∧ wx.cell? ⟨T, 5, none⟩ = some (.slice x.fa x.s.o.F.length x.fc) ∧ wx.cell? ⟨T, 6, none⟩ = some (.slice x.qa x.s.o.Q.length x.qc) ∧ wx.cell? ⟨T, 7, none⟩ = some (.slice x.ia x.s.I.length x.ic) ∧ wx.cell? ⟨T, 8, none⟩ = some (.bool x.s.wl.is) ∧ wx.cell? ⟨T, 9, none⟩ = some (.string x.s.wl.t) ∧ wx.cell? ⟨T, 10, none⟩ = some (.string x.s.wl.p) ∧ wx.cell? ⟨T, 11, none⟩ = some (.int .i64 x.s.wl.q) ∧ wx.cell? ⟨T, 12, none⟩ = some (.bool x.s.wl.r) ∧ wx.cell? ⟨T, 13, none⟩ = some (.int .i64 x.s.keep) ∧ wx.cell? ⟨T, 14, none⟩ = some (.int .i64 x.s.idle)) (by kernel_rfl) ⟨hcw, x0, x1, x2, x3, x4, x5, x6, x7, x8, x9, x10, x11, x12, x13, x14⟩ (fun hHeld => ?_)
              refine tk 0 (by assumption) ?_
              (try simp only [aPt])
              refine wpAnyH_ready (rs := [1]) (by kernel_rfl) (by simp) ?_
              refine call_h 1 ⟨?_, ?_, fun K hK => ?_⟩
              rotate_left 1
              · (simp only [List.getElem?_toArray, List.getElem?_cons_succ, List.getElem?_cons_zero]; exact rfl)
              go_simp
              (go_at_call 24; refine (HSE.out _ (Below.refl wT.heap.size wT).drew).mono ?_; rintro e wz ⟨rfl, hbz⟩)
              go_wp2_with fail
              refine hK.out _ _ ⟨b_cell hbz hcw, HWH.out _ (b_tr (Below.refl wT.heap.size wT).drew hbz)⟩ (fun hHeld => ?_)
              clear hK K
              (try simp only [aPt])
              refine tk 2 (by assumption) ?_
              (try simp only [aPt])
              refine tk 3 (by assumption) ?_
              (try simp only [aPt])
              refine tk 4 (by assumption) ?_
              (try simp only [aPt])
              refine tk 5 (by assumption) ?_
              (try simp only [aPt])
              refine tk 6 (by assumption) ?_
              (try simp only [aPt])
              refine tk 7 (by assumption) ?_
              (try simp only [aPt])
              refine tk 8 (by assumption) ?_
              (try simp only [aPt])
              refine tk 9 (by assumption) ?_
              (try simp only [aPt])
              refine tk 10 (by assumption) ?_
              (try simp only [aPt])
              refine tk 11 (by assumption) ?_
              (try simp only [aPt])
              refine tk 12 (by assumption) ?_
              (try simp only [aPt])
              refine tk 13 (by assumption) ?_
              (try simp only [aPt])
              refine tk 14 (by assumption) ?_
              (try simp only [aPt])
              refine tk 15 (by assumption) ?_
              (try simp only [aPt])
              refine tk 16 (by assumption) ?_
              (try simp only [aPt])
              refine tk 17 (by assumption) ?_
              (try simp only [aPt])
              refine tk 18 (by assumption) ?_
              (try simp only [aPt])
              refine wpAnyH_done (by kernel_rfl) ?_ _
              clear hHeld
              have hbc := b_tr (Below.refl wT.heap.size wT).drew hbz
              go_wp2
              go_meet
              exact ⟨by rw [HZZ.out], hbc⟩
            · rw [hso] at hSE
              have HSE := Lib.hid hSE
              clear hSE
              cases hls : lessB y.s.c x.s.c
              · have HZZ := Lib.hid (HN8.out (fun h => by rw [HP8.out] at h; have := h.2 j y.s HJ.out.symm HYS.out; rw [hls] at this; cases this))
                have hl2 : Op.bytesLess y.s.c.toList x.s.c.toList = false := hls
                clear hls hso
                refine wp_region_held_drew (S := fun wx => wx.cell? ⟨b, o + j * 15, none⟩ = some (.string y.s.c) ∧ wx.cell? ⟨B, 1, none⟩ = some (.slice (some ⟨b, o, none⟩) R.length sc) ∧ wx.cell? ⟨T, 0, none⟩ = some (.string x.s.c) ∧ wx.cell? ⟨T, 1, none⟩ = some (.bool x.s.cl) ∧ wx.cell? ⟨T, 2, none⟩ = some (.int .i64 x.s.ln) ∧ wx.cell? ⟨T, 3, none⟩ = some (.slice x.sa x.s.S.length x.sc) ∧ wx.cell? ⟨T, 4, none⟩ = some (.int .i64 x.s.o.last) ∧ wx.cell? ⟨T, 5, none⟩ = some (.slice x.fa x.s.o.F.length x.fc) ∧ wx.cell? ⟨T, 6, none⟩ = some (.slice x.qa x.s.o.Q.length x.qc) ∧ wx.cell? ⟨T, 7, none⟩ = some (.slice x.ia x.s.I.length x.ic) ∧ wx.cell? ⟨T, 8, none⟩ = some (.bool x.s.wl.is) ∧ wx.cell? ⟨T, 9, none⟩ = some (.string x.s.wl.t) ∧ wx.cell? ⟨T, 10, none⟩ = some (.string x.s.wl.p) ∧ wx.cell? ⟨T, 11, none⟩ = some (.int .i64 x.s.wl.q) ∧ wx.cell? ⟨T, 12, none⟩ = some (.bool x.s.wl.r) ∧ wx.cell? ⟨T, 13, none⟩ = some (.int .i64 x.s.keep) ∧ wx.cell? ⟨T, 14, none⟩ = some (.int .i64 x.s.idle)) (by kernel_rfl) ⟨y0, hcw, x0, x1, x2, x3, x4, x5, x6, x7, x8, x9, x10, x11, x12, x13, x14⟩ (fun hHeld => ?_)
                refine tk 0 (by assumption) ?_
                (try simp only [aPt])
                refine wpAnyH_ready (rs := [1]) (by kernel_rfl) (by simp) ?_
                refine call_h 1 ⟨?_, ?_, fun K hK => ?_⟩
                rotate_left 1
                · (simp only [List.getElem?_toArray, List.getElem?_cons_succ, List.getElem?_cons_zero]; exact rfl)
                go_simp
                (go_at_call 24; refine (HSE.out _ (Below.refl wT.heap.size wT).drew).mono ?_; rintro e wz ⟨rfl, hbz⟩)
                go_wp2_with fail
                refine hK.out _ _ ⟨b_cell hbz y0, b_cell hbz hcw, HWH.out _ (b_tr (Below.refl wT.heap.size wT).drew hbz)⟩ (fun hHeld => ?_)
                clear hK K
                (try simp only [aPt])
                refine tk 2 (by assumption) ?_
                (try simp only [aPt])
                refine tk 3 (by assumption) ?_
                (try simp only [aPt])
                refine tk 4 (by assumption) ?_
                (try simp only [aPt])
                refine tk 5 (by assumption) ?_
                (try simp only [aPt])
                refine tk 6 (by assumption) ?_
                (try simp only [aPt])
                refine tk 7 (by assumption) ?_
                (try simp only [aPt])
                refine tk 8 (by assumption) ?_
                (try simp only [aPt])
                refine tk 9 (by assumption) ?_
                (try simp only [aPt])
                refine tk 10 (by assumption) ?_
                (try simp only [aPt])
                refine tk 11 (by assumption) ?_
                (try simp only [aPt])
                refine tk 12 (by assumption) ?_
                (try simp only [aPt])
                refine tk 13 (by assumption) ?_
                (try simp only [aPt])
                refine tk 14 (by assumption) ?_
                (try simp only [aPt])
                refine tk 15 (by assumption) ?_
                (try simp only [aPt])
                refine tk 16 (by assumption) ?_
                (try simp only [aPt])
                refine tk 17 (by assumption) ?_
                (try simp only [aPt])
                refine tk 18 (by assumption) ?_
                (try simp only [aPt])
                refine wpAnyH_done (by kernel_rfl) ?_ _
                clear hHeld
                have hbc := b_tr (Below.refl wT.heap.size wT).drew hbz
                go_wp2
                go_meet
                exact ⟨by rw [HZZ.out], hbc⟩
              · have HZZ := Lib.hid (HY8.out (by
                  rw [HP8.out]
                  refine ⟨yes_iff.1 hso, fun i s hi hs => ?_⟩
                  obtain rfl : i = j := by have := HJ.out; omega
                  rw [HYS.out] at hs
                  injection hs with hs
                  rw [← hs]
                  exact hls))
                have hl2 : Op.bytesLess y.s.c.toList x.s.c.toList = true := hls
                clear hls hso
                refine wp_region_held_drew (S := fun wx => wx.cell? ⟨b, o + j * 15, none⟩ = some (.string y.s.c) ∧ wx.cell? ⟨B, 1, none⟩ = some (.slice (some ⟨b, o, none⟩) R.length sc) ∧ wx.cell? ⟨T, 0, none⟩ = some (.string x.s.c) ∧ wx.cell? ⟨T, 1, none⟩ = some (.bool x.s.cl) ∧ wx.cell? ⟨T, 2, none⟩ = some (.int .i64 x.s.ln) ∧ wx.cell? ⟨T, 3, none⟩ = some (.slice x.sa x.s.S.length x.sc) ∧ wx.cell? ⟨T, 4, none⟩ = some (.int .i64 x.s.o.last) ∧ wx.cell? ⟨T, 5, none⟩ = some (.slice x.fa x.s.o.F.length x.fc) ∧ wx.cell? ⟨T, 6, none⟩ = some (.slice x.qa x.s.o.Q.length x.qc) ∧ wx.cell? ⟨T, 7, none⟩ = some (.slice x.ia x.s.I.length x.ic) ∧ wx.cell? ⟨T, 8, none⟩ = some (.bool x.s.wl.is) ∧ wx.cell? ⟨T, 9, none⟩ = some (.string x.s.wl.t) ∧ wx.cell? ⟨T, 10, none⟩ = some (.string x.s.wl.p) ∧ wx.cell? ⟨T, 11, none⟩ = some (.int .i64 x.s.wl.q) ∧ wx.cell? ⟨T, 12, none⟩ = some (.bool x.s.wl.r) ∧ wx.cell? ⟨T, 13, none⟩ = some (.int .i64 x.s.keep) ∧ wx.cell? ⟨T, 14, none⟩ = some (.int .i64 x.s.idle)) (by kernel_rfl) ⟨y0, hcw, x0, x1, x2, x3, x4, x5, x6, x7, x8, x9, x10, x11, x12, x13, x14⟩ (fun hHeld => ?_)
                refine tk 0 (by assumption) ?_
                (try simp only [aPt])
                refine wpAnyH_ready (rs := [1]) (by kernel_rfl) (by simp) ?_
                refine call_h 1 ⟨?_, ?_, fun K hK => ?_⟩
                rotate_left 1
                · (simp only [List.getElem?_toArray, List.getElem?_cons_succ, List.getElem?_cons_zero]; exact rfl)
                go_simp
                (go_at_call 24; refine (HSE.out _ (Below.refl wT.heap.size wT).drew).mono ?_; rintro e wz ⟨rfl, hbz⟩)
                go_wp2_with fail
                refine hK.out _ _ ⟨b_cell hbz y0, b_cell hbz hcw, HWH.out _ (b_tr (Below.refl wT.heap.size wT).drew hbz)⟩ (fun hHeld => ?_)
                clear hK K
                (try simp only [aPt])
                refine tk 2 (by assumption) ?_
                (try simp only [aPt])
                refine tk 3 (by assumption) ?_
                (try simp only [aPt])
                refine tk 4 (by assumption) ?_
                (try simp only [aPt])
                refine tk 5 (by assumption) ?_
                (try simp only [aPt])
                refine tk 6 (by assumption) ?_
                (try simp only [aPt])
                refine tk 7 (by assumption) ?_
                (try simp only [aPt])
                refine tk 8 (by assumption) ?_
                (try simp only [aPt])
                refine tk 9 (by assumption) ?_
                (try simp only [aPt])
                refine tk 10 (by assumption) ?_
                (try simp only [aPt])
                refine tk 11 (by assumption) ?_
                (try simp only [aPt])
                refine tk 12 (by assumption) ?_
                (try simp only [aPt])
                refine tk 13 (by assumption) ?_
                (try simp only [aPt])
                refine tk 14 (by assumption) ?_
                (try simp only [aPt])
                refine tk 15 (by assumption) ?_
                (try simp only [aPt])
                refine tk 16 (by assumption) ?_
                (try simp only [aPt])
                refine tk 17 (by assumption) ?_
                (try simp only [aPt])
                refine tk 18 (by assumption) ?_
                (try simp only [aPt])
                refine wpAnyH_done (by kernel_rfl) ?_ _
                clear hHeld
                have hbc := b_tr (Below.refl wT.heap.size wT).drew hbz
                go_wp2
                go_meet
                exact ⟨by rw [HZZ.out], hbc⟩
      case rest =>
        obtain ⟨rfl, hbc⟩ := hcut
        have hbb := b_tr HBT.out hbc
        clear x0 x1 x2 x3 x4 x5 x6 x7 x8 x9 x10 x11 x12 x13 x14 hSE hcw
        obtain ⟨x0, x1, x2, x3, x4, x5, x6, x7, x8, x9, x10, x11, x12, x13, x14⟩ := HWH.out _ hbc
        cases z8
        case true =>
          have HR := Lib.hid (HNO.out (fun h => by
            have h1 := HZ8.out
            have h2 := h.2.2.2.1 k x.s HXS.out
            rw [yes_true (show P8 by rw [HP8.out]; exact ⟨h2.1, h2.2.1⟩)] at h1
            cases h1))
          go_wp2
          go_ret
          exact ⟨by rw [HR.out]; rfl, b_tr HB0.out hbb⟩
        case false =>
          have hp8 : P8 := by
            have h1 := HZ8.out
            cases hy : yes P8
            · rw [hy] at h1; cases h1
            · exact yes_iff.1 hy
          rw [HP8.out] at hp8
          have HOK := Lib.hid hp8
          clear hp8
          have hl0 : 0 ≤ x.s.ln := HOK.out.1.2.1.1
          by_cases hz : x.s.ln = 0
          · have hz' : (x.s.ln == 0) = true := beq_iff_eq.2 hz
            have HN2 : Hid ((seenK L (R.map (·.s)) (k + 1)).length = N) := Lib.hid (by rw [seenK_succ HXS.out, if_neg (by omega), List.append_nil, HN.out])
            have HP2 : Hid (∀ j s, j < k + 1 → (R.map (·.s))[j]? = some s → sesAt L (R.map (·.s)) j s) := Lib.hid (fun j s hj hs => by
              by_cases e : j = k
              · subst e
                rw [HXS.out] at hs
                injection hs with hs
                subst hs
                exact ⟨HOK.out.1, HOK.out.2, by rw [hz]; exact seen_zero HBW.out⟩
              · exact HP.out j s (by omega) hs)
            clear hz
            go_wp2
            go_roundw
            case rel => exact ⟨k + 1, by omega, by rw [HN2.out], by go_num, hbb, HP2⟩
            case measure => simp [intOf]; omega
          · have hz' : (x.s.ln == 0) = false := beq_eq_false_iff_ne.2 hz
            have hpos : 0 < x.s.ln := by omega
            have HPO := Lib.hid hpos
            obtain ⟨c0, c1, c2, _, _, _⟩ := HCL.out _ hbb
            clear hz hpos
            go_upto_if 77 with (go_at_call 25; refine (HIN.out _ hbb _).mono ?_; rintro e w' ⟨r, rfl, hr, rfl⟩; have HRX := Lib.hid hr; clear hr)
            by_cases hr0 : 0 ≤ r
            · have hge : decide (0 ≤ r) = true := decide_eq_true hr0
              have HR := Lib.hid (HNO.out (fun h => by
                have h2 := (h.2.2.2.1 k x.s HXS.out).2.2
                exact ((seen_no HPO.out).1 h2).1 (HRX.out.1 hr0)))
              go_wp2
              go_ret
              exact ⟨by rw [HR.out]; rfl, b_tr HB0.out hbb⟩
            · have HNI : Hid (x.s.ln ∉ L) := Lib.hid (fun h => hr0 (HRX.out.2 h))
              go_upto_region 14 with fail
              clear x0 x1 x2 x3 x4 x5 x6 x7 x8 x9 x10 x11 x12 x13 x14 c0 c1 c2
              go_wp2
              go_loopw [6] (fun s wx => ∃ m : Nat, s = .int .i64 m ∧ m ≤ k ∧ Below wc.heap.size wc wx ∧ Hid (∀ j s, j < m → (R.map (·.s))[j]? = some s → s.ln ≠ x.s.ln)) (fun s _ => k - (intOf s).toNat)
              case atStart => exact ⟨0, rfl, by omega, Below.refl _ _, Lib.hid (fun j s hj => by omega)⟩
              case round =>
                obtain ⟨m, rfl, hmk, hbm, HD⟩ := hrel
                have hbw := b_tr hbb hbm
                obtain ⟨c0, c1, c2, _, _, _⟩ := HCL.out _ hbw
                by_cases hm : m < k
                · have hm2 : (m : Int) < (k : Int) := by omega
                  have hmr : m < R.length := by omega
                  have hmr2 : (m : Int) < (R.length : Int) := by omega
                  obtain ⟨y, hy⟩ : ∃ y, R[m]? = some y := ⟨_, List.getElem?_eq_getElem hmr⟩
                  obtain ⟨b', o', he, _, hcs2⟩ := Enc.rd_cell (E := eS) (HRS.out _ hbw) rfl hy
                  injection he with he
                  injection he with he1 he2
                  subst he1 he2
                  have y2 : World.cell? _ ⟨b, o + m * 15 + 2, none⟩ = some (.int .i64 y.s.ln) := hcs2 2 _ rfl
                  have x2 := (HWH.out _ (b_tr hbc hbm)).2.2.1
                  have HYS : Hid ((R.map (·.s))[m]? = some y.s) := Lib.hid (by rw [List.getElem?_map, hy]; rfl)
                  have hbd := hbm.drew
                  clear hy hcs2
                  by_cases hq : y.s.ln = x.s.ln
                  · have hq' : (y.s.ln == x.s.ln) = true := beq_iff_eq.2 hq
                    have HR := Lib.hid (HNO.out (fun h => by
                      have h2 := (h.2.2.2.1 k x.s HXS.out).2.2
                      exact ((seen_no HPO.out).1 h2).2 m y.s hm HYS.out hq))
                    clear hq
                    go_upto_region 17 with fail
                    refine wp_region_held_drew (S := fun wx => wx.cell? ⟨B, 1, none⟩ = some (.slice (some ⟨b, o, none⟩) R.length sc) ∧ wx.cell? ⟨b, o + m * 15 + 2, none⟩ = some (.int .i64 y.s.ln) ∧ wx.cell? ⟨T, 2, none⟩ = some (.int .i64 x.s.ln)) (by kernel_rfl) ⟨c1, y2, x2⟩ (fun hHeld => ?_)
                    refine tk 0 (by assumption) ?_
                    (try simp only [aPt])
                    refine tk 1 (by assumption) ?_
                    (try simp only [aPt])
                    refine tk 2 (by assumption) ?_
                    (try simp only [aPt])
                    refine tk 3 (by assumption) ?_
                    (try simp only [aPt])
                    refine tk 4 (by assumption) ?_
                    (try simp only [aPt])
                    refine tk 5 (by assumption) ?_
                    (try simp only [aPt])
                    refine tk 6 (by assumption) ?_
                    (try simp only [aPt])
                    refine tk 7 (by assumption) ?_
                    (try simp only [aPt])
                    refine tk 8 (by assumption) ?_
                    (try simp only [aPt])
                    refine wpAnyH_done (by kernel_rfl) ?_ _
                    clear hHeld
                    go_wp2
                    go_ret
                    exact ⟨by rw [HR.out]; rfl, b_tr HB0.out (b_tr hbb hbd)⟩
                  · have hq' : (y.s.ln == x.s.ln) = false := beq_eq_false_iff_ne.2 hq
                    have HD2 : Hid (∀ j s, j < m + 1 → (R.map (·.s))[j]? = some s → s.ln ≠ x.s.ln) := Lib.hid (fun j s hj hs => by
                      by_cases e : j = m
                      · subst e
                        rw [HYS.out] at hs
                        injection hs with hs
                        subst hs
                        exact hq
                      · exact HD.out j s (by omega) hs)
                    clear hq
                    go_upto_region 17 with fail
                    refine wp_region_held_drew (S := fun wx => wx.cell? ⟨B, 1, none⟩ = some (.slice (some ⟨b, o, none⟩) R.length sc) ∧ wx.cell? ⟨b, o + m * 15 + 2, none⟩ = some (.int .i64 y.s.ln) ∧ wx.cell? ⟨T, 2, none⟩ = some (.int .i64 x.s.ln)) (by kernel_rfl) ⟨c1, y2, x2⟩ (fun hHeld => ?_)
                    refine tk 0 (by assumption) ?_
                    (try simp only [aPt])
                    refine tk 1 (by assumption) ?_
                    (try simp only [aPt])
                    refine tk 2 (by assumption) ?_
                    (try simp only [aPt])
                    refine tk 3 (by assumption) ?_
                    (try simp only [aPt])
                    refine tk 4 (by assumption) ?_
                    (try simp only [aPt])
                    refine tk 5 (by assumption) ?_
                    (try simp only [aPt])
                    refine tk 6 (by assumption) ?_
                    (try simp only [aPt])
                    refine tk 7 (by assumption) ?_
                    (try simp only [aPt])
                    refine tk 8 (by assumption) ?_
                    (try simp only [aPt])
                    refine wpAnyH_done (by kernel_rfl) ?_ _
                    clear hHeld
                    go_wp2
                    go_roundw
                    case rel => exact ⟨m + 1, by go_num, by omega, hbd, HD2⟩
                    case measure => simp [intOf]; omega
                · have e : m = k := by omega
                  subst e
                  have HN2 : Hid ((seenK L (R.map (·.s)) (m + 1)).length = N + 1) := Lib.hid (by rw [seenK_succ HXS.out, if_pos HPO.out, List.length_append, HN.out]; rfl)
                  have HP2 : Hid (∀ j s, j < m + 1 → (R.map (·.s))[j]? = some s → sesAt L (R.map (·.s)) j s) := Lib.hid (fun j s hj hs => by
                    by_cases e : j = m
                    · subst e
                      rw [HXS.out] at hs
                      injection hs with hs
                      subst hs
                      exact ⟨HOK.out.1, HOK.out.2, (seen_no HPO.out).2 ⟨HNI.out, HD.out⟩⟩
                    · exact HP.out j s (by omega) hs)
                  go_wp2
                  go_roundw
                  case rel => exact ⟨m + 1, by omega, by rw [HN2.out]; go_num, by go_num, hbw, HP2⟩
                  case measure => simp [intOf]; omega
    · have hlt' : ¬ ((k : Int) < (R.length : Int)) := by omega
      obtain rfl : k = R.length := by omega
      have HE : Hid (yes (broOk ⟨L, R.map (·.s), K⟩) = decide (N ≤ 8)) := Lib.hid (by
        by_cases h8 : N ≤ 8
        · rw [decide_eq_true h8]
          refine yes_true ⟨by simpa using hrl, HKK.out, HLK.out, fun j s hs => HP.out j s (by have := (List.getElem?_eq_some_iff.1 hs).1; simpa using this) hs, ?_⟩
          show (seenK L (R.map (·.s)) (R.map (·.s)).length).length ≤ 8
          rw [List.length_map, HN.out]
          exact h8
        · rw [decide_eq_false h8]
          refine yes_false (fun h => h8 ?_)
          have h1 : (seenK L (R.map (·.s)) (R.map (·.s)).length).length ≤ 8 := h.2.2.2.2
          rw [List.length_map, HN.out] at h1
          exact h1)
      have hz : Hid (decide ((N : Int) ≤ 8) = decide (N ≤ 8)) := Lib.hid (by rw [Bool.eq_iff_iff]; simp; omega)
      go_wp2
      go_ret
      exact ⟨by rw [HE.out, ← hz.out]; rfl, b_tr HB0.out hb⟩
end Go.Proofs.YtknnaeejkmlnbaaGreatDoor
