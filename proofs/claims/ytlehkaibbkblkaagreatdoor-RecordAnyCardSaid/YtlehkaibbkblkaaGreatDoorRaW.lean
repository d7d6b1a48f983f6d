/- RecordAny, walked: any bytes are a broker that lasts, told by just these bytes, or none. -/


import Derived.Test.YtlehkaibbkblkaaGreatDoorGc
import Derived.Test.YtlehkaibbkblkaaGreatDoorRaLaw
import Derived.Test.YtlehkaibbkblkaaGreatDoorRcWakes
import Derived.Test.YtlehkaibbkblkaaGreatDoorRtBy
namespace Go.Proofs.YtlehkaibbkblkaaGreatDoor
open Go.RowKit
set_option maxRecDepth 20000 in
set_option maxHeartbeats 8000000 in
theorem RecAny_any (w : World) (v : Value) (L : List BY) (h : Rd w w.heap.size 1 v L.length (eBY.cells L)) (hL : ∀ y ∈ L, Rd w w.heap.size 1 (.slice y.a y.x.length y.c) y.x.length (u8s y.x)) (hE : Env w) :
    Calls Tryz.prog 3 #[v] w fun e w' => e = .returned (.bool true) ∧ Below w.heap.size w w' := by
  obtain ⟨ao, cap, rfl, hc, hm⟩ := h.form
  have hm' : cap ≤ 9223372036854775807 := by unfold maxLen at hm; omega
  have H := Lib.hid h
  have HL := Lib.hid hL
  have HE := Lib.hid hE
  clear h hm hL hE
  go_enter Tryz.func3, Tryz.ntmps3
  go_wp2
  go_loopw [3] (fun i wr => ∃ k : Nat, i = .int .i64 k ∧ Below w.heap.size w wr) (fun i _ => L.length - (intOf i).toNat)
  case atStart => exact ⟨0, rfl, Below.refl _ _⟩
  case round =>
    obtain ⟨k, rfl, hb⟩ := hrel
    by_cases hlt : k < L.length
    · have hlt' : (k : Int) < (L.length : Int) := by omega
      by_cases h6 : (k : Int) < 20
      · obtain ⟨y, hy⟩ : ∃ y, L[k]? = some y := ⟨_, List.getElem?_eq_getElem hlt⟩
        obtain ⟨b, o, rfl, _, hcs⟩ := Enc.rd_cell (E := eBY) (H.out.below hb) rfl hy
        have y0 : wr.cell? ⟨b, o + k, none⟩ = some (.slice y.a y.x.length y.c) := by simpa [eBY] using hcs 0 _ rfl
        have HY := Lib.hid (fun wx (hx : Below w.heap.size w wx) => (HL.out y (List.mem_of_getElem? hy)).below hx)
        obtain ⟨x, ya, yc⟩ := y
        clear hy hcs
        simp only at y0 HY
        by_cases h4 : (4000 : Int) < (x.length : Int)
        · go_wp2
          go_ret
          exact ⟨rfl, hb⟩
        · have hxl : x.length ≤ 4000 := by omega
          have HCP := Lib.hid (CopyBytes_any wr (.slice ya x.length yc) x w.heap.size (HY.out _ hb) hb.size (by omega))
          go_upto_region 7 with (go_at_call 4; refine HCP.out.mono ?_; rintro e w1 ⟨v1, rfl, ho1, hb1⟩)
          clear HCP
          obtain ⟨va, vc, rfl, _, _⟩ := (Rd.of_own ho1).form
          have hbw1 := b_tr hb hb1
          have y1 := b_cell hb1 y0
          have HO1 := Lib.hid (show OwnU w1 wr.heap.size (.slice va x.length vc) x from ho1)
          have HPA := Lib.hid (Parse_any w1 _ x HO1.out.rd (by omega) (HE.out.below hbw1))
          clear ho1
          go_upto_region 8 with (go_at_call 5; refine HPA.out.mono ?_; rintro e w2 ⟨lv, sv, kv, n, R, yb, rfl, hb2, hbr, hsh, hd⟩; obtain ⟨yla, ylc, rfl, _, _⟩ := hbr.l.form; obtain ⟨ysa, ysc, rfl, _, _⟩ := hbr.s.form; obtain ⟨yka, ykc, rfl, _, _⟩ := hbr.k.form)
          clear HPA
          obtain ⟨wa, hwa⟩ : ∃ wa, w2.alloc (.cells #[.slice yla yb.L.length ylc, .slice ysa R.length ysc, .slice yka yb.K.length ykc] 29) = wa := ⟨_, rfl⟩
          have hb3 : Below w2.heap.size w2 wa := by rw [← hwa]; exact (Below.refl _ _).alloc (Nat.le_refl _) _
          have hW : Whole wa w2.heap.size 29 [.slice yla yb.L.length ylc, .slice ysa R.length ysc, .slice yka yb.K.length ykc] := by rw [← hwa]; exact Whole.new w2 29 _
          obtain ⟨T, hT⟩ : ∃ T, w2.heap.size = T := ⟨_, rfl⟩
          have hb13 := b_tr hb2 hb3
          have hbw3 := b_tr hbw1 hb13
          have y3 := b_cell hb13 y1
          have HEB : Hid (∀ wx v, Rd wx wx.heap.size 1 v x.length (u8s x) → Below w.heap.size w wx → Calls Tryz.prog 6 #[v, .slice ya x.length yc] wx fun e w' => e = .returned (.bool true) ∧ Below wx.heap.size wx w') :=
            Lib.hid (fun wx v hv hw => (EqBytes_any wx v _ x x _ _ hv (HY.out _ hw)).mono fun e w' ⟨he, hbb⟩ => ⟨by rw [he, decide_eq_true rfl], hbb⟩)
          have HBR := Lib.hid (fun wx (hx : Below wa.heap.size wa wx) => ((hbr.below hb3).below (hx.mono hb3.size)).more (Nat.le_trans hb3.size hx.size))
          have HCL := Lib.hid (fun wx (hx : Below wa.heap.size wa wx) => (hW.belowH hx).three)
          obtain ⟨c0, c1, c2, _, _, _⟩ := hW.three
          rw [hwa, hT]
          rw [hT] at c0 c1 c2 HCL
          have HIN := Lib.hid (fun wx (hx : Below wa.heap.size wa wx) => (HO1.out.rd.below (b_tr hb13 hx)).more (b_tr hb13 hx).size)
          have hcur := Below.refl wa.heap.size wa
          have HSH := Lib.hid hsh
          clear hwa hT hW hbr hsh y0 y1 hb1
          rcases hd with ⟨rfl, hrm, hX⟩ | ⟨rfl, hz⟩
          case inr =>
            have HEQ := Lib.hid (fun wx (hx : Below wa.heap.size wa wx) => eqB_any wx _ _ _ (.slice none 0 0) (.slice none 0 0) (.slice none 0 0) R [] yb ⟨[], [], []⟩ (HBR.out wx hx) ⟨rfl, Rd.nil_ _ _ _, Rd.nil_ _ _ _, by simp, Rd.nil_ _ _ _⟩)
            rw [yes_true hz] at HEQ
            clear hz
            go_wp2_with first
              | (go_at_call 6; refine (HEB.out _ _ (HIN.out _ hcur) (b_tr hbw3 hcur)).mono ?_; rintro e wz ⟨rfl, hbz⟩; replace hcur := b_tr hcur hbz; replace y3 := b_cell hbz y3; clear hbz c0 c1 c2; obtain ⟨c0, c1, c2, _, _, _⟩ := HCL.out _ hcur)
              | (go_at_call 7; refine (num_any _ _).mono ?_; rintro e w' ⟨rfl, rfl⟩)
              | (go_at_call 8; refine (HEQ.out _ hcur).mono ?_; rintro e wz ⟨rfl, hbz⟩; replace hcur := b_tr hcur hbz; replace y3 := b_cell hbz y3; clear hbz c0 c1 c2; obtain ⟨c0, c1, c2, _, _, _⟩ := HCL.out _ hcur)
            go_roundw
            case rel => exact ⟨k + 1, by go_num, b_tr hbw3 hcur⟩
            case measure => simp [intOf]; omega
          case inl =>
            have HBP : Hid (∀ wx, Below wa.heap.size wa wx → Calls Tryz.prog 9 #[.agg #[.slice yla yb.L.length ylc, .slice ysa R.length ysc, .slice yka yb.K.length ykc]] wx fun e w' => ∃ v, e = .returned (.tuple #[v, .int .i64 0]) ∧ OwnU w' wx.heap.size v x ∧ Below wx.heap.size wx w') :=
              Lib.hid (fun wx hx => (Bytes_put wx _ _ _ R yb (HBR.out wx hx) HSH.out (HE.out.below (b_tr hbw3 hx))).mono fun e w' ⟨v, c, m, he, ho, hbb, hdd⟩ => by
                rcases hdd with ⟨_, rfl, rfl⟩ | ⟨hno, _⟩
                · exact ⟨v, he, hX ▸ ho, hbb⟩
                · exact absurd hrm hno)
            have HMY := Lib.hid (fun wx (hx : Below wa.heap.size wa wx) => lmay_ok wx _ _ _ R yb (HBR.out wx hx) hrm (HE.out.below (b_tr hbw3 hx)))
            clear hrm hX
            go_upto_region 12 with first
              | (go_at_call 6; refine (HEB.out _ _ (HIN.out _ hcur) (b_tr hbw3 hcur)).mono ?_; rintro e wz ⟨rfl, hbz⟩; replace hcur := b_tr hcur hbz; replace y3 := b_cell hbz y3; clear hbz c0 c1 c2; obtain ⟨c0, c1, c2, _, _, _⟩ := HCL.out _ hcur)
              | (go_at_call 7; refine (num_any _ _).mono ?_; rintro e w' ⟨rfl, rfl⟩)
              | (go_at_call 9; refine (HBP.out _ hcur).mono ?_; rintro e wz ⟨v8, rfl, ho8, hbz⟩; replace hcur := b_tr hcur hbz; replace y3 := b_cell hbz y3; clear hbz c0 c1 c2; obtain ⟨c0, c1, c2, _, _, _⟩ := HCL.out _ hcur)
            go_wp2_with first
              | (go_at_call 6; refine (HEB.out _ _ ho8.rd (b_tr hbw3 hcur)).mono ?_; rintro e wz ⟨rfl, hbz⟩; replace hcur := b_tr hcur hbz; replace y3 := b_cell hbz y3; clear hbz c0 c1 c2; obtain ⟨c0, c1, c2, _, _, _⟩ := HCL.out _ hcur)
              | (go_at_call 7; refine (num_any _ _).mono ?_; rintro e w' ⟨rfl, rfl⟩)
              | (go_at_call 10; refine (HMY.out _ hcur).mono ?_; rintro e wz ⟨rfl, hbz⟩; replace hcur := b_tr hcur hbz; replace y3 := b_cell hbz y3; clear hbz c0 c1 c2; obtain ⟨c0, c1, c2, _, _, _⟩ := HCL.out _ hcur)
            go_roundw
            case rel => exact ⟨k + 1, by go_num, b_tr hbw3 hcur⟩
            case measure => simp [intOf]; omega
      · go_wp2_with (go_at_call 11; refine (rwakes_any _).mono ?_; rintro e w2 ⟨rfl, hb2⟩)
        go_ret
        exact ⟨rfl, b_tr hb hb2⟩
    · have hlt' : ¬ ((k : Int) < (L.length : Int)) := by omega
      go_wp2_with (go_at_call 11; refine (rwakes_any _).mono ?_; rintro e w2 ⟨rfl, hb2⟩)
      go_ret
      exact ⟨rfl, b_tr hb hb2⟩
end Go.Proofs.YtlehkaibbkblkaaGreatDoor
