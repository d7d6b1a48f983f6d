/- A broker that lasts; its bytes. -/


import Derived.Test.YtlehkaibbkblkaaGreatDoorRcMay3
namespace Go.Proofs.YtlehkaibbkblkaaGreatDoor
open Go.RowKit Go.Shelf Go.Proofs
/-- A broker that lasts as it is. -/
def rmOk (b : Br) : Prop := broOk b ∧ b.L = [] ∧ ∀ s ∈ b.S, s.ln = 0 ∧ s.cl = false
set_option maxRecDepth 20000 in
set_option maxHeartbeats 4000000 in
theorem rMay_any (w : World) (lv sv kv : Value) (R : List Rs) (b : Br) (h : BRd w w.heap.size lv sv kv R b) (hs : ShB b) (hE : Env w) :
    Calls Tryz.prog 19 #[.agg #[lv, sv, kv]] w fun e w' => e = .returned (.bool (yes (rmOk b))) ∧ Below w.heap.size w w' := by
  obtain ⟨L, SS, K⟩ := b
  obtain ⟨la, lc, rfl, _, _⟩ := h.l.form
  obtain ⟨sa, sc, rfl, _, _⟩ := h.s.form
  obtain ⟨ka, kc, rfl, _, _⟩ := h.k.form
  have hRs := h.s
  have hRe := h.e
  simp only at hRe
  obtain ⟨wa, hwa⟩ : ∃ wa, w.alloc (.cells #[.slice la L.length lc, .slice sa R.length sc, .slice ka K.length kc] 29) = wa := ⟨_, rfl⟩
  have hb0 : Below w.heap.size w wa := by rw [← hwa]; exact (Below.refl _ _).alloc (Nat.le_refl _) _
  have hW : Whole wa w.heap.size 29 [.slice la L.length lc, .slice sa R.length sc, .slice ka K.length kc] := by rw [← hwa]; exact Whole.new w 29 _
  have HBM := Lib.hid (bMay_any wa _ _ _ R ⟨L, SS, K⟩ ((h.below hb0).more hb0.size) hs (hE.below hb0))
  have HRS := Lib.hid (fun wx (hx : Below wa.heap.size wa wx) => (hRs.below hb0).below (hx.mono hb0.size))
  have HCL := Lib.hid (fun wx (hx : Below wa.heap.size wa wx) => (hW.belowH hx).three)
  have HRE := Lib.hid hRe
  have hrl : R.length ≤ 1000000 := by have := hs.s.1; rw [← hRe] at this; simpa using this
  have HWA := Lib.hid hwa
  have HB0 := Lib.hid hb0
  obtain ⟨c0, c1, c2, _, _, _⟩ := hW.three
  clear h hs hE hRs hRe hwa hb0 hW
  go_enter Tryz.func19, Tryz.ntmps19
  go_upto_region 1 with fail

  rw [HWA.out]
  cases hv : yes (broOk ⟨L, SS, K⟩)
  · have HR : Hid (yes (rmOk ⟨L, SS, K⟩) = false) := Lib.hid (yes_false (fun h => yes_not.1 hv h.1))
    rw [hv] at HBM
    clear hv
    go_wp2_with (go_at_call 30; refine HBM.out.mono ?_; rintro e w1 ⟨rfl, hb1⟩)
    go_ret
    exact ⟨by rw [HR.out]; rfl, b_tr HB0.out hb1⟩
  · have HBO := Lib.hid (yes_iff.1 hv)
    rw [hv] at HBM
    clear hv
    by_cases hL : 0 < (L.length : Int)
    · have HR : Hid (yes (rmOk ⟨L, SS, K⟩) = false) := Lib.hid (yes_false (fun h => by have := h.2.1; simp only at this; rw [this] at hL; simp at hL))
      have hL' : 0 < L.length := by omega
      go_wp2_with (go_at_call 30; refine HBM.out.mono ?_; rintro e w1 ⟨rfl, hb1⟩; have d0 := b_cell hb1 c0)
      go_ret
      exact ⟨by rw [HR.out]; rfl, b_tr HB0.out hb1⟩
    · have hL' : ¬ (0 < L.length) := by omega
      have HL0 : Hid (L = []) := Lib.hid (List.eq_nil_of_length_eq_zero (by omega))
      go_wp2_with (go_at_call 30; refine HBM.out.mono ?_; rintro e w1 ⟨rfl, hb1⟩; have d0 := b_cell hb1 c0; have d1 := b_cell hb1 c1)
      go_loopw [17] (fun i wr => ∃ k : Nat, i = .int .i64 k ∧ k ≤ R.length ∧ Below wa.heap.size wa wr ∧ Hid (∀ j r, j < k → R[j]? = some r → r.s.ln = 0 ∧ r.s.cl = false)) (fun i _ => R.length - (intOf i).toNat)
      case atStart => exact ⟨0, rfl, by omega, hb1, Lib.hid (fun j r hj => by omega)⟩
      case round =>
        clear d0 d1 hb1
        obtain ⟨k, rfl, hk, hb, HP⟩ := hrel
        by_cases hlt : k < R.length
        · obtain ⟨x, hx⟩ : ∃ x, R[k]? = some x := ⟨_, List.getElem?_eq_getElem hlt⟩
          obtain ⟨b, o, rfl, hbl, hcs⟩ := Enc.rd_cell (E := eS) (HRS.out _ hb) rfl hx
          obtain ⟨x0, x1, x2, x3, x4, x5, x6, x7, x8, x9, x10, x11, x12, x13, x14⟩ := ses_cells (show World.rangeAt _ b (o + k * 15) (eS.c x) from hcs)
          have HXX := Lib.hid hx
          have HXS : Hid (x.s ∈ SS) := Lib.hid (by rw [← HRE.out]; exact List.mem_map.2 ⟨x, List.mem_of_getElem? hx, rfl⟩)
          clear hx hcs
          go_upto_region 6 with fail
          clear x0 x1 x2 x3 x4 x5 x6 x7 x8 x9 x10 x11 x12 x13 x14
          obtain ⟨wb, hwb⟩ : ∃ wb, wr.alloc (.cells (seC x).toArray 52) = wb := ⟨_, rfl⟩
          have hbb2 : Below wr.heap.size wr wb := by rw [← hwb]; exact (Below.refl _ _).alloc (Nat.le_refl _) _
          have hWb : Whole wb wr.heap.size 52 (seC x) := by rw [← hwb]; exact Whole.new wr 52 _
          have hwb' := hwb
          simp only [seC] at hwb'
          rw [hwb']
          obtain ⟨x0, x1, x2, x3, x4, x5, x6, x7, x8, x9, x10, x11, x12, x13, x14⟩ := ses_whole hWb
          have hbb := b_tr hb hbb2
          clear hwb hwb' hWb hbb2 x0 x3 x4 x5 x6 x7 x8 x9 x10 x11 x12 x13 x14
          by_cases hln : x.s.ln = 0
          · have hln' : (x.s.ln != 0) = false := by simp [hln]
            cases hcl : x.s.cl
            · have HP2 : Hid (∀ j r, j < k + 1 → R[j]? = some r → r.s.ln = 0 ∧ r.s.cl = false) := Lib.hid (fun j r hj hr => by
                by_cases e : j = k
                · subst e
                  rw [HXX.out] at hr
                  injection hr with hr
                  subst hr
                  exact ⟨hln, hcl⟩
                · exact HP.out j r (by omega) hr)
              rw [hcl] at x1
              clear hln hcl
              go_wp2
              go_roundw
              case rel => exact ⟨k + 1, by go_num, by omega, hbb, HP2⟩
              case measure => simp [intOf]; omega
            · have HR : Hid (yes (rmOk ⟨L, SS, K⟩) = false) := Lib.hid (yes_false (fun h => by have := (h.2.2 x.s HXS.out).2; rw [hcl] at this; cases this))
              rw [hcl] at x1
              clear hln hcl
              go_wp2
              go_ret
              exact ⟨by rw [HR.out]; rfl, b_tr HB0.out hbb⟩
          · have hln' : (x.s.ln != 0) = true := bne_iff_ne.2 hln
            have HR : Hid (yes (rmOk ⟨L, SS, K⟩) = false) := Lib.hid (yes_false (fun h => hln (h.2.2 x.s HXS.out).1))
            clear hln
            go_wp2
            go_ret
            exact ⟨by rw [HR.out]; rfl, b_tr HB0.out hbb⟩
        · have HR : Hid (yes (rmOk ⟨L, SS, K⟩) = true) := Lib.hid (yes_true ⟨HBO.out, HL0.out, fun s hs => by
            rw [← HRE.out] at hs
            obtain ⟨r, hr, rfl⟩ := List.mem_map.1 hs
            obtain ⟨j, hj⟩ := List.getElem?_of_mem hr
            exact HP.out j r (by have := (List.getElem?_eq_some_iff.1 hj).1; omega) hj⟩)
          go_wp2
          go_ret
          exact ⟨by rw [HR.out]; rfl, b_tr HB0.out hb⟩
end Go.Proofs.YtlehkaibbkblkaaGreatDoor
