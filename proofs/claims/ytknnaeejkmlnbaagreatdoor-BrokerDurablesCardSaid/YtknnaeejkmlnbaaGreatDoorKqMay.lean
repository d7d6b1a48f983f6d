/- Messages that may be kept, by the program and by the page. -/


import Derived.Test.YtknnaeejkmlnbaaGreatDoorKqMsg
import Derived.Test.YtknnaeejkmlnbaaGreatDoorGa
import Derived.IntWalk
namespace Go.Proofs.YtknnaeejkmlnbaaGreatDoor.Kq
open Go.RowKit Go.Shelf Go.Proofs

/-- By bytes. -/
def lessB (a b : ByteArray) : Bool := Op.bytesLess a.toList b.toList
/-- The message may be kept. -/
def mayK (x : Msg1) : Bool := mayW x && !(x.p.toList == [])
/-- The message at a place may be there. -/
def wOk (L : List Msg1) (i : Nat) (x : Msg1) : Bool := mayK x && (match i with | 0 => true | j + 1 => (match L[j]? with | some y => lessB y.f x.f | none => true))
def allW (L : List Msg1) : Bool := (List.range L.length).all fun i => match L[i]? with | some x => wOk L i x | none => true
def subsB (L : List Msg1) : Bool := decide (L.length ≤ 16) && allW L
/-- So far all may be. -/
def preW (L : List Msg1) (i : Nat) : Prop := ∀ (j : Nat) (x : Msg1), j < i → L[j]? = some x → wOk L j x = true
theorem allW_bad {L : List Msg1} {i : Nat} {x : Msg1} (hx : L[i]? = some x) (h : wOk L i x = false) : allW L = false := by
  unfold allW
  rw [Bool.eq_false_iff]
  intro hall
  have := List.all_eq_true.1 hall i (List.mem_range.2 (List.getElem?_eq_some_iff.1 hx).1)
  rw [hx] at this
  simp only at this
  rw [h] at this
  cases this
theorem allW_good {L : List Msg1} (h : preW L L.length) : allW L = true := by
  unfold allW
  rw [List.all_eq_true]
  intro i hi
  have hi := List.mem_range.1 hi
  rw [List.getElem?_eq_getElem hi]
  exact h i _ hi (List.getElem?_eq_getElem hi)
theorem preW_step {L : List Msg1} {i : Nat} {x : Msg1} (h : preW L i) (hx : L[i]? = some x) (hw : wOk L i x = true) : preW L (i + 1) := by
  intro j y hj hy
  by_cases e : j = i
  · subst e
    rw [hx] at hy
    injection hy with hy
    subst hy
    exact hw
  · exact h j y (by omega) hy
theorem wOk_no {L : List Msg1} {i : Nat} {x : Msg1} (h : mayW x = false) : wOk L i x = false := by unfold wOk mayK; rw [h]; rfl
theorem wOk_empty {L : List Msg1} {i : Nat} {x : Msg1} (h : x.p.toList = []) : wOk L i x = false := by unfold wOk mayK; rw [h]; simp
theorem mayK_of {x : Msg1} (h : mayW x = true) (hp : ¬ x.p.toList = []) : mayK x = true := by unfold mayK; rw [h, beq_eq_false_iff_ne.2 hp]; rfl
theorem wOk_zero {L : List Msg1} {x : Msg1} (h : mayK x = true) : wOk L 0 x = true := by unfold wOk; rw [h]; rfl
theorem wOk_succ {L : List Msg1} {i : Nat} {x y : Msg1} (h : mayK x = true) (hy : L[i]? = some y) : wOk L (i + 1) x = lessB y.f x.f := by
  unfold wOk; rw [h]; simp only [hy]; rfl

def MNext (L : List Msg1) (ao : Option Addr) (cap : Nat) (w : World) (a' : Act) (w' : World) : Prop :=
  ∃ i : Nat, i ≤ L.length ∧ preW L i ∧ Below w.heap.size w w' ∧ ∃ u1 u2 u4 u5 u6 u7 u8 u9 u10 u11 u12 u13 u14 u15 u16 u17 u18 u19 u20 u21 u22 u23 u24 u25 u26 u27 u28 u29 u30 u31 u32 u33 u34 u35 u36 u37 u38 u39 u40 u41 u42 : Value, a' = { tmps := #[.slice ao L.length cap, u1, u2, .int .i64 i, u4, u5, u6, u7, u8, u9, u10, u11, u12, u13, u14, u15, u16, u17, u18, u19, u20, u21, u22, u23, u24, u25, u26, u27, u28, u29, u30, u31, u32, u33, u34, u35, u36, u37, u38, u39, u40, u41, u42], defers := [] }

set_option maxHeartbeats 4000000 in
theorem pMay_any (w : World) (v : Value) (L : List Msg1) (h : Rd w w.heap.size 4 v L.length (wCells L)) (hs : Short L) (hE : Env w) :
    Calls Tryz.prog 40 #[v] w fun e w' => e = .returned (.bool (subsB L)) ∧ Below w.heap.size w w' := by
  obtain ⟨ao, cap, rfl, hc, hm⟩ := h.form
  have hc2 : cap ≤ 9223372036854775807 := by unfold maxLen at hm; omega
  have H := Lib.hid h
  have HS := Lib.hid hs
  clear h hm hs
  go_enter Tryz.func40, Tryz.ntmps40
  go_wp2
  refine wp_scope_falls 0 (fun l a' w' => l = 0 ∧ MNext L ao cap w a' w') (fun l a' _ => L.length + 1 - (intOf (a'.tmps.getD 3 undef)).toNat) rfl ?_ ?_
  · rintro l a' w' ⟨rfl, i, hi, hpre, hb, u1, u2, u4, u5, u6, u7, u8, u9, u10, u11, u12, u13, u14, u15, u16, u17, u18, u19, u20, u21, u22, u23, u24, u25, u26, u27, u28, u29, u30, u31, u32, u33, u34, u35, u36, u37, u38, u39, u40, u41, u42, rfl⟩
    refine ⟨_, rfl, ?_⟩
    have HP := Lib.hid hpre
    clear hpre
    by_cases hlt : i < L.length
    · have hne : ((i : Int) == (L.length : Int)) = false := beq_eq_false_iff_ne.2 (by omega)
      obtain ⟨x, hx⟩ : ∃ x, L[i]? = some x := ⟨_, List.getElem?_eq_getElem hlt⟩
      obtain ⟨b, o, rfl, hbl, c0, c1, c2, c3⟩ := wish_cell (H.out.below hb) rfl hx
      have hsx1 := (HS.out i x hx).1
      have hsx2 := (HS.out i x hx).2
      have HX := Lib.hid hx
      clear hx
      cases hmx : mayW x
      · have HB : Hid (subsB L = false) := Lib.hid (by unfold subsB; rw [allW_bad HX.out (wOk_no hmx)]; simp)
        have HM := Lib.hid hmx
        clear hmx
        go_wp2
        refine wp_region_held_drew (S := fun wx => wx.cell? ⟨b, o + i * 4, none⟩ = some (.string x.f) ∧ wx.cell? ⟨b, o + i * 4 + 1, none⟩ = some (.string x.p) ∧ wx.cell? ⟨b, o + i * 4 + 2, none⟩ = some (.int .i64 x.q) ∧ wx.cell? ⟨b, o + i * 4 + 3, none⟩ = some (.bool x.r) ∧ Below w.heap.size w wx) (by kernel_rfl) ⟨c0, c1, c2, c3, hb.drew⟩ (fun hHeld => ?_)
        refine tk 0 (by assumption) ?_
        (try simp only [aPt])
        refine tk 1 (by assumption) ?_
        (try simp only [aPt])
        refine tk 2 (by assumption) ?_
        (try simp only [aPt])
        refine tk 3 (by assumption) ?_
        (try simp only [aPt])
        refine wpAnyH_ready (rs := [4]) (by kernel_rfl) (by simp) ?_
        refine call_h 4 ⟨?_, ?_, fun K hK => ?_⟩
        rotate_left 1
        · (simp only [List.getElem?_toArray, List.getElem?_cons_succ, List.getElem?_cons_zero]; exact rfl)
        go_simp
        (go_at_call 62; refine (pmay_is _ x hsx1 hsx2 (hE.below hHeld.2.2.2.2) HM.out).mono ?_; rintro e wz ⟨rfl, hbz⟩)
        go_wp2_with fail
        refine hK.out _ _ ⟨cell_bel hHeld.1 hbz, cell_bel hHeld.2.1 hbz, cell_bel hHeld.2.2.1 hbz, cell_bel hHeld.2.2.2.1 hbz, bel_tr hHeld.2.2.2.2 hbz⟩ (fun hHeld => ?_)
        clear hK K
        (try simp only [aPt])
        refine tk 5 (by assumption) ?_
        (try simp only [aPt])
        refine tk 6 (by assumption) ?_
        (try simp only [aPt])
        refine tk 7 (by assumption) ?_
        (try simp only [aPt])
        refine tk 8 (by assumption) ?_
        (try simp only [aPt])
        refine tk 9 (by assumption) ?_
        (try simp only [aPt])
        refine tk 10 (by assumption) ?_
        (try simp only [aPt])
        refine tk 11 (by assumption) ?_
        (try simp only [aPt])
        refine tk 12 (by assumption) ?_
        (try simp only [aPt])
        refine tk 13 (by assumption) ?_
        (try simp only [aPt])
        refine tk 14 (by assumption) ?_
        (try simp only [aPt])
        refine tk 15 (by assumption) ?_
        (try simp only [aPt])
        refine tk 16 (by assumption) ?_
        (try simp only [aPt])
        refine tk 17 (by assumption) ?_
        (try simp only [aPt])
        refine tk 18 (by assumption) ?_
        (try simp only [aPt])
        refine tk 19 (by assumption) ?_
        (try simp only [aPt])
        refine tk 20 (by assumption) ?_
        (try simp only [aPt])
        refine tk 21 (by assumption) ?_
        (try simp only [aPt])
        refine tk 22 (by assumption) ?_
        (try simp only [aPt])
        refine tk 23 (by assumption) ?_
        (try simp only [aPt])
        refine tk 24 (by assumption) ?_
        (try simp only [aPt])
        refine tk 25 (by assumption) ?_
        (try simp only [aPt])
        refine tk 26 (by assumption) ?_
        (try simp only [aPt])
        refine tk 27 (by assumption) ?_
        (try simp only [aPt])
        refine tk 28 (by assumption) ?_
        (try simp only [aPt])
        refine tk 29 (by assumption) ?_
        (try simp only [aPt])
        refine tk 30 (by assumption) ?_
        (try simp only [aPt])
        refine wpAnyH_done (by kernel_rfl) ?_ _
        have hbz2 := hHeld.2.2.2.2
        go_wp2
        simp only [exitJumps]
        go_ret
        exact ⟨by rw [HB.out]; rfl, hbz2⟩
      · have HM := Lib.hid hmx
        by_cases hp : x.p.toList = []
        · have HB : Hid (subsB L = false) := Lib.hid (by unfold subsB; rw [allW_bad HX.out (wOk_empty hp)]; simp)
          have hpb : (x.p.toList == []) = true := beq_iff_eq.2 hp
          clear hmx
          go_wp2
          refine wp_region_held_drew (S := fun wx => wx.cell? ⟨b, o + i * 4, none⟩ = some (.string x.f) ∧ wx.cell? ⟨b, o + i * 4 + 1, none⟩ = some (.string x.p) ∧ wx.cell? ⟨b, o + i * 4 + 2, none⟩ = some (.int .i64 x.q) ∧ wx.cell? ⟨b, o + i * 4 + 3, none⟩ = some (.bool x.r) ∧ Below w.heap.size w wx) (by kernel_rfl) ⟨c0, c1, c2, c3, hb.drew⟩ (fun hHeld => ?_)
          refine tk 0 (by assumption) ?_
          (try simp only [aPt])
          refine tk 1 (by assumption) ?_
          (try simp only [aPt])
          refine tk 2 (by assumption) ?_
          (try simp only [aPt])
          refine tk 3 (by assumption) ?_
          (try simp only [aPt])
          refine wpAnyH_ready (rs := [4]) (by kernel_rfl) (by simp) ?_
          refine call_h 4 ⟨?_, ?_, fun K hK => ?_⟩
          rotate_left 1
          · (simp only [List.getElem?_toArray, List.getElem?_cons_succ, List.getElem?_cons_zero]; exact rfl)
          go_simp
          (go_at_call 62; refine (pmay_is _ x hsx1 hsx2 (hE.below hHeld.2.2.2.2) HM.out).mono ?_; rintro e wz ⟨rfl, hbz⟩)
          go_wp2_with fail
          refine hK.out _ _ ⟨cell_bel hHeld.1 hbz, cell_bel hHeld.2.1 hbz, cell_bel hHeld.2.2.1 hbz, cell_bel hHeld.2.2.2.1 hbz, bel_tr hHeld.2.2.2.2 hbz⟩ (fun hHeld => ?_)
          clear hK K
          (try simp only [aPt])
          refine tk 5 (by assumption) ?_
          (try simp only [aPt])
          refine tk 6 (by assumption) ?_
          (try simp only [aPt])
          refine tk 7 (by assumption) ?_
          (try simp only [aPt])
          refine tk 8 (by assumption) ?_
          (try simp only [aPt])
          refine tk 9 (by assumption) ?_
          (try simp only [aPt])
          refine tk 10 (by assumption) ?_
          (try simp only [aPt])
          refine tk 11 (by assumption) ?_
          (try simp only [aPt])
          refine tk 12 (by assumption) ?_
          (try simp only [aPt])
          refine tk 13 (by assumption) ?_
          (try simp only [aPt])
          refine tk 14 (by assumption) ?_
          (try simp only [aPt])
          refine tk 15 (by assumption) ?_
          (try simp only [aPt])
          refine tk 16 (by assumption) ?_
          (try simp only [aPt])
          refine tk 17 (by assumption) ?_
          (try simp only [aPt])
          refine tk 18 (by assumption) ?_
          (try simp only [aPt])
          refine tk 19 (by assumption) ?_
          (try simp only [aPt])
          refine tk 20 (by assumption) ?_
          (try simp only [aPt])
          refine tk 21 (by assumption) ?_
          (try simp only [aPt])
          refine tk 22 (by assumption) ?_
          (try simp only [aPt])
          refine tk 23 (by assumption) ?_
          (try simp only [aPt])
          refine tk 24 (by assumption) ?_
          (try simp only [aPt])
          refine tk 25 (by assumption) ?_
          (try simp only [aPt])
          refine tk 26 (by assumption) ?_
          (try simp only [aPt])
          refine tk 27 (by assumption) ?_
          (try simp only [aPt])
          refine tk 28 (by assumption) ?_
          (try simp only [aPt])
          refine tk 29 (by assumption) ?_
          (try simp only [aPt])
          refine tk 30 (by assumption) ?_
          (try simp only [aPt])
          refine wpAnyH_done (by kernel_rfl) ?_ _
          have hbz2 := hHeld.2.2.2.2
          go_wp2
          simp only [exitJumps]
          go_ret
          exact ⟨by rw [HB.out]; rfl, hbz2⟩
        · have hmk := mayK_of hmx hp
          have hpb : (x.p.toList == []) = false := beq_eq_false_iff_ne.2 hp
          clear hmx
          by_cases hi1 : i = 0
          · have HS1 : Hid (preW L (i + 1)) := Lib.hid (preW_step HP.out HX.out (by subst hi1; exact wOk_zero hmk))
            have hi0 : ((i : Int) == 0) = true := beq_iff_eq.2 (by omega)
            clear hmk hi1
            go_wp2
            refine wp_region_held_drew (S := fun wx => wx.cell? ⟨b, o + i * 4, none⟩ = some (.string x.f) ∧ wx.cell? ⟨b, o + i * 4 + 1, none⟩ = some (.string x.p) ∧ wx.cell? ⟨b, o + i * 4 + 2, none⟩ = some (.int .i64 x.q) ∧ wx.cell? ⟨b, o + i * 4 + 3, none⟩ = some (.bool x.r) ∧ Below w.heap.size w wx) (by kernel_rfl) ⟨c0, c1, c2, c3, hb.drew⟩ (fun hHeld => ?_)
            refine tk 0 (by assumption) ?_
            (try simp only [aPt])
            refine tk 1 (by assumption) ?_
            (try simp only [aPt])
            refine tk 2 (by assumption) ?_
            (try simp only [aPt])
            refine tk 3 (by assumption) ?_
            (try simp only [aPt])
            refine wpAnyH_ready (rs := [4]) (by kernel_rfl) (by simp) ?_
            refine call_h 4 ⟨?_, ?_, fun K hK => ?_⟩
            rotate_left 1
            · (simp only [List.getElem?_toArray, List.getElem?_cons_succ, List.getElem?_cons_zero]; exact rfl)
            go_simp
            (go_at_call 62; refine (pmay_is _ x hsx1 hsx2 (hE.below hHeld.2.2.2.2) HM.out).mono ?_; rintro e wz ⟨rfl, hbz⟩)
            go_wp2_with fail
            refine hK.out _ _ ⟨cell_bel hHeld.1 hbz, cell_bel hHeld.2.1 hbz, cell_bel hHeld.2.2.1 hbz, cell_bel hHeld.2.2.2.1 hbz, bel_tr hHeld.2.2.2.2 hbz⟩ (fun hHeld => ?_)
            clear hK K
            (try simp only [aPt])
            refine tk 5 (by assumption) ?_
            (try simp only [aPt])
            refine tk 6 (by assumption) ?_
            (try simp only [aPt])
            refine tk 7 (by assumption) ?_
            (try simp only [aPt])
            refine tk 8 (by assumption) ?_
            (try simp only [aPt])
            refine tk 9 (by assumption) ?_
            (try simp only [aPt])
            refine tk 10 (by assumption) ?_
            (try simp only [aPt])
            refine tk 11 (by assumption) ?_
            (try simp only [aPt])
            refine tk 12 (by assumption) ?_
            (try simp only [aPt])
            refine tk 13 (by assumption) ?_
            (try simp only [aPt])
            refine tk 14 (by assumption) ?_
            (try simp only [aPt])
            refine tk 15 (by assumption) ?_
            (try simp only [aPt])
            refine tk 16 (by assumption) ?_
            (try simp only [aPt])
            refine tk 17 (by assumption) ?_
            (try simp only [aPt])
            refine tk 18 (by assumption) ?_
            (try simp only [aPt])
            refine tk 19 (by assumption) ?_
            (try simp only [aPt])
            refine tk 20 (by assumption) ?_
            (try simp only [aPt])
            refine tk 21 (by assumption) ?_
            (try simp only [aPt])
            refine tk 22 (by assumption) ?_
            (try simp only [aPt])
            refine tk 23 (by assumption) ?_
            (try simp only [aPt])
            refine tk 24 (by assumption) ?_
            (try simp only [aPt])
            refine tk 25 (by assumption) ?_
            (try simp only [aPt])
            refine tk 26 (by assumption) ?_
            (try simp only [aPt])
            refine tk 27 (by assumption) ?_
            (try simp only [aPt])
            refine tk 28 (by assumption) ?_
            (try simp only [aPt])
            refine tk 29 (by assumption) ?_
            (try simp only [aPt])
            refine tk 30 (by assumption) ?_
            (try simp only [aPt])
            refine wpAnyH_done (by kernel_rfl) ?_ _
            have hbz2 := hHeld.2.2.2.2
            go_wp2
            go_step3
            exact ⟨⟨rfl, i + 1, by omega, HS1.out, hbz2, _, _, _, _, _, _, _, _, _, _, _, _, _, _, _, _, _, _, _, _, _, _, _, _, _, _, _, _, _, _, _, _, _, _, _, _, _, _, _, _, _, by go_num⟩, by simp [intOf]; omega⟩
          · obtain ⟨j, hj⟩ : ∃ j, i = j + 1 := ⟨i - 1, by omega⟩
            obtain ⟨y, hy⟩ : ∃ y, L[j]? = some y := ⟨_, List.getElem?_eq_getElem (by omega)⟩
            obtain ⟨b', o', he, _, d0, _⟩ := wish_cell (H.out.below hb) rfl hy
            injection he with he
            injection he with he1 he2
            subst he1 he2
            have hwo : wOk L i x = lessB y.f x.f := by subst hj; exact wOk_succ hmk hy
            have hi0 : ((i : Int) == 0) = false := beq_eq_false_iff_ne.2 (by omega)
            have hj0 : (0 : Int) ≤ (j : Int) := by omega
            have hjl : (j : Int) < (L.length : Int) := by omega
            have hw1 : IntKind.i64.wrap ((i : Int) - 1) = (j : Int) := by
              have : (i : Int) - 1 = j := by omega
              rw [this]; exact IntWalk.i64_in _ ⟨by omega, by omega⟩
            clear hmk hi1 hy hj
            cases hls : lessB y.f x.f
            · have HB : Hid (subsB L = false) := Lib.hid (by unfold subsB; rw [allW_bad HX.out (hwo.trans hls)]; simp)
              have hl2 : Op.bytesLess y.f.toList x.f.toList = false := hls
              clear hls hwo
              go_wp2
              refine wp_region_held_drew (S := fun wx => wx.cell? ⟨b, o + i * 4, none⟩ = some (.string x.f) ∧ wx.cell? ⟨b, o + i * 4 + 1, none⟩ = some (.string x.p) ∧ wx.cell? ⟨b, o + i * 4 + 2, none⟩ = some (.int .i64 x.q) ∧ wx.cell? ⟨b, o + i * 4 + 3, none⟩ = some (.bool x.r) ∧ wx.cell? ⟨b, o + j * 4, none⟩ = some (.string y.f) ∧ Below w.heap.size w wx) (by kernel_rfl) ⟨c0, c1, c2, c3, d0, hb.drew⟩ (fun hHeld => ?_)
              refine tk 0 (by assumption) ?_
              (try simp only [aPt])
              refine tk 1 (by assumption) ?_
              (try simp only [aPt])
              refine tk 2 (by assumption) ?_
              (try simp only [aPt])
              refine tk 3 (by assumption) ?_
              (try simp only [aPt])
              refine wpAnyH_ready (rs := [4]) (by kernel_rfl) (by simp) ?_
              refine call_h 4 ⟨?_, ?_, fun K hK => ?_⟩
              rotate_left 1
              · (simp only [List.getElem?_toArray, List.getElem?_cons_succ, List.getElem?_cons_zero]; exact rfl)
              go_simp
              (go_at_call 62; refine (pmay_is _ x hsx1 hsx2 (hE.below hHeld.2.2.2.2.2) HM.out).mono ?_; rintro e wz ⟨rfl, hbz⟩)
              go_wp2_with fail
              refine hK.out _ _ ⟨cell_bel hHeld.1 hbz, cell_bel hHeld.2.1 hbz, cell_bel hHeld.2.2.1 hbz, cell_bel hHeld.2.2.2.1 hbz, cell_bel hHeld.2.2.2.2.1 hbz, bel_tr hHeld.2.2.2.2.2 hbz⟩ (fun hHeld => ?_)
              clear hK K
              (try simp only [aPt])
              refine tk 5 (by assumption) ?_
              (try simp only [aPt])
              refine tk 6 (by assumption) ?_
              (try simp only [aPt])
              refine tk 7 (by assumption) ?_
              (try simp only [aPt])
              refine tk 8 (by assumption) ?_
              (try simp only [aPt])
              refine tk 9 (by assumption) ?_
              (try simp only [aPt])
              refine tk 10 (by assumption) ?_
              (try simp only [aPt])
              refine tk 11 (by assumption) ?_
              (try simp only [aPt])
              refine tk 12 (by assumption) ?_
              (try simp only [aPt])
              refine tk 13 (by assumption) ?_
              (try simp only [aPt])
              refine tk 14 (by assumption) ?_
              (try simp only [aPt])
              refine tk 15 (by assumption) ?_
              (try simp only [aPt])
              refine tk 16 (by assumption) ?_
              (try simp only [aPt])
              refine tk 17 (by assumption) ?_
              (try simp only [aPt])
              refine tk 18 (by assumption) ?_
              (try simp only [aPt])
              refine tk 19 (by assumption) ?_
              (try simp only [aPt])
              refine tk 20 (by assumption) ?_
              (try simp only [aPt])
              refine tk 21 (by assumption) ?_
              (try simp only [aPt])
              refine tk 22 (by assumption) ?_
              (try simp only [aPt])
              refine tk 23 (by assumption) ?_
              (try simp only [aPt])
              refine tk 24 (by assumption) ?_
              (try simp only [aPt])
              refine tk 25 (by assumption) ?_
              (try simp only [aPt])
              refine tk 26 (by assumption) ?_
              (try simp only [aPt])
              refine tk 27 (by assumption) ?_
              (try simp only [aPt])
              refine tk 28 (by assumption) ?_
              (try simp only [aPt])
              refine tk 29 (by assumption) ?_
              (try simp only [aPt])
              refine tk 30 (by assumption) ?_
              (try simp only [aPt])
              refine wpAnyH_done (by kernel_rfl) ?_ _
              have hbz2 := hHeld.2.2.2.2.2
              go_wp2
              simp only [exitJumps]
              go_ret
              exact ⟨by rw [HB.out]; rfl, hbz2⟩
            · have HS1 : Hid (preW L (i + 1)) := Lib.hid (preW_step HP.out HX.out (hwo.trans hls))
              have hl2 : Op.bytesLess y.f.toList x.f.toList = true := hls
              clear hls hwo
              go_wp2
              refine wp_region_held_drew (S := fun wx => wx.cell? ⟨b, o + i * 4, none⟩ = some (.string x.f) ∧ wx.cell? ⟨b, o + i * 4 + 1, none⟩ = some (.string x.p) ∧ wx.cell? ⟨b, o + i * 4 + 2, none⟩ = some (.int .i64 x.q) ∧ wx.cell? ⟨b, o + i * 4 + 3, none⟩ = some (.bool x.r) ∧ wx.cell? ⟨b, o + j * 4, none⟩ = some (.string y.f) ∧ Below w.heap.size w wx) (by kernel_rfl) ⟨c0, c1, c2, c3, d0, hb.drew⟩ (fun hHeld => ?_)
              refine tk 0 (by assumption) ?_
              (try simp only [aPt])
              refine tk 1 (by assumption) ?_
              (try simp only [aPt])
              refine tk 2 (by assumption) ?_
              (try simp only [aPt])
              refine tk 3 (by assumption) ?_
              (try simp only [aPt])
              refine wpAnyH_ready (rs := [4]) (by kernel_rfl) (by simp) ?_
              refine call_h 4 ⟨?_, ?_, fun K hK => ?_⟩
              rotate_left 1
              · (simp only [List.getElem?_toArray, List.getElem?_cons_succ, List.getElem?_cons_zero]; exact rfl)
              go_simp
              (go_at_call 62; refine (pmay_is _ x hsx1 hsx2 (hE.below hHeld.2.2.2.2.2) HM.out).mono ?_; rintro e wz ⟨rfl, hbz⟩)
              go_wp2_with fail
              refine hK.out _ _ ⟨cell_bel hHeld.1 hbz, cell_bel hHeld.2.1 hbz, cell_bel hHeld.2.2.1 hbz, cell_bel hHeld.2.2.2.1 hbz, cell_bel hHeld.2.2.2.2.1 hbz, bel_tr hHeld.2.2.2.2.2 hbz⟩ (fun hHeld => ?_)
              clear hK K
              (try simp only [aPt])
              refine tk 5 (by assumption) ?_
              (try simp only [aPt])
              refine tk 6 (by assumption) ?_
              (try simp only [aPt])
              refine tk 7 (by assumption) ?_
              (try simp only [aPt])
              refine tk 8 (by assumption) ?_
              (try simp only [aPt])
              refine tk 9 (by assumption) ?_
              (try simp only [aPt])
              refine tk 10 (by assumption) ?_
              (try simp only [aPt])
              refine tk 11 (by assumption) ?_
              (try simp only [aPt])
              refine tk 12 (by assumption) ?_
              (try simp only [aPt])
              refine tk 13 (by assumption) ?_
              (try simp only [aPt])
              refine tk 14 (by assumption) ?_
              (try simp only [aPt])
              refine tk 15 (by assumption) ?_
              (try simp only [aPt])
              refine tk 16 (by assumption) ?_
              (try simp only [aPt])
              refine tk 17 (by assumption) ?_
              (try simp only [aPt])
              refine tk 18 (by assumption) ?_
              (try simp only [aPt])
              refine tk 19 (by assumption) ?_
              (try simp only [aPt])
              refine tk 20 (by assumption) ?_
              (try simp only [aPt])
              refine tk 21 (by assumption) ?_
              (try simp only [aPt])
              refine tk 22 (by assumption) ?_
              (try simp only [aPt])
              refine tk 23 (by assumption) ?_
              (try simp only [aPt])
              refine tk 24 (by assumption) ?_
              (try simp only [aPt])
              refine tk 25 (by assumption) ?_
              (try simp only [aPt])
              refine tk 26 (by assumption) ?_
              (try simp only [aPt])
              refine tk 27 (by assumption) ?_
              (try simp only [aPt])
              refine tk 28 (by assumption) ?_
              (try simp only [aPt])
              refine tk 29 (by assumption) ?_
              (try simp only [aPt])
              refine tk 30 (by assumption) ?_
              (try simp only [aPt])
              refine wpAnyH_done (by kernel_rfl) ?_ _
              have hbz2 := hHeld.2.2.2.2.2
              go_wp2
              go_step3
              exact ⟨⟨rfl, i + 1, by omega, HS1.out, hbz2, _, _, _, _, _, _, _, _, _, _, _, _, _, _, _, _, _, _, _, _, _, _, _, _, _, _, _, _, _, _, _, _, _, _, _, _, _, _, _, _, _, by go_num⟩, by simp [intOf]; omega⟩
    · have : i = L.length := by omega
      subst this
      have HT : Hid (subsB L = decide (L.length ≤ 16)) := Lib.hid (by unfold subsB; rw [allW_good HP.out]; simp)
      have hz : decide ((L.length : Int) ≤ 16) = decide (L.length ≤ 16) := by rw [Bool.eq_iff_iff]; simp; omega
      go_wp2
      simp only [exitJumps]
      go_ret
      exact ⟨by rw [HT.out, ← hz]; rfl, hb⟩
  · intro hgo
    have HGO := Lib.hid hgo
    clear hgo
    go_wp2
    go_step3
    refine (by assumption : ∀ (a : Act) (w : World), Code.wp _ _ _ a w → _) _ _ ?_
    refine HGO.out _ _ ⟨by trivial, 0, by omega, fun j x hj => by omega, Below.refl _ _, _, _, _, _, _, _, _, _, _, _, _, _, _, _, _, _, _, _, _, _, _, _, _, _, _, _, _, _, _, _, _, _, _, _, _, _, _, _, _, _, _, rfl⟩

set_option maxHeartbeats 4000000 in
theorem rKept_any (w : World) (v : Value) (L : List Msg1) (h : Rd w w.heap.size 4 v L.length (wCells L)) (hs : Short L) (hE : Env w) :
    Calls Tryz.prog 23 #[v] w fun e w' => e = .returned (.bool (subsB L)) ∧ Below w.heap.size w w' := by
  obtain ⟨ao, cap, rfl, hc, hm⟩ := h.form
  have hc2 : cap ≤ 9223372036854775807 := by unfold maxLen at hm; omega
  have H := Lib.hid h
  have HS := Lib.hid hs
  clear h hm hs
  by_cases h16 : L.length ≤ 16
  · have h16z : ¬ (16 : Int) < (L.length : Int) := by omega
    have HT : Hid (subsB L = allW L) := Lib.hid (by unfold subsB; simp [h16])
    go_enter Tryz.func23, Tryz.ntmps23
    go_wp2
    go_loopw [3] (fun i wr => ∃ k : Nat, k ≤ L.length ∧ i = .int .i64 k ∧ Hid (preW L k) ∧ Below w.heap.size w wr) (fun i _ => L.length - (intOf i).toNat)
    case atStart => exact ⟨0, by omega, rfl, Lib.hid (fun j x hj => by omega), Below.refl _ _⟩
    case round =>
      obtain ⟨i, hi, rfl, HP, hb⟩ := hrel
      by_cases hlt : i < L.length
      · obtain ⟨x, hx⟩ : ∃ x, L[i]? = some x := ⟨_, List.getElem?_eq_getElem hlt⟩
        obtain ⟨b, o, rfl, hbl, c0, c1, c2, c3⟩ := wish_cell (H.out.below hb) rfl hx
        have hsx1 := (HS.out i x hx).1
        have hsx2 := (HS.out i x hx).2
        have HX := Lib.hid hx
        clear hx
        cases hmx : mayW x
        · have HB : Hid (subsB L = false) := Lib.hid (by rw [HT.out, allW_bad HX.out (wOk_no hmx)])
          have HM := Lib.hid hmx
          clear hmx
          go_wp2
          refine wp_region_held_drew (S := fun wx => wx.cell? ⟨b, o + i * 4, none⟩ = some (.string x.f) ∧ wx.cell? ⟨b, o + i * 4 + 1, none⟩ = some (.string x.p) ∧ wx.cell? ⟨b, o + i * 4 + 2, none⟩ = some (.int .i64 x.q) ∧ wx.cell? ⟨b, o + i * 4 + 3, none⟩ = some (.bool x.r) ∧ Below w.heap.size w wx) (by kernel_rfl) ⟨c0, c1, c2, c3, hb.drew⟩ (fun hHeld => ?_)
          refine tk 0 (by assumption) ?_
          (try simp only [aPt])
          refine tk 1 (by assumption) ?_
          (try simp only [aPt])
          refine tk 2 (by assumption) ?_
          (try simp only [aPt])
          refine tk 3 (by assumption) ?_
          (try simp only [aPt])
          refine wpAnyH_ready (rs := [4]) (by kernel_rfl) (by simp) ?_
          refine call_h 4 ⟨?_, ?_, fun K hK => ?_⟩
          rotate_left 1
          · (simp only [List.getElem?_toArray, List.getElem?_cons_succ, List.getElem?_cons_zero]; exact rfl)
          go_simp
          (go_at_call 46; refine (rmsg_is _ x hsx1 hsx2 (hE.below hHeld.2.2.2.2) HM.out).mono ?_; rintro e wz ⟨rfl, hbz⟩)
          go_wp2_with fail
          refine hK.out _ _ ⟨cell_bel hHeld.1 hbz, cell_bel hHeld.2.1 hbz, cell_bel hHeld.2.2.1 hbz, cell_bel hHeld.2.2.2.1 hbz, bel_tr hHeld.2.2.2.2 hbz⟩ (fun hHeld => ?_)
          clear hK K
          (try simp only [aPt])
          refine tk 5 (by assumption) ?_
          (try simp only [aPt])
          refine tk 6 (by assumption) ?_
          (try simp only [aPt])
          refine tk 7 (by assumption) ?_
          (try simp only [aPt])
          refine tk 8 (by assumption) ?_
          (try simp only [aPt])
          refine tk 9 (by assumption) ?_
          (try simp only [aPt])
          refine tk 10 (by assumption) ?_
          (try simp only [aPt])
          refine tk 11 (by assumption) ?_
          (try simp only [aPt])
          refine tk 12 (by assumption) ?_
          (try simp only [aPt])
          refine tk 13 (by assumption) ?_
          (try simp only [aPt])
          refine tk 14 (by assumption) ?_
          (try simp only [aPt])
          refine tk 15 (by assumption) ?_
          (try simp only [aPt])
          refine tk 16 (by assumption) ?_
          (try simp only [aPt])
          refine tk 17 (by assumption) ?_
          (try simp only [aPt])
          refine tk 18 (by assumption) ?_
          (try simp only [aPt])
          refine tk 19 (by assumption) ?_
          (try simp only [aPt])
          refine tk 20 (by assumption) ?_
          (try simp only [aPt])
          refine tk 21 (by assumption) ?_
          (try simp only [aPt])
          refine tk 22 (by assumption) ?_
          (try simp only [aPt])
          refine tk 23 (by assumption) ?_
          (try simp only [aPt])
          refine tk 24 (by assumption) ?_
          (try simp only [aPt])
          refine tk 25 (by assumption) ?_
          (try simp only [aPt])
          refine tk 26 (by assumption) ?_
          (try simp only [aPt])
          refine tk 27 (by assumption) ?_
          (try simp only [aPt])
          refine tk 28 (by assumption) ?_
          (try simp only [aPt])
          refine tk 29 (by assumption) ?_
          (try simp only [aPt])
          refine tk 30 (by assumption) ?_
          (try simp only [aPt])
          refine tk 31 (by assumption) ?_
          (try simp only [aPt])
          refine wpAnyH_done (by kernel_rfl) ?_ _
          have hbz2 := hHeld.2.2.2.2
          go_wp2
          go_ret
          exact ⟨by rw [HB.out]; rfl, hbz2⟩
        · have HM := Lib.hid hmx
          by_cases hp : x.p.toList = []
          · have HB : Hid (subsB L = false) := Lib.hid (by rw [HT.out, allW_bad HX.out (wOk_empty hp)])
            have hpb : (x.p.toList == []) = true := beq_iff_eq.2 hp
            clear hmx
            go_wp2
            refine wp_region_held_drew (S := fun wx => wx.cell? ⟨b, o + i * 4, none⟩ = some (.string x.f) ∧ wx.cell? ⟨b, o + i * 4 + 1, none⟩ = some (.string x.p) ∧ wx.cell? ⟨b, o + i * 4 + 2, none⟩ = some (.int .i64 x.q) ∧ wx.cell? ⟨b, o + i * 4 + 3, none⟩ = some (.bool x.r) ∧ Below w.heap.size w wx) (by kernel_rfl) ⟨c0, c1, c2, c3, hb.drew⟩ (fun hHeld => ?_)
            refine tk 0 (by assumption) ?_
            (try simp only [aPt])
            refine tk 1 (by assumption) ?_
            (try simp only [aPt])
            refine tk 2 (by assumption) ?_
            (try simp only [aPt])
            refine tk 3 (by assumption) ?_
            (try simp only [aPt])
            refine wpAnyH_ready (rs := [4]) (by kernel_rfl) (by simp) ?_
            refine call_h 4 ⟨?_, ?_, fun K hK => ?_⟩
            rotate_left 1
            · (simp only [List.getElem?_toArray, List.getElem?_cons_succ, List.getElem?_cons_zero]; exact rfl)
            go_simp
            (go_at_call 46; refine (rmsg_is _ x hsx1 hsx2 (hE.below hHeld.2.2.2.2) HM.out).mono ?_; rintro e wz ⟨rfl, hbz⟩)
            go_wp2_with fail
            refine hK.out _ _ ⟨cell_bel hHeld.1 hbz, cell_bel hHeld.2.1 hbz, cell_bel hHeld.2.2.1 hbz, cell_bel hHeld.2.2.2.1 hbz, bel_tr hHeld.2.2.2.2 hbz⟩ (fun hHeld => ?_)
            clear hK K
            (try simp only [aPt])
            refine tk 5 (by assumption) ?_
            (try simp only [aPt])
            refine tk 6 (by assumption) ?_
            (try simp only [aPt])
            refine tk 7 (by assumption) ?_
            (try simp only [aPt])
            refine tk 8 (by assumption) ?_
            (try simp only [aPt])
            refine tk 9 (by assumption) ?_
            (try simp only [aPt])
            refine tk 10 (by assumption) ?_
            (try simp only [aPt])
            refine tk 11 (by assumption) ?_
            (try simp only [aPt])
            refine tk 12 (by assumption) ?_
            (try simp only [aPt])
            refine tk 13 (by assumption) ?_
            (try simp only [aPt])
            refine tk 14 (by assumption) ?_
            (try simp only [aPt])
            refine tk 15 (by assumption) ?_
            (try simp only [aPt])
            refine tk 16 (by assumption) ?_
            (try simp only [aPt])
            refine tk 17 (by assumption) ?_
            (try simp only [aPt])
            refine tk 18 (by assumption) ?_
            (try simp only [aPt])
            refine tk 19 (by assumption) ?_
            (try simp only [aPt])
            refine tk 20 (by assumption) ?_
            (try simp only [aPt])
            refine tk 21 (by assumption) ?_
            (try simp only [aPt])
            refine tk 22 (by assumption) ?_
            (try simp only [aPt])
            refine tk 23 (by assumption) ?_
            (try simp only [aPt])
            refine tk 24 (by assumption) ?_
            (try simp only [aPt])
            refine tk 25 (by assumption) ?_
            (try simp only [aPt])
            refine tk 26 (by assumption) ?_
            (try simp only [aPt])
            refine tk 27 (by assumption) ?_
            (try simp only [aPt])
            refine tk 28 (by assumption) ?_
            (try simp only [aPt])
            refine tk 29 (by assumption) ?_
            (try simp only [aPt])
            refine tk 30 (by assumption) ?_
            (try simp only [aPt])
            refine tk 31 (by assumption) ?_
            (try simp only [aPt])
            refine wpAnyH_done (by kernel_rfl) ?_ _
            have hbz2 := hHeld.2.2.2.2
            go_wp2
            go_ret
            exact ⟨by rw [HB.out]; rfl, hbz2⟩
          · have hmk := mayK_of hmx hp
            have hpb : (x.p.toList == []) = false := beq_eq_false_iff_ne.2 hp
            clear hmx
            by_cases hi1 : i = 0
            · have HS1 : Hid (preW L (i + 1)) := Lib.hid (preW_step HP.out HX.out (by subst hi1; exact wOk_zero hmk))
              have hi0 : decide ((0 : Int) < (i : Int)) = false := decide_eq_false (by omega)
              have hi0' : ¬ (0 < i) := by omega
              have hi0'' : decide (0 < i) = false := decide_eq_false hi0'
              clear hmk hi1
              go_wp2
              refine wp_region_held_drew (S := fun wx => wx.cell? ⟨b, o + i * 4, none⟩ = some (.string x.f) ∧ wx.cell? ⟨b, o + i * 4 + 1, none⟩ = some (.string x.p) ∧ wx.cell? ⟨b, o + i * 4 + 2, none⟩ = some (.int .i64 x.q) ∧ wx.cell? ⟨b, o + i * 4 + 3, none⟩ = some (.bool x.r) ∧ Below w.heap.size w wx) (by kernel_rfl) ⟨c0, c1, c2, c3, hb.drew⟩ (fun hHeld => ?_)
              refine tk 0 (by assumption) ?_
              (try simp only [aPt])
              refine tk 1 (by assumption) ?_
              (try simp only [aPt])
              refine tk 2 (by assumption) ?_
              (try simp only [aPt])
              refine tk 3 (by assumption) ?_
              (try simp only [aPt])
              refine wpAnyH_ready (rs := [4]) (by kernel_rfl) (by simp) ?_
              refine call_h 4 ⟨?_, ?_, fun K hK => ?_⟩
              rotate_left 1
              · (simp only [List.getElem?_toArray, List.getElem?_cons_succ, List.getElem?_cons_zero]; exact rfl)
              go_simp
              (go_at_call 46; refine (rmsg_is _ x hsx1 hsx2 (hE.below hHeld.2.2.2.2) HM.out).mono ?_; rintro e wz ⟨rfl, hbz⟩)
              go_wp2_with fail
              refine hK.out _ _ ⟨cell_bel hHeld.1 hbz, cell_bel hHeld.2.1 hbz, cell_bel hHeld.2.2.1 hbz, cell_bel hHeld.2.2.2.1 hbz, bel_tr hHeld.2.2.2.2 hbz⟩ (fun hHeld => ?_)
              clear hK K
              (try simp only [aPt])
              refine tk 5 (by assumption) ?_
              (try simp only [aPt])
              refine tk 6 (by assumption) ?_
              (try simp only [aPt])
              refine tk 7 (by assumption) ?_
              (try simp only [aPt])
              refine tk 8 (by assumption) ?_
              (try simp only [aPt])
              refine tk 9 (by assumption) ?_
              (try simp only [aPt])
              refine tk 10 (by assumption) ?_
              (try simp only [aPt])
              refine tk 11 (by assumption) ?_
              (try simp only [aPt])
              refine tk 12 (by assumption) ?_
              (try simp only [aPt])
              refine tk 13 (by assumption) ?_
              (try simp only [aPt])
              refine tk 14 (by assumption) ?_
              (try simp only [aPt])
              refine tk 15 (by assumption) ?_
              (try simp only [aPt])
              refine tk 16 (by assumption) ?_
              (try simp only [aPt])
              refine tk 17 (by assumption) ?_
              (try simp only [aPt])
              refine tk 18 (by assumption) ?_
              (try simp only [aPt])
              refine tk 19 (by assumption) ?_
              (try simp only [aPt])
              refine tk 20 (by assumption) ?_
              (try simp only [aPt])
              refine tk 21 (by assumption) ?_
              (try simp only [aPt])
              refine tk 22 (by assumption) ?_
              (try simp only [aPt])
              refine tk 23 (by assumption) ?_
              (try simp only [aPt])
              refine tk 24 (by assumption) ?_
              (try simp only [aPt])
              refine tk 25 (by assumption) ?_
              (try simp only [aPt])
              refine tk 26 (by assumption) ?_
              (try simp only [aPt])
              refine tk 27 (by assumption) ?_
              (try simp only [aPt])
              refine tk 28 (by assumption) ?_
              (try simp only [aPt])
              refine tk 29 (by assumption) ?_
              (try simp only [aPt])
              refine tk 30 (by assumption) ?_
              (try simp only [aPt])
              refine tk 31 (by assumption) ?_
              (try simp only [aPt])
              refine wpAnyH_done (by kernel_rfl) ?_ _
              have hbz2 := hHeld.2.2.2.2
              go_wp2
              go_roundw
              case rel => exact ⟨i + 1, by omega, by go_num, HS1, hbz2⟩
              case measure => simp [intOf]; omega
            · obtain ⟨j, hj⟩ : ∃ j, i = j + 1 := ⟨i - 1, by omega⟩
              obtain ⟨y, hy⟩ : ∃ y, L[j]? = some y := ⟨_, List.getElem?_eq_getElem (by omega)⟩
              obtain ⟨b', o', he, _, d0, _⟩ := wish_cell (H.out.below hb) rfl hy
              injection he with he
              injection he with he1 he2
              subst he1 he2
              have hwo : wOk L i x = lessB y.f x.f := by subst hj; exact wOk_succ hmk hy
              have hi0 : decide ((0 : Int) < (i : Int)) = true := decide_eq_true (by omega)
              have hi0' : 0 < i := by omega
              have hi0'' : decide (0 < i) = true := decide_eq_true hi0'
              have hj0 : (0 : Int) ≤ (j : Int) := by omega
              have hjl : (j : Int) < (L.length : Int) := by omega
              have hw1 : IntKind.i64.wrap ((i : Int) - 1) = (j : Int) := by
                have : (i : Int) - 1 = j := by omega
                rw [this]; exact IntWalk.i64_in _ ⟨by omega, by omega⟩
              clear hmk hi1 hy hj
              cases hls : lessB y.f x.f
              · have HB : Hid (subsB L = false) := Lib.hid (by rw [HT.out, allW_bad HX.out (hwo.trans hls)])
                have hl2 : Op.bytesLess y.f.toList x.f.toList = false := hls
                clear hls hwo
                go_wp2
                refine wp_region_held_drew (S := fun wx => wx.cell? ⟨b, o + i * 4, none⟩ = some (.string x.f) ∧ wx.cell? ⟨b, o + i * 4 + 1, none⟩ = some (.string x.p) ∧ wx.cell? ⟨b, o + i * 4 + 2, none⟩ = some (.int .i64 x.q) ∧ wx.cell? ⟨b, o + i * 4 + 3, none⟩ = some (.bool x.r) ∧ wx.cell? ⟨b, o + j * 4, none⟩ = some (.string y.f) ∧ Below w.heap.size w wx) (by kernel_rfl) ⟨c0, c1, c2, c3, d0, hb.drew⟩ (fun hHeld => ?_)
                refine tk 0 (by assumption) ?_
                (try simp only [aPt])
                refine tk 1 (by assumption) ?_
                (try simp only [aPt])
                refine tk 2 (by assumption) ?_
                (try simp only [aPt])
                refine tk 3 (by assumption) ?_
                (try simp only [aPt])
                refine wpAnyH_ready (rs := [4]) (by kernel_rfl) (by simp) ?_
                refine call_h 4 ⟨?_, ?_, fun K hK => ?_⟩
                rotate_left 1
                · (simp only [List.getElem?_toArray, List.getElem?_cons_succ, List.getElem?_cons_zero]; exact rfl)
                go_simp
                (go_at_call 46; refine (rmsg_is _ x hsx1 hsx2 (hE.below hHeld.2.2.2.2.2) HM.out).mono ?_; rintro e wz ⟨rfl, hbz⟩)
                go_wp2_with fail
                refine hK.out _ _ ⟨cell_bel hHeld.1 hbz, cell_bel hHeld.2.1 hbz, cell_bel hHeld.2.2.1 hbz, cell_bel hHeld.2.2.2.1 hbz, cell_bel hHeld.2.2.2.2.1 hbz, bel_tr hHeld.2.2.2.2.2 hbz⟩ (fun hHeld => ?_)
                clear hK K
                (try simp only [aPt])
                refine tk 5 (by assumption) ?_
                (try simp only [aPt])
                refine tk 6 (by assumption) ?_
                (try simp only [aPt])
                refine tk 7 (by assumption) ?_
                (try simp only [aPt])
                refine tk 8 (by assumption) ?_
                (try simp only [aPt])
                refine tk 9 (by assumption) ?_
                (try simp only [aPt])
                refine tk 10 (by assumption) ?_
                (try simp only [aPt])
                refine tk 11 (by assumption) ?_
                (try simp only [aPt])
                refine tk 12 (by assumption) ?_
                (try simp only [aPt])
                refine tk 13 (by assumption) ?_
                (try simp only [aPt])
                refine tk 14 (by assumption) ?_
                (try simp only [aPt])
                refine tk 15 (by assumption) ?_
                (try simp only [aPt])
                refine tk 16 (by assumption) ?_
                (try simp only [aPt])
                refine tk 17 (by assumption) ?_
                (try simp only [aPt])
                refine tk 18 (by assumption) ?_
                (try simp only [aPt])
                refine tk 19 (by assumption) ?_
                (try simp only [aPt])
                refine tk 20 (by assumption) ?_
                (try simp only [aPt])
                refine tk 21 (by assumption) ?_
                (try simp only [aPt])
                refine tk 22 (by assumption) ?_
                (try simp only [aPt])
                refine tk 23 (by assumption) ?_
                (try simp only [aPt])
                refine tk 24 (by assumption) ?_
                (try simp only [aPt])
                refine tk 25 (by assumption) ?_
                (try simp only [aPt])
                refine tk 26 (by assumption) ?_
                (try simp only [aPt])
                refine tk 27 (by assumption) ?_
                (try simp only [aPt])
                refine tk 28 (by assumption) ?_
                (try simp only [aPt])
                refine tk 29 (by assumption) ?_
                (try simp only [aPt])
                refine tk 30 (by assumption) ?_
                (try simp only [aPt])
                refine tk 31 (by assumption) ?_
                (try simp only [aPt])
                refine wpAnyH_done (by kernel_rfl) ?_ _
                have hbz2 := hHeld.2.2.2.2.2
                go_wp2
                go_ret
                exact ⟨by rw [HB.out]; rfl, hbz2⟩
              · have HS1 : Hid (preW L (i + 1)) := Lib.hid (preW_step HP.out HX.out (hwo.trans hls))
                have hl2 : Op.bytesLess y.f.toList x.f.toList = true := hls
                clear hls hwo
                go_wp2
                refine wp_region_held_drew (S := fun wx => wx.cell? ⟨b, o + i * 4, none⟩ = some (.string x.f) ∧ wx.cell? ⟨b, o + i * 4 + 1, none⟩ = some (.string x.p) ∧ wx.cell? ⟨b, o + i * 4 + 2, none⟩ = some (.int .i64 x.q) ∧ wx.cell? ⟨b, o + i * 4 + 3, none⟩ = some (.bool x.r) ∧ wx.cell? ⟨b, o + j * 4, none⟩ = some (.string y.f) ∧ Below w.heap.size w wx) (by kernel_rfl) ⟨c0, c1, c2, c3, d0, hb.drew⟩ (fun hHeld => ?_)
                refine tk 0 (by assumption) ?_
                (try simp only [aPt])
                refine tk 1 (by assumption) ?_
                (try simp only [aPt])
                refine tk 2 (by assumption) ?_
                (try simp only [aPt])
                refine tk 3 (by assumption) ?_
                (try simp only [aPt])
                refine wpAnyH_ready (rs := [4]) (by kernel_rfl) (by simp) ?_
                refine call_h 4 ⟨?_, ?_, fun K hK => ?_⟩
                rotate_left 1
                · (simp only [List.getElem?_toArray, List.getElem?_cons_succ, List.getElem?_cons_zero]; exact rfl)
                go_simp
                (go_at_call 46; refine (rmsg_is _ x hsx1 hsx2 (hE.below hHeld.2.2.2.2.2) HM.out).mono ?_; rintro e wz ⟨rfl, hbz⟩)
                go_wp2_with fail
                refine hK.out _ _ ⟨cell_bel hHeld.1 hbz, cell_bel hHeld.2.1 hbz, cell_bel hHeld.2.2.1 hbz, cell_bel hHeld.2.2.2.1 hbz, cell_bel hHeld.2.2.2.2.1 hbz, bel_tr hHeld.2.2.2.2.2 hbz⟩ (fun hHeld => ?_)
                clear hK K
                (try simp only [aPt])
                refine tk 5 (by assumption) ?_
                (try simp only [aPt])
                refine tk 6 (by assumption) ?_
                (try simp only [aPt])
                refine tk 7 (by assumption) ?_
                (try simp only [aPt])
                refine tk 8 (by assumption) ?_
                (try simp only [aPt])
                refine tk 9 (by assumption) ?_
                (try simp only [aPt])
                refine tk 10 (by assumption) ?_
                (try simp only [aPt])
                refine tk 11 (by assumption) ?_
                (try simp only [aPt])
                refine tk 12 (by assumption) ?_
                (try simp only [aPt])
                refine tk 13 (by assumption) ?_
                (try simp only [aPt])
                refine tk 14 (by assumption) ?_
                (try simp only [aPt])
                refine tk 15 (by assumption) ?_
                (try simp only [aPt])
                refine tk 16 (by assumption) ?_
                (try simp only [aPt])
                refine tk 17 (by assumption) ?_
                (try simp only [aPt])
                refine tk 18 (by assumption) ?_
                (try simp only [aPt])
                refine tk 19 (by assumption) ?_
                (try simp only [aPt])
                refine tk 20 (by assumption) ?_
                (try simp only [aPt])
                refine tk 21 (by assumption) ?_
                (try simp only [aPt])
                refine tk 22 (by assumption) ?_
                (try simp only [aPt])
                refine tk 23 (by assumption) ?_
                (try simp only [aPt])
                refine tk 24 (by assumption) ?_
                (try simp only [aPt])
                refine tk 25 (by assumption) ?_
                (try simp only [aPt])
                refine tk 26 (by assumption) ?_
                (try simp only [aPt])
                refine tk 27 (by assumption) ?_
                (try simp only [aPt])
                refine tk 28 (by assumption) ?_
                (try simp only [aPt])
                refine tk 29 (by assumption) ?_
                (try simp only [aPt])
                refine tk 30 (by assumption) ?_
                (try simp only [aPt])
                refine tk 31 (by assumption) ?_
                (try simp only [aPt])
                refine wpAnyH_done (by kernel_rfl) ?_ _
                have hbz2 := hHeld.2.2.2.2.2
                go_wp2
                go_roundw
                case rel => exact ⟨i + 1, by omega, by go_num, HS1, hbz2⟩
                case measure => simp [intOf]; omega
      · have : i = L.length := by omega
        subst this
        have HQ : Hid (subsB L = true) := Lib.hid (by rw [HT.out, allW_good HP.out])
        go_wp2
        go_ret
        exact ⟨by rw [HQ.out]; rfl, hb⟩
  · have h16z : (16 : Int) < (L.length : Int) := by omega
    have HT : Hid (subsB L = false) := Lib.hid (by unfold subsB; simp [h16])
    clear h16
    go_enter Tryz.func23, Tryz.ntmps23
    go_wp2
    go_ret
    exact ⟨by rw [HT.out]; rfl, Below.refl _ _⟩

end Go.Proofs.YtknnaeejkmlnbaaGreatDoor.Kq
