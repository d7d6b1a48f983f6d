/- slices.ContainsFunc at bytes: is one of them no nought? The log: clean. The log: part. -/


import Derived.Test.YtcgdlmlolmfinaaLgD
import Derived.Test.YtcgdlmlolmfinaaDkComp
import Derived.Test.YtcgdlmlolmfinaaLgW1
import Derived.Deep.OwnRows
import Derived.Test.YtcgdlmlolmfinaaDraw
namespace Go.Proofs.Ytcgdlmlolmfinaa
section
open Go.RowKit
theorem c1_any (x : UInt8) (w : World) : Calls Try.prog 51 #[.int .u8 x.toNat] w fun e w' => e = .returned (.bool (!(x == 0))) ∧ w = w' := by
  have hx : ((x.toNat : Int) != 0) = !(x == 0) := by
    by_cases h : x = 0
    · subst h; rfl
    · have h1 : (x == 0) = false := beq_eq_false_iff_ne.2 h
      rw [h1]
      refine bne_iff_ne.2 (fun e => h ?_)
      have : x.toNat = 0 := by omega
      exact UInt8.toNat_inj.1 this
  rw [← hx]
  clear hx
  go_enter Try.func51, Try.ntmps51
  go_wp2
  go_ret
  exact ⟨rfl, rfl⟩
set_option maxHeartbeats 1000000 in
theorem IndexB_any (w : World) (v : Value) (b : List UInt8) (Bd : Nat) (h : Rd w Bd 1 v b.length (u8s b)) :
    Calls Try.prog 62 #[v, .func (.func 51) #[] #[]] w fun e w' => ∃ i : Int, e = .returned (.int .i64 i) ∧ (0 ≤ i ↔ allZero b = false) ∧ w = w' := by
  obtain ⟨ao, cap, rfl, hcc, hm⟩ := h.form
  have hm' : cap ≤ 9223372036854775807 := by unfold maxLen at hm; omega
  have H := Lib.hid h
  clear h hm
  go_enter Try.func62, Try.ntmps62
  go_wp2
  go_loopw [8] (fun s wr => ∃ k : Nat, s = .int .i64 k ∧ k ≤ b.length ∧ w = wr ∧ Hid (∀ j x, j < k → b[j]? = some x → x = 0)) (fun s _ => b.length - (intOf s).toNat)
  case atStart => exact ⟨0, rfl, by omega, rfl, Lib.hid (fun j x hj => by omega)⟩
  case round =>
    obtain ⟨k, rfl, hk, rfl, HK⟩ := hrel
    by_cases hlt : k < b.length
    · obtain ⟨x, hx⟩ : ∃ x, b[k]? = some x := ⟨_, List.getElem?_eq_getElem hlt⟩
      obtain ⟨b2, o, u, rfl, hbl, hxu, hcs⟩ := H.out.at_ (k := k) (by omega)
      rw [u8s, List.getElem?_map, hx] at hxu
      injection hxu with hxu
      subst hxu
      have HX := Lib.hid hx
      have HA := Lib.hid (c1_any x w)
      have hkl : (k : Int) < (b.length : Int) := by omega
      clear hx
      go_wp2_with fail
      refine HA.out.mono ?_
      rintro e w1 ⟨rfl, rfl⟩
      cases h0 : (x == 0)
      · have HE : Hid (allZero b = false) := Lib.hid (by
          rw [← Bool.not_eq_true]
          intro h
          unfold allZero at h
          have := List.all_eq_true.1 h x (List.mem_of_getElem? HX.out)
          rw [h0] at this
          cases this)
        clear h0
        go_wp2
        go_ret
        exact ⟨_, rfl, ⟨fun _ => HE.out, fun _ => by omega⟩, rfl⟩
      · have HK2 : Hid (∀ j x, j < k + 1 → b[j]? = some x → x = 0) := Lib.hid (fun j x' hj hx' => by
          by_cases e : j = k
          · subst e
            rw [HX.out] at hx'
            injection hx' with hx'
            subst hx'
            exact beq_iff_eq.1 h0
          · exact HK.out j x' (by omega) hx')
        clear h0
        go_wp2
        go_roundw
        case rel => exact ⟨k + 1, by go_num, by omega, by trivial, HK2⟩
        case measure => simp [intOf]; omega
    · have hkl : ¬ ((k : Int) < (b.length : Int)) := by omega
      have HE : Hid (allZero b = true) := Lib.hid (by
        unfold allZero
        refine List.all_eq_true.2 (fun x hx => ?_)
        obtain ⟨j, hj, e⟩ := List.getElem_of_mem hx
        exact beq_iff_eq.2 (HK.out j x (by omega) (by rw [List.getElem?_eq_getElem hj, e])))
      go_wp2
      go_ret
      exact ⟨_, rfl, ⟨fun h => by omega, fun h => by rw [HE.out] at h; cases h⟩, by trivial⟩
theorem ContB_any (w : World) (v : Value) (b : List UInt8) (Bd : Nat) (h : Rd w Bd 1 v b.length (u8s b)) :
    Calls Try.prog 50 #[v, .func (.func 51) #[] #[]] w fun e w' => e = .returned (.bool (!allZero b)) ∧ w = w' := by
  have H := Lib.hid (IndexB_any w v b Bd h)
  obtain ⟨ao, cap, rfl, hcc, hm⟩ := h.form
  clear h hm
  go_enter Try.func50, Try.ntmps50
  go_wp2_with fail
  refine H.out.mono ?_
  rintro e w1 ⟨i, rfl, hi, rfl⟩
  have HQ : Hid (decide (0 ≤ i) = !allZero b) := Lib.hid (by
    cases hz : allZero b
    · simpa using hi.2 hz
    · simp only [Bool.not_true, decide_eq_false_iff_not]
      intro h
      have := hi.1 h
      rw [hz] at this
      cases this)
  clear hi
  go_wp2
  go_ret
  exact ⟨by rw [← HQ.out]; rfl, rfl⟩
end
section
open Go.RowKit
section
variable {w w' w1 : World} {base R RD : Nat} {F F1 : List Nat} {s s1 s' : DS}
theorem ask_last (s : DS) (k n : Int) (b : List UInt8) (g : Bool) : s.last ≤ (askS s k n b g).2.2.last ∧ (askS s k n b g).2.2.last ≤ s.last + 1 := by
  obtain ⟨_, _, _, k4, _⟩ := callS_K (s := s)
  unfold askS
  simp only
  split
  · simp only [k4]; omega
  · split
    · simp only [k4]; omega
    · split
      · simp only [k4]; omega
      · simp only [k4]; omega
theorem comp_last (s : DS) (k : Int) : (compS s k).2.2.2.last = s.last := by
  obtain ⟨_, _, _, k4, _⟩ := callS_K (s := s)
  unfold compS
  simp only
  split
  · exact k4
  · split
    · exact k4
    · split
      · exact k4
      · split
        · exact k4
        · split
          · exact k4
          · exact k4
theorem rd_last (s : DS) (n : Nat) : s.last ≤ (rdS s n).2.2.last ∧ (rdS s n).2.2.last ≤ s.last + 1 := by
  unfold rdS
  split
  · exact ask_last _ _ _ _ _
  · rw [comp_last]; exact ask_last _ _ _ _ _
theorem wr_last (s : DS) (n : Nat) (b : List UInt8) : s.last ≤ (wrS s n b).2.last ∧ (wrS s n b).2.last ≤ s.last + 1 := by
  unfold wrS
  split
  · exact ask_last _ _ _ _ _
  · rw [comp_last]; exact ask_last _ _ _ _ _
theorem fl_last (s : DS) : s.last ≤ (flS s).2.last ∧ (flS s).2.last ≤ s.last + 1 := by
  unfold flS
  split
  · exact ask_last _ _ _ _ _
  · rw [comp_last]; exact ask_last _ _ _ _ _
theorem made_u8L (n : Nat) : (madeCells #[.int .u8 0] n) = (u8s (List.replicate n 0)).toArray := by
  apply Array.ext'
  rw [toList_madeCells_one]
  simp [u8s]
/-- A round of clean. -/
structure ClI (w : World) (base RD : Nat) (F : List Nat) (s : DS) (r a : Nat) (FIN : Int × DS) (k : Nat) (dirty : Bool) (F' : List Nat) (s' : DS) (wr : World) : Prop where
  d : DkG wr base RD F' s'
  l : Left F w wr
  f : ∀ x ∈ F', x ∈ F ∨ w.heap.size ≤ x
  e : cleanD (r * 2048) (2048 - k) s' k dirty = FIN
  t : s.last ≤ s'.last ∧ s'.last ≤ s.last + 2 * (k : Nat)
theorem zero64_u8s : u8s (List.replicate 64 0) = u8s zero64 := rfl
set_option maxRecDepth 20000 in
set_option maxHeartbeats 4000000 in
theorem lclean (h0 : w.cell? ⟨R, 0, none⟩ = some (.pointer (some ⟨RD, 0, none⟩))) (hd : DkG w base RD F s) (hRF : R ∉ F) (hz : base ≤ w.heap.size) (r a : Nat) (hr : r ≤ 1) (ha : a ≤ 2048) (hlast : 0 ≤ s.last ∧ s.last ≤ 900000000) :
    Calls Try.prog 37 #[.pointer (some ⟨R, 0, none⟩), .int .i64 r, .int .i64 a] w fun e w' => e = .returned (.int .i64 (cleanS s r a).1) ∧ DkP w base RD F (cleanS s r a).2 w' := by
  obtain ⟨FIN, hF⟩ : ∃ X, cleanS s r a = X := ⟨_, rfl⟩
  rw [hF]
  have HI0 : Hid (ClI w base RD F s r a FIN a false F s w) := Lib.hid ⟨hd, Left.refl _ _, fun _ h => .inl h, hF, by omega⟩
  have hRlt : R < w.heap.size := World.block_lt_of_cell? w _ h0
  have HRL := Lib.hid hRlt
  have H0 := Lib.hid h0
  have HRF := Lib.hid hRF
  have HZ := Lib.hid hz
  have hmk := run_make_row' (P := Try.prog) 33 5 (.int .u8 0) 1 Try.underlying33 info_u8 rfl .i64 .i64 64 (by omega) (by omega)
  rw [made_u8L] at hmk
  simp only [show (((64 : Nat) : Nat) : Int) = 64 from rfl] at hmk
  obtain ⟨Z, hZ⟩ : ∃ Z, Z = u8s (List.replicate 64 0) := ⟨_, rfl⟩
  rw [← hZ] at hmk
  have HZ64 := Lib.hid hZ
  have HL := Lib.hid hlast
  clear h0 hd hRF hz hF hZ hlast hRlt
  go_enter Try.func37, Try.ntmps37
  go_wp2
  go_loopw [7, 8] (fun d n wr => ∃ (k : Nat) (dirty : Bool) (s' : DS) (F' : List Nat), d = .bool dirty ∧ n = .int .i64 ((r : Int) * 2048 + (k : Int)) ∧ a ≤ k ∧ k ≤ 2048 ∧ Hid (ClI w base RD F s r a FIN k dirty F' s' wr)) (fun _ n _ => 4096 - (intOf n).toNat)
  case atStart => exact ⟨a, false, s, F, rfl, rfl, by omega, ha, HI0⟩
  case round =>
    obtain ⟨k, dirty, s', F', rfl, rfl, hk1, hk2, HI⟩ := hrel
    by_cases hlt : k < 2048
    · have hlt2 : (r : Int) * 2048 + (k : Int) < ((r : Int) + 1) * 2048 := by omega
      have c0 := cell_left' H0.out HI.out.l HRF.out
      obtain ⟨B, e1, s1, hR⟩ : ∃ B e1 s1, rdS s' (r * 2048 + k) = (B, e1, s1) := ⟨_, _, _, rfl⟩
      have hRF' : R ∉ F' := fun hm => by
        rcases HI.out.f _ hm with h | h
        · exact HRF.out h
        · have := HRL.out; omega
      have HRD := Lib.hid (lread c0 HI.out.d hRF' (by have := HI.out.l.size; have := HZ.out; omega) (r * 2048 + k) (by have := HI.out.t; have := HL.out; omega))
      have e0 : (((r * 2048 + k : Nat) : Nat) : Int) = (r : Int) * 2048 + (k : Int) := by omega
      rw [hR, e0] at HRD
      have hT := rd_last s' (r * 2048 + k)
      rw [hR] at hT
      have hE := HI.out.e
      rw [show 2048 - k = (2048 - (k + 1)) + 1 by omega, cleanD, hR] at hE
      simp only at hE hT
      have HE := Lib.hid hE
      have HT := Lib.hid hT
      have HR := Lib.hid hR
      clear e0 hE hT hR hRF'
      go_wp2_with fail
      refine HRD.out.mono ?_
      rintro e w1 ⟨v, rfl, hv, F1, hd1, hl1, hf1, hvF⟩
      have HCT := Lib.hid (ContB_any w1 v B _ (Rd.of_own hv))
      obtain ⟨vo, vc, rfl, _, _⟩ := (Rd.of_own hv).form
      have hl1' := HI.out.l.trans hl1 HI.out.f
      have hf1' : ∀ x ∈ F1, x ∈ F ∨ w.heap.size ≤ x := fun x hx => by
        rcases hf1 x hx with h | h
        · exact HI.out.f x h
        · have := HI.out.l.size; exact .inr (by omega)
      have c1 := cell_left' H0.out hl1' HRF.out
      have H1 := Lib.hid (And.intro hd1 (And.intro hl1' hf1'))
      clear c0 hv hd1 hl1 hf1 hvF hl1' hf1'
      by_cases he : e1 = 0
      · subst he
        go_wp2_with fail
        refine HCT.out.mono ?_
        rintro e w2 ⟨rfl, rfl⟩
        cases hz : allZero B
        · obtain ⟨e2, s2, hW⟩ : ∃ e2 s2, wrS s1 (r * 2048 + k) zero64 = (e2, s2) := ⟨_, _, rfl⟩
          have hE := HE.out
          rw [hz, hW] at hE
          simp only [ne_eq, not_true_eq_false, if_false, Bool.false_eq_true] at hE
          have hT2 := wr_last s1 (r * 2048 + k) zero64
          rw [hW] at hT2
          simp only at hT2
          obtain ⟨wa, hwa⟩ : ∃ wa, wa = w1.alloc (.cells Z.toArray 5) := ⟨_, rfl⟩
          have hba : Below w1.heap.size w1 wa := by rw [hwa]; exact (Below.refl _ _).alloc (Nat.le_refl _) _
          have hWa : Whole wa w1.heap.size 5 (u8s zero64) := by rw [hwa, HZ64.out]; exact Whole.new w1 5 (u8s zero64)
          have ca : wa.cell? ⟨R, 0, none⟩ = some (.pointer (some ⟨RD, 0, none⟩)) := cell_left' c1 (Left.of_below hba []) (by simp)
          have hda := H1.out.1.left0 (Left.of_below hba [])
          have hF1lt : ∀ x ∈ F1, x < w1.heap.size := by
            obtain ⟨_, _, _, _, _, hh⟩ := H1.out.1
            exact fun x hx => (hh.lt x hx).2
          have hR1 : R ∉ F1 := fun hm => by
            rcases H1.out.2.2 _ hm with h | h
            · exact HRF.out h
            · have := HRL.out; omega
          have HWR := Lib.hid (lwrite ca hda hR1 (by have := hba.size; have := H1.out.2.1.size; have := HZ.out; omega) (r * 2048 + k) (bv := .slice (some ⟨w1.heap.size, 0, none⟩) 64 64) (b := zero64) (fun wx hx => by
            have hh := hWa.left hx (fun hm => by have := hF1lt _ hm; omega)
            have := Rd.of_whole hh (by unfold maxLen; simp [u8s, zero64])
            simpa [u8s, zero64] using this) (by simp [zero64]) (by have := HT.out; have := HI.out.t; have := HL.out; omega))
          have e0 : (((r * 2048 + k : Nat) : Nat) : Int) = (r : Int) * 2048 + (k : Int) := by omega
          rw [hW, e0] at HWR
          have HBA := Lib.hid hba
          have HE2 := Lib.hid hE
          have HT2 := Lib.hid hT2
          have hch := hwa.symm
          clear hE hT2 hW hba hWa ca hda hF1lt hR1 e0 hwa hz
          go_wp2_with fail
          refine HWR.out.mono ?_
          rintro e w3 ⟨rfl, F3, hd3, hl3, hf3⟩
          have hl3' : Left F w w3 := (H1.out.2.1.trans (Left.of_below HBA.out []) (by simp)).trans hl3 H1.out.2.2
          have hf3' : ∀ x ∈ F3, x ∈ F ∨ w.heap.size ≤ x := fun x hx => by
            rcases hf3 x hx with h | h
            · exact H1.out.2.2 x h
            · have := H1.out.2.1.size; have := HBA.out.size; exact .inr (by omega)
          have H3 := Lib.hid (And.intro hd3 (And.intro hl3' hf3'))
          clear hd3 hl3 hf3 hl3' hf3' hch c1
          by_cases he2 : e2 = 0
          · subst he2
            have HI2 : Hid (ClI w base RD F s r a FIN (k + 1) true F3 s2 w3) := Lib.hid ⟨H3.out.1, H3.out.2.1, H3.out.2.2, by have := HE2.out; simpa using this, by have := HT.out; have := HT2.out; have := HI.out.t; omega⟩
            go_wp2
            go_roundw
            case rel => exact ⟨k + 1, true, s2, F3, rfl, by go_num, by omega, by omega, HI2⟩
            case measure => simp [intOf]; omega
          · have hne : (e2 != 0) = true := bne_iff_ne.2 he2
            have HE3 : Hid ((e2, s2) = FIN) := Lib.hid (by have := HE2.out; simpa [he2] using this)
            go_wp2
            go_ret
            rw [← HE3.out]
            exact ⟨rfl, F3, H3.out⟩
        · have HI2 : Hid (ClI w base RD F s r a FIN (k + 1) dirty F1 s1 w1) := Lib.hid ⟨H1.out.1, H1.out.2.1, H1.out.2.2, by have := HE.out; simpa [hz] using this, by have := HT.out; have := HI.out.t; omega⟩
          clear hz
          go_wp2
          go_roundw
          case rel => exact ⟨k + 1, dirty, s1, F1, rfl, by go_num, by omega, by omega, HI2⟩
          case measure => simp [intOf]; omega
      · have hne : (e1 != 0) = true := bne_iff_ne.2 he
        have HE3 : Hid ((e1, s1) = FIN) := Lib.hid (by have := HE.out; simpa [he] using this)
        go_wp2
        go_ret
        rw [← HE3.out]
        exact ⟨rfl, F1, H1.out⟩
    · have hk : k = 2048 := by omega
      subst hk
      have hE := HI.out.e
      rw [Nat.sub_self, cleanD] at hE
      cases dirty
      · have HE : Hid ((0, s') = FIN) := Lib.hid (by simpa using hE)
        clear hE
        go_wp2
        go_ret
        rw [← HE.out]
        exact ⟨rfl, F', HI.out.d, HI.out.l, HI.out.f⟩
      · have HE : Hid (flS s' = FIN) := Lib.hid (by simpa using hE)
        have c0 := cell_left' H0.out HI.out.l HRF.out
        have hRF' : R ∉ F' := fun hm => by
          rcases HI.out.f _ hm with h | h
          · exact HRF.out h
          · have := HRL.out; omega
        have HFL := Lib.hid (lflush c0 HI.out.d hRF' (by have := HI.out.l.size; have := HZ.out; omega) (by have := HI.out.t; have := HL.out; omega))
        clear hE c0 hRF'
        go_wp2_with fail
        refine HFL.out.mono ?_
        rintro e w1 ⟨rfl, F1, hd1, hl1, hf1⟩
        have HR := Lib.hid (DkP.trans HI.out.l HI.out.f ⟨F1, hd1, hl1, hf1⟩)
        clear hd1 hl1 hf1
        go_wp2
        go_ret
        rw [← HE.out]
        exact ⟨rfl, HR.out⟩
end
end
section
open Go.RowKit
theorem body_u8s (b : List UInt8) : u8s (bodyOf b) = ((u8s b).drop 1).take 62 := by
  unfold bodyOf u8s
  rw [List.map_take, List.map_drop]
set_option maxRecDepth 20000 in
set_option maxHeartbeats 2000000 in
theorem lpart (w : World) (base : Nat) (v : Value) (b : List UInt8) (hb : b.length = 64) (h : w.ownsRow base 5 1 v b.length (u8s b)) (kind : UInt8) :
    Calls Try.prog 48 #[v, .int .u8 kind.toNat] w fun e w' => ∃ v', e = .returned (.tuple #[v', .bool (okSec kind b)]) ∧ Rd w' w'.heap.size 1 v' 62 (u8s (bodyOf b)) ∧ Below w.heap.size w w' := by
  obtain ⟨g, cap, rfl, hg1, hg2, hc1, hc2⟩ := own_form h (by omega)
  rw [hb] at h hc1 ⊢
  have hc3 : cap ≤ 9223372036854775807 := by unfold maxLen at hc2; omega
  obtain ⟨x, hx⟩ : ∃ x, b[0]? = some x := ⟨_, List.getElem?_eq_getElem (by omega)⟩
  obtain ⟨y, hy⟩ : ∃ y, b[63]? = some y := ⟨_, List.getElem?_eq_getElem (by omega)⟩
  have c0 : w.cell? ⟨g, 0, none⟩ = some (.int .u8 x.toNat) := by
    obtain ⟨b2, o, u, e, _, hu, hcs⟩ := (Rd.of_own h).at_ (k := 0) (by omega)
    injection e with e; injection e with e1 e2
    subst e1 e2
    rw [u8s, List.getElem?_map, hx] at hu
    injection hu with hu; subst hu
    exact hcs
  have c63 : w.cell? ⟨g, 63, none⟩ = some (.int .u8 y.toNat) := by
    obtain ⟨b2, o, u, e, _, hu, hcs⟩ := (Rd.of_own h).at_ (k := 63) (by omega)
    injection e with e; injection e with e1 e2
    subst e1 e2
    rw [u8s, List.getElem?_map, hy] at hu
    injection hu with hu; subst hu
    exact hcs
  have HRD : Hid (Rd w w.heap.size 1 (.slice (some ⟨g, 1, none⟩) 62 (cap - 1)) 62 (u8s (bodyOf b))) := Lib.hid (by
    rw [body_u8s]
    have hr := Rd.of_own h
    obtain ⟨hl, ao', cap', e, h3, h4, h5, h6⟩ := hr
    refine ⟨?_, _, _, rfl, by omega, by unfold maxLen at *; omega, (fun e => by cases e), fun _ => ⟨g, 1, rfl, hg2, fun j u hu => ?_⟩⟩
    · rw [List.length_take, List.length_drop]; simp [u8s]; omega
    · injection e with e1 e2 e3
      obtain ⟨b2, o, e', hlt, hcs⟩ := h6 (by omega)
      rw [← e1] at e'
      injection e' with e'; injection e' with e1' e2'
      subst e1' e2'
      rw [List.getElem?_take] at hu
      split at hu
      · rw [List.getElem?_drop] at hu
        have := hcs (1 + j) u hu
        rwa [Nat.zero_add] at this
      · cases hu)
  have e1 : ((x.toNat : Int) == (kind.toNat : Int)) = (x == kind) := by
    rw [Bool.eq_iff_iff, beq_iff_eq, beq_iff_eq]
    exact ⟨fun h => UInt8.toNat_inj.1 (by omega), fun h => by rw [h]⟩
  have e2 : ((y.toNat : Int) == 1) = (y == 1) := by
    rw [Bool.eq_iff_iff, beq_iff_eq, beq_iff_eq]
    exact ⟨fun h => UInt8.toNat_inj.1 (by have : (1 : UInt8).toNat = 1 := rfl; omega), fun h => by rw [h]; rfl⟩
  have HOK : Hid (okSec kind b = (x == kind && y == 1)) := Lib.hid (by
    unfold okSec
    rw [hx, hy]
    simp)
  have HB0 := Lib.hid (Below.refl w.heap.size w).drew
  clear h hx hy hb
  have hcI : (63 : Int) ≤ (cap : Int) := by omega
  have hcN : ¬ (cap = 1) := by omega
  have HRD2 : Hid (Rd w.drew w.drew.heap.size 1 (.slice (some ⟨g, 1, none⟩) 62 (cap - 1)) 62 (u8s (bodyOf b))) := Lib.hid (HRD.out.belowH HB0.out (Nat.le_refl _))
  cases hk : (x == kind)
  · rw [hk] at e1
    go_enter Try.func48, Try.ntmps48
    go_wp2
    refine wp_region_held_drew (S := fun wx => wx.cell? ⟨g, 0, none⟩ = some (.int .u8 x.toNat) ∧ wx.cell? ⟨g, 63, none⟩ = some (.int .u8 y.toNat)) (by kernel_rfl) ⟨c0, c63⟩ (fun hHeld => ?_)
    refine take_h 0 ⟨?_, ?_, ?_, by kernel_rfl, by kernel_rfl, by kernel_rfl, ?_, ?_, by assumption, ?_⟩
    rotate_left 2
    · (simp only [List.getElem?_toArray, List.getElem?_cons_zero]; exact rfl)
    · exact fun _ _ _ h => h
    · first
        | (refine Or.inr ⟨by rfl, ?_⟩; exact rfl)
        | (refine Or.inl ⟨by rfl, ?_⟩
           intro w hSw
           (try dsimp only at hSw)
           (try go_split_ands)
           go_simp
           (first | done | with_reducible rfl))
    try simp only [Act.put, List.setIfInBounds_toArray, List.set_cons_zero, List.set_cons_succ]
    refine take_h 1 ⟨?_, ?_, ?_, by kernel_rfl, by kernel_rfl, by kernel_rfl, ?_, ?_, by assumption, ?_⟩
    rotate_left 2
    · (simp only [List.getElem?_toArray, List.getElem?_cons_succ, List.getElem?_cons_zero]; exact rfl)
    · exact fun _ _ _ h => h
    · first
        | (refine Or.inr ⟨by rfl, ?_⟩; exact rfl)
        | (refine Or.inl ⟨by rfl, ?_⟩
           intro w hSw
           (try dsimp only at hSw)
           (try go_split_ands)
           go_simp
           (first | done | with_reducible rfl))
    try simp only [Act.put, List.setIfInBounds_toArray, List.set_cons_zero, List.set_cons_succ]
    refine take_h 2 ⟨?_, ?_, ?_, by kernel_rfl, by kernel_rfl, by kernel_rfl, ?_, ?_, by assumption, ?_⟩
    rotate_left 2
    · (simp only [List.getElem?_toArray, List.getElem?_cons_succ, List.getElem?_cons_zero]; exact rfl)
    · exact fun _ _ _ h => h
    · first
        | (refine Or.inr ⟨by rfl, ?_⟩; exact rfl)
        | (refine Or.inl ⟨by rfl, ?_⟩
           intro w hSw
           (try dsimp only at hSw)
           (try go_split_ands)
           go_simp
           (first | done | with_reducible rfl))
    try simp only [Act.put, List.setIfInBounds_toArray, List.set_cons_zero, List.set_cons_succ]
    refine take_h 3 ⟨?_, ?_, ?_, by kernel_rfl, by kernel_rfl, by kernel_rfl, ?_, ?_, by assumption, ?_⟩
    rotate_left 2
    · (simp only [List.getElem?_toArray, List.getElem?_cons_succ, List.getElem?_cons_zero]; exact rfl)
    · exact fun _ _ _ h => h
    · first
        | (refine Or.inr ⟨by rfl, ?_⟩; exact rfl)
        | (refine Or.inl ⟨by rfl, ?_⟩
           intro w hSw
           (try dsimp only at hSw)
           (try go_split_ands)
           go_simp
           (first | done | with_reducible rfl))
    try simp only [Act.put, List.setIfInBounds_toArray, List.set_cons_zero, List.set_cons_succ]
    refine take_h 4 ⟨?_, ?_, ?_, by kernel_rfl, by kernel_rfl, by kernel_rfl, ?_, ?_, by assumption, ?_⟩
    rotate_left 2
    · (simp only [List.getElem?_toArray, List.getElem?_cons_succ, List.getElem?_cons_zero]; exact rfl)
    · exact fun _ _ _ h => h
    · first
        | (refine Or.inr ⟨by rfl, ?_⟩; exact rfl)
        | (refine Or.inl ⟨by rfl, ?_⟩
           intro w hSw
           (try dsimp only at hSw)
           (try go_split_ands)
           go_simp
           (first | done | with_reducible rfl))
    try simp only [Act.put, List.setIfInBounds_toArray, List.set_cons_zero, List.set_cons_succ]
    refine take_h 5 ⟨?_, ?_, ?_, by kernel_rfl, by kernel_rfl, by kernel_rfl, ?_, ?_, by assumption, ?_⟩
    rotate_left 2
    · (simp only [List.getElem?_toArray, List.getElem?_cons_succ, List.getElem?_cons_zero]; exact rfl)
    · exact fun _ _ _ h => h
    · first
        | (refine Or.inr ⟨by rfl, ?_⟩; exact rfl)
        | (refine Or.inl ⟨by rfl, ?_⟩
           intro w hSw
           (try dsimp only at hSw)
           (try go_split_ands)
           go_simp
           (first | done | with_reducible rfl))
    try simp only [Act.put, List.setIfInBounds_toArray, List.set_cons_zero, List.set_cons_succ]
    refine take_h 6 ⟨?_, ?_, ?_, by kernel_rfl, by kernel_rfl, by kernel_rfl, ?_, ?_, by assumption, ?_⟩
    rotate_left 2
    · (simp only [List.getElem?_toArray, List.getElem?_cons_succ, List.getElem?_cons_zero]; exact rfl)
    · exact fun _ _ _ h => h
    · first
        | (refine Or.inr ⟨by rfl, ?_⟩; exact rfl)
        | (refine Or.inl ⟨by rfl, ?_⟩
           intro w hSw
           (try dsimp only at hSw)
           (try go_split_ands)
           go_simp
           (first | done | with_reducible rfl))
    try simp only [Act.put, List.setIfInBounds_toArray, List.set_cons_zero, List.set_cons_succ]
    refine take_h 7 ⟨?_, ?_, ?_, by kernel_rfl, by kernel_rfl, by kernel_rfl, ?_, ?_, by assumption, ?_⟩
    rotate_left 2
    · (simp only [List.getElem?_toArray, List.getElem?_cons_succ, List.getElem?_cons_zero]; exact rfl)
    · exact fun _ _ _ h => h
    · first
        | (refine Or.inr ⟨by rfl, ?_⟩; exact rfl)
        | (refine Or.inl ⟨by rfl, ?_⟩
           intro w hSw
           (try dsimp only at hSw)
           (try go_split_ands)
           go_simp
           (first | done | with_reducible rfl))
    try simp only [Act.put, List.setIfInBounds_toArray, List.set_cons_zero, List.set_cons_succ]
    refine take_h 8 ⟨?_, ?_, ?_, by kernel_rfl, by kernel_rfl, by kernel_rfl, ?_, ?_, by assumption, ?_⟩
    rotate_left 2
    · (simp only [List.getElem?_toArray, List.getElem?_cons_succ, List.getElem?_cons_zero]; exact rfl)
    · exact fun _ _ _ h => h
    · first
        | (refine Or.inr ⟨by rfl, ?_⟩; exact rfl)
        | (refine Or.inl ⟨by rfl, ?_⟩
           intro w hSw
           (try dsimp only at hSw)
           (try go_split_ands)
           go_simp
           (first | done | with_reducible rfl))
    try simp only [Act.put, List.setIfInBounds_toArray, List.set_cons_zero, List.set_cons_succ]
    refine take_h 9 ⟨?_, ?_, ?_, by kernel_rfl, by kernel_rfl, by kernel_rfl, ?_, ?_, by assumption, ?_⟩
    rotate_left 2
    · (simp only [List.getElem?_toArray, List.getElem?_cons_succ, List.getElem?_cons_zero]; exact rfl)
    · exact fun _ _ _ h => h
    · first
        | (refine Or.inr ⟨by rfl, ?_⟩; exact rfl)
        | (refine Or.inl ⟨by rfl, ?_⟩
           intro w hSw
           (try dsimp only at hSw)
           (try go_split_ands)
           go_simp
           (first | done | with_reducible rfl))
    try simp only [Act.put, List.setIfInBounds_toArray, List.set_cons_zero, List.set_cons_succ]
    refine take_h 10 ⟨?_, ?_, ?_, by kernel_rfl, by kernel_rfl, by kernel_rfl, ?_, ?_, by assumption, ?_⟩
    rotate_left 2
    · (simp only [List.getElem?_toArray, List.getElem?_cons_succ, List.getElem?_cons_zero]; exact rfl)
    · exact fun _ _ _ h => h
    · first
        | (refine Or.inr ⟨by rfl, ?_⟩; exact rfl)
        | (refine Or.inl ⟨by rfl, ?_⟩
           intro w hSw
           (try dsimp only at hSw)
           (try go_split_ands)
           go_simp
           (first | done | with_reducible rfl))
    try simp only [Act.put, List.setIfInBounds_toArray, List.set_cons_zero, List.set_cons_succ]
    refine take_h 11 ⟨?_, ?_, ?_, by kernel_rfl, by kernel_rfl, by kernel_rfl, ?_, ?_, by assumption, ?_⟩
    rotate_left 2
    · (simp only [List.getElem?_toArray, List.getElem?_cons_succ, List.getElem?_cons_zero]; exact rfl)
    · exact fun _ _ _ h => h
    · first
        | (refine Or.inr ⟨by rfl, ?_⟩; exact rfl)
        | (refine Or.inl ⟨by rfl, ?_⟩
           intro w hSw
           (try dsimp only at hSw)
           (try go_split_ands)
           go_simp
           (first | done | with_reducible rfl))
    try simp only [Act.put, List.setIfInBounds_toArray, List.set_cons_zero, List.set_cons_succ]
    refine take_h 12 ⟨?_, ?_, ?_, by kernel_rfl, by kernel_rfl, by kernel_rfl, ?_, ?_, by assumption, ?_⟩
    rotate_left 2
    · (simp only [List.getElem?_toArray, List.getElem?_cons_succ, List.getElem?_cons_zero]; exact rfl)
    · exact fun _ _ _ h => h
    · first
        | (refine Or.inr ⟨by rfl, ?_⟩; exact rfl)
        | (refine Or.inl ⟨by rfl, ?_⟩
           intro w hSw
           (try dsimp only at hSw)
           (try go_split_ands)
           go_simp
           (first | done | with_reducible rfl))
    try simp only [Act.put, List.setIfInBounds_toArray, List.set_cons_zero, List.set_cons_succ]
    refine take_h 13 ⟨?_, ?_, ?_, by kernel_rfl, by kernel_rfl, by kernel_rfl, ?_, ?_, by assumption, ?_⟩
    rotate_left 2
    · (simp only [List.getElem?_toArray, List.getElem?_cons_succ, List.getElem?_cons_zero]; exact rfl)
    · exact fun _ _ _ h => h
    · first
        | (refine Or.inr ⟨by rfl, ?_⟩; exact rfl)
        | (refine Or.inl ⟨by rfl, ?_⟩
           intro w hSw
           (try dsimp only at hSw)
           (try go_split_ands)
           go_simp
           (first | done | with_reducible rfl))
    try simp only [Act.put, List.setIfInBounds_toArray, List.set_cons_zero, List.set_cons_succ]
    refine take_h 14 ⟨?_, ?_, ?_, by kernel_rfl, by kernel_rfl, by kernel_rfl, ?_, ?_, by assumption, ?_⟩
    rotate_left 2
    · (simp only [List.getElem?_toArray, List.getElem?_cons_succ, List.getElem?_cons_zero]; exact rfl)
    · exact fun _ _ _ h => h
    · first
        | (refine Or.inr ⟨by rfl, ?_⟩; exact rfl)
        | (refine Or.inl ⟨by rfl, ?_⟩
           intro w hSw
           (try dsimp only at hSw)
           (try go_split_ands)
           go_simp
           (first | done | with_reducible rfl))
    try simp only [Act.put, List.setIfInBounds_toArray, List.set_cons_zero, List.set_cons_succ]
    refine wpAnyH_done (by kernel_rfl) ?_ _
    clear hHeld
    go_wp2
    go_ret2
    exact ⟨_, by rw [HOK.out, hk]; rfl, HRD2.out, HB0.out⟩
  · rw [hk] at e1
    go_enter Try.func48, Try.ntmps48
    go_wp2
    refine wp_region_held_drew (S := fun wx => wx.cell? ⟨g, 0, none⟩ = some (.int .u8 x.toNat) ∧ wx.cell? ⟨g, 63, none⟩ = some (.int .u8 y.toNat)) (by kernel_rfl) ⟨c0, c63⟩ (fun hHeld => ?_)
    refine take_h 0 ⟨?_, ?_, ?_, by kernel_rfl, by kernel_rfl, by kernel_rfl, ?_, ?_, by assumption, ?_⟩
    rotate_left 2
    · (simp only [List.getElem?_toArray, List.getElem?_cons_zero]; exact rfl)
    · exact fun _ _ _ h => h
    · first
        | (refine Or.inr ⟨by rfl, ?_⟩; exact rfl)
        | (refine Or.inl ⟨by rfl, ?_⟩
           intro w hSw
           (try dsimp only at hSw)
           (try go_split_ands)
           go_simp
           (first | done | with_reducible rfl))
    try simp only [Act.put, List.setIfInBounds_toArray, List.set_cons_zero, List.set_cons_succ]
    refine take_h 1 ⟨?_, ?_, ?_, by kernel_rfl, by kernel_rfl, by kernel_rfl, ?_, ?_, by assumption, ?_⟩
    rotate_left 2
    · (simp only [List.getElem?_toArray, List.getElem?_cons_succ, List.getElem?_cons_zero]; exact rfl)
    · exact fun _ _ _ h => h
    · first
        | (refine Or.inr ⟨by rfl, ?_⟩; exact rfl)
        | (refine Or.inl ⟨by rfl, ?_⟩
           intro w hSw
           (try dsimp only at hSw)
           (try go_split_ands)
           go_simp
           (first | done | with_reducible rfl))
    try simp only [Act.put, List.setIfInBounds_toArray, List.set_cons_zero, List.set_cons_succ]
    refine take_h 2 ⟨?_, ?_, ?_, by kernel_rfl, by kernel_rfl, by kernel_rfl, ?_, ?_, by assumption, ?_⟩
    rotate_left 2
    · (simp only [List.getElem?_toArray, List.getElem?_cons_succ, List.getElem?_cons_zero]; exact rfl)
    · exact fun _ _ _ h => h
    · first
        | (refine Or.inr ⟨by rfl, ?_⟩; exact rfl)
        | (refine Or.inl ⟨by rfl, ?_⟩
           intro w hSw
           (try dsimp only at hSw)
           (try go_split_ands)
           go_simp
           (first | done | with_reducible rfl))
    try simp only [Act.put, List.setIfInBounds_toArray, List.set_cons_zero, List.set_cons_succ]
    refine take_h 3 ⟨?_, ?_, ?_, by kernel_rfl, by kernel_rfl, by kernel_rfl, ?_, ?_, by assumption, ?_⟩
    rotate_left 2
    · (simp only [List.getElem?_toArray, List.getElem?_cons_succ, List.getElem?_cons_zero]; exact rfl)
    · exact fun _ _ _ h => h
    · first
        | (refine Or.inr ⟨by rfl, ?_⟩; exact rfl)
        | (refine Or.inl ⟨by rfl, ?_⟩
           intro w hSw
           (try dsimp only at hSw)
           (try go_split_ands)
           go_simp
           (first | done | with_reducible rfl))
    try simp only [Act.put, List.setIfInBounds_toArray, List.set_cons_zero, List.set_cons_succ]
    refine take_h 4 ⟨?_, ?_, ?_, by kernel_rfl, by kernel_rfl, by kernel_rfl, ?_, ?_, by assumption, ?_⟩
    rotate_left 2
    · (simp only [List.getElem?_toArray, List.getElem?_cons_succ, List.getElem?_cons_zero]; exact rfl)
    · exact fun _ _ _ h => h
    · first
        | (refine Or.inr ⟨by rfl, ?_⟩; exact rfl)
        | (refine Or.inl ⟨by rfl, ?_⟩
           intro w hSw
           (try dsimp only at hSw)
           (try go_split_ands)
           go_simp
           (first | done | with_reducible rfl))
    try simp only [Act.put, List.setIfInBounds_toArray, List.set_cons_zero, List.set_cons_succ]
    refine take_h 5 ⟨?_, ?_, ?_, by kernel_rfl, by kernel_rfl, by kernel_rfl, ?_, ?_, by assumption, ?_⟩
    rotate_left 2
    · (simp only [List.getElem?_toArray, List.getElem?_cons_succ, List.getElem?_cons_zero]; exact rfl)
    · exact fun _ _ _ h => h
    · first
        | (refine Or.inr ⟨by rfl, ?_⟩; exact rfl)
        | (refine Or.inl ⟨by rfl, ?_⟩
           intro w hSw
           (try dsimp only at hSw)
           (try go_split_ands)
           go_simp
           (first | done | with_reducible rfl))
    try simp only [Act.put, List.setIfInBounds_toArray, List.set_cons_zero, List.set_cons_succ]
    refine take_h 6 ⟨?_, ?_, ?_, by kernel_rfl, by kernel_rfl, by kernel_rfl, ?_, ?_, by assumption, ?_⟩
    rotate_left 2
    · (simp only [List.getElem?_toArray, List.getElem?_cons_succ, List.getElem?_cons_zero]; exact rfl)
    · exact fun _ _ _ h => h
    · first
        | (refine Or.inr ⟨by rfl, ?_⟩; exact rfl)
        | (refine Or.inl ⟨by rfl, ?_⟩
           intro w hSw
           (try dsimp only at hSw)
           (try go_split_ands)
           go_simp
           (first | done | with_reducible rfl))
    try simp only [Act.put, List.setIfInBounds_toArray, List.set_cons_zero, List.set_cons_succ]
    refine take_h 7 ⟨?_, ?_, ?_, by kernel_rfl, by kernel_rfl, by kernel_rfl, ?_, ?_, by assumption, ?_⟩
    rotate_left 2
    · (simp only [List.getElem?_toArray, List.getElem?_cons_succ, List.getElem?_cons_zero]; exact rfl)
    · exact fun _ _ _ h => h
    · first
        | (refine Or.inr ⟨by rfl, ?_⟩; exact rfl)
        | (refine Or.inl ⟨by rfl, ?_⟩
           intro w hSw
           (try dsimp only at hSw)
           (try go_split_ands)
           go_simp
           (first | done | with_reducible rfl))
    try simp only [Act.put, List.setIfInBounds_toArray, List.set_cons_zero, List.set_cons_succ]
    refine take_h 8 ⟨?_, ?_, ?_, by kernel_rfl, by kernel_rfl, by kernel_rfl, ?_, ?_, by assumption, ?_⟩
    rotate_left 2
    · (simp only [List.getElem?_toArray, List.getElem?_cons_succ, List.getElem?_cons_zero]; exact rfl)
    · exact fun _ _ _ h => h
    · first
        | (refine Or.inr ⟨by rfl, ?_⟩; exact rfl)
        | (refine Or.inl ⟨by rfl, ?_⟩
           intro w hSw
           (try dsimp only at hSw)
           (try go_split_ands)
           go_simp
           (first | done | with_reducible rfl))
    try simp only [Act.put, List.setIfInBounds_toArray, List.set_cons_zero, List.set_cons_succ]
    refine take_h 9 ⟨?_, ?_, ?_, by kernel_rfl, by kernel_rfl, by kernel_rfl, ?_, ?_, by assumption, ?_⟩
    rotate_left 2
    · (simp only [List.getElem?_toArray, List.getElem?_cons_succ, List.getElem?_cons_zero]; exact rfl)
    · exact fun _ _ _ h => h
    · first
        | (refine Or.inr ⟨by rfl, ?_⟩; exact rfl)
        | (refine Or.inl ⟨by rfl, ?_⟩
           intro w hSw
           (try dsimp only at hSw)
           (try go_split_ands)
           go_simp
           (first | done | with_reducible rfl))
    try simp only [Act.put, List.setIfInBounds_toArray, List.set_cons_zero, List.set_cons_succ]
    refine take_h 10 ⟨?_, ?_, ?_, by kernel_rfl, by kernel_rfl, by kernel_rfl, ?_, ?_, by assumption, ?_⟩
    rotate_left 2
    · (simp only [List.getElem?_toArray, List.getElem?_cons_succ, List.getElem?_cons_zero]; exact rfl)
    · exact fun _ _ _ h => h
    · first
        | (refine Or.inr ⟨by rfl, ?_⟩; exact rfl)
        | (refine Or.inl ⟨by rfl, ?_⟩
           intro w hSw
           (try dsimp only at hSw)
           (try go_split_ands)
           go_simp
           (first | done | with_reducible rfl))
    try simp only [Act.put, List.setIfInBounds_toArray, List.set_cons_zero, List.set_cons_succ]
    refine take_h 11 ⟨?_, ?_, ?_, by kernel_rfl, by kernel_rfl, by kernel_rfl, ?_, ?_, by assumption, ?_⟩
    rotate_left 2
    · (simp only [List.getElem?_toArray, List.getElem?_cons_succ, List.getElem?_cons_zero]; exact rfl)
    · exact fun _ _ _ h => h
    · first
        | (refine Or.inr ⟨by rfl, ?_⟩; exact rfl)
        | (refine Or.inl ⟨by rfl, ?_⟩
           intro w hSw
           (try dsimp only at hSw)
           (try go_split_ands)
           go_simp
           (first | done | with_reducible rfl))
    try simp only [Act.put, List.setIfInBounds_toArray, List.set_cons_zero, List.set_cons_succ]
    refine take_h 12 ⟨?_, ?_, ?_, by kernel_rfl, by kernel_rfl, by kernel_rfl, ?_, ?_, by assumption, ?_⟩
    rotate_left 2
    · (simp only [List.getElem?_toArray, List.getElem?_cons_succ, List.getElem?_cons_zero]; exact rfl)
    · exact fun _ _ _ h => h
    · first
        | (refine Or.inr ⟨by rfl, ?_⟩; exact rfl)
        | (refine Or.inl ⟨by rfl, ?_⟩
           intro w hSw
           (try dsimp only at hSw)
           (try go_split_ands)
           go_simp
           (first | done | with_reducible rfl))
    try simp only [Act.put, List.setIfInBounds_toArray, List.set_cons_zero, List.set_cons_succ]
    refine take_h 13 ⟨?_, ?_, ?_, by kernel_rfl, by kernel_rfl, by kernel_rfl, ?_, ?_, by assumption, ?_⟩
    rotate_left 2
    · (simp only [List.getElem?_toArray, List.getElem?_cons_succ, List.getElem?_cons_zero]; exact rfl)
    · exact fun _ _ _ h => h
    · first
        | (refine Or.inr ⟨by rfl, ?_⟩; exact rfl)
        | (refine Or.inl ⟨by rfl, ?_⟩
           intro w hSw
           (try dsimp only at hSw)
           (try go_split_ands)
           go_simp
           (first | done | with_reducible rfl))
    try simp only [Act.put, List.setIfInBounds_toArray, List.set_cons_zero, List.set_cons_succ]
    refine take_h 14 ⟨?_, ?_, ?_, by kernel_rfl, by kernel_rfl, by kernel_rfl, ?_, ?_, by assumption, ?_⟩
    rotate_left 2
    · (simp only [List.getElem?_toArray, List.getElem?_cons_succ, List.getElem?_cons_zero]; exact rfl)
    · exact fun _ _ _ h => h
    · first
        | (refine Or.inr ⟨by rfl, ?_⟩; exact rfl)
        | (refine Or.inl ⟨by rfl, ?_⟩
           intro w hSw
           (try dsimp only at hSw)
           (try go_split_ands)
           go_simp
           (first | done | with_reducible rfl))
    try simp only [Act.put, List.setIfInBounds_toArray, List.set_cons_zero, List.set_cons_succ]
    refine wpAnyH_done (by kernel_rfl) ?_ _
    clear hHeld
    go_wp2
    go_ret2
    exact ⟨_, by rw [HOK.out, hk, ← e2]; rfl, HRD2.out, HB0.out⟩
end
end Go.Proofs.Ytcgdlmlolmfinaa
