/- kept.Put: what it comes to. -/


import Derived.Test.YtimjbojoeacaeaaDoorKpIns
namespace Go.Proofs.YtimjbojoeacaeaaDoor
open Go.RowKit Go.Shelf Go.Proofs

theorem own_mono {w : World} {B B' n size : Nat} {e : TypeId} {v : Value} {xs : List Value} (h : w.ownsRow B e size v n xs) (hB : B' ≤ B) : w.ownsRow B' e size v n xs := by
  refine ⟨h.1, ?_⟩
  rcases h.2 with h0 | ⟨g, cap, cur, h1, h2, h3⟩
  · exact .inl h0
  · exact .inr ⟨g, cap, cur, h1, by omega, h3⟩
theorem wOk_prev {L : List Msg1} {i : Nat} {x y : Msg1} (h : wOk L (i + 1) x = true) (hy : L[i]? = some y) : lessB y.f x.f = true := by
  unfold wOk at h
  simp only [hy, Bool.and_eq_true] at h
  exact h.2
theorem subsB_all {L : List Msg1} (h : subsB L = true) : ∀ (i : Nat) (x : Msg1), L[i]? = some x → wOk L i x = true := by
  unfold subsB allW at h
  rw [Bool.and_eq_true, List.all_eq_true] at h
  intro i x hx
  have := h.2 i (List.mem_range.2 (List.getElem?_eq_some_iff.1 hx).1)
  rw [hx] at this
  exact this
theorem sorted_of {L : List Msg1} (h : subsB L = true) : Sorted L := by
  have hall := subsB_all h
  have key : ∀ (d i : Nat) (x y : Msg1), L[i]? = some x → L[i + d + 1]? = some y → lessB x.f y.f = true := by
    intro d
    induction d with
    | zero => intro i x y hx hy; exact wOk_prev (hall _ _ hy) hx
    | succ d ih =>
      intro i x y hx hy
      have hlt := (List.getElem?_eq_some_iff.1 hy).1
      obtain ⟨z, hz⟩ : ∃ z, L[i + d + 1]? = some z := ⟨_, List.getElem?_eq_getElem (by omega)⟩
      exact lessB_trans (ih i x z hx hz) (wOk_prev (hall (i + d + 1 + 1) y (by rw [show i + d + 1 + 1 = i + (d + 1) + 1 by omega]; exact hy)) hz)
  intro i j x y hij hx hy
  exact key (j - i - 1) i x y hx (by rw [show i + (j - i - 1) + 1 = j by omega]; exact hy)
theorem subsB_len {L : List Msg1} (h : subsB L = true) : L.length ≤ 16 := by
  unfold subsB at h
  rw [Bool.and_eq_true, decide_eq_true_eq] at h
  exact h.1
theorem subsB_q {L : List Msg1} (h : subsB L = true) : ∀ (i : Nat) (x : Msg1), L[i]? = some x → mayK x = true := fun i x hx => by
  have := subsB_all h i x hx
  unfold wOk at this
  rw [Bool.and_eq_true] at this
  exact this.1
theorem mayK_may {x : Msg1} (h : mayK x = true) : mayW x = true ∧ ¬ x.p.toList = [] := by
  unfold mayK at h
  rw [Bool.and_eq_true] at h
  refine ⟨h.1, fun e => ?_⟩
  rw [e] at h
  simp at h
theorem mayW_nm {x : Msg1} (h : mayW x = true) : nm x.f = true := by
  unfold mayW at h
  simp only [Bool.and_eq_true] at h
  exact h.1.1.1
theorem posW_le (L : List Msg1) (f : ByteArray) : posW L f ≤ L.length := (List.takeWhile_sublist _).length_le
theorem there_lt {L : List Msg1} {f : ByteArray} (h : thereW L f = true) : ∃ x, L[posW L f]? = some x ∧ x.f = f := by
  unfold thereW at h
  split at h
  · rename_i x hx; exact ⟨x, hx, of_decide_eq_true h⟩
  · cases h
theorem Insert_any (w : World) (B : Nat) (v : Value) (L : List Msg1) (x : Msg1) (i vb : Nat) (hi : i ≤ L.length) (h : w.ownsRow B 55 4 v L.length (wCells L)) (hB : B ≤ w.heap.size) (hn : L.length ≤ 1000000)
    (hv : w.heap[vb]? = some (.cells #[.string x.f, .string x.p, .int .i64 x.q, .bool x.r] 55 (0, 0))) (hne : v.ownBlock ≠ some vb) :
    Calls Tryd.prog 64 #[v, .int .i64 i, .slice (some ⟨vb, 0, none⟩) 1 1] w fun e w' => ∃ v', e = .returned v' ∧ w'.ownsRow B 55 4 v' (L.length + 1) (wCells (L.take i ++ x :: L.drop i)) ∧ Below B w w' := by
  by_cases e : i = L.length
  · subst e
    rw [List.take_length, List.drop_length]
    exact Insert_end w B v L x vb h hB (by omega) hv
  · exact Insert_mid w B v L x i vb (by omega) h hB hn hv hne

/-- What Put answers: the list, the error. -/
def putL (L : List Msg1) (x : Msg1) : List Msg1 × Int :=
  if subsB L && mayW x then
    (if x.p.toList = [] then (if thereW L x.f then (L.take (posW L x.f) ++ L.drop (posW L x.f + 1), 0) else (L, 0))
     else if thereW L x.f then (L.set (posW L x.f) x, 0) else if L.length = 16 then ([], 5) else (L.take (posW L x.f) ++ x :: L.drop (posW L x.f), 0))
  else ([], 1)
theorem putL_no {L : List Msg1} {x : Msg1} (h : (subsB L && mayW x) = false) : putL L x = ([], 1) := by
  unfold putL
  rw [h]; rfl
theorem putL_yes {L : List Msg1} {x : Msg1} (h : subsB L = true) (hx : mayW x = true) : putL L x = 
    (if x.p.toList = [] then (if thereW L x.f then (L.take (posW L x.f) ++ L.drop (posW L x.f + 1), 0) else (L, 0))
     else if thereW L x.f then (L.set (posW L x.f) x, 0) else if L.length = 16 then ([], 5) else (L.take (posW L x.f) ++ x :: L.drop (posW L x.f), 0)) := by
  unfold putL
  rw [h, hx]; rfl

set_option maxRecDepth 100000 in
set_option maxHeartbeats 1600000 in
theorem Put_any (w : World) (v : Value) (L : List Msg1) (x : Msg1) (h : Rd w w.heap.size 4 v L.length (wCells L)) (hs : Short L) (hx : x.f.size ≤ 100000) (hx2 : x.p.size ≤ 100000) (hE : Env w) :
    Calls Tryd.prog 27 #[v, .agg #[.string x.f, .string x.p, .int .i64 x.q, .bool x.r]] w fun e w' => ∃ v', e = .returned (.tuple #[v', .int .i64 (putL L x).2]) ∧ w'.ownsRow w.heap.size 55 4 v' (putL L x).1.length (wCells (putL L x).1) ∧ Below w.heap.size w w' := by
  obtain ⟨ao, cap, rfl, hc, hm⟩ := h.form
  have hm' : cap ≤ 9223372036854775807 := by unfold maxLen at hm; omega
  clear hm
  have hb0 := (Below.refl w.heap.size w).alloc (Nat.le_refl _) (.cells #[.string x.f, .string x.p, .int .i64 x.q, .bool x.r] 55)
  have hE0 := hE.below hb0
  have H := Lib.hid (((h.below hb0).more hb0.size))
  clear h
  cases h1 : subsB L
  · have HT : Hid (putL L x = ([], 1)) := Lib.hid (putL_no (by rw [h1]; rfl))
    have H1 := Lib.hid h1
    clear h1
    go_enter Tryd.func27, Tryd.ntmps27
    go_wp2_with (go_at_call 57; refine (pMay_any _ _ L H.out hs hE0).mono ?_; rintro e w' ⟨rfl, hb⟩; rw [H1.out])
    go_ret2
    rw [HT.out]
    exact ⟨_, rfl, World.ownsRow_nil _ _ _ _, bel_tr hb0 hb⟩
  · have H1 := Lib.hid h1
    cases h2 : mayW x
    · have HT : Hid (putL L x = ([], 1)) := Lib.hid (putL_no (by rw [h1, h2]; rfl))
      have H2 := Lib.hid h2
      clear h1 h2
      go_enter Tryd.func27, Tryd.ntmps27
      go_wp2_with fail
      refine (pMay_any _ _ L H.out hs hE0).mono ?_
      rintro e w1 ⟨rfl, hb1⟩
      rw [H1.out]
      have hb01 := bel_tr hb0 hb1
      have c0 : w1.cell? ⟨w.heap.size, 0, none⟩ = some (.string x.f) := cell_bel (by simp) hb1
      have c1 : w1.cell? ⟨w.heap.size, 1, none⟩ = some (.string x.p) := cell_bel (by simp) hb1
      have c2 : w1.cell? ⟨w.heap.size, 2, none⟩ = some (.int .i64 x.q) := cell_bel (by simp) hb1
      have c3 : w1.cell? ⟨w.heap.size, 3, none⟩ = some (.bool x.r) := cell_bel (by simp) hb1
      go_wp2_with fail
      refine (pmay_any _ x hx hx2 (hE.below hb01)).mono ?_
      rintro e w2 ⟨rfl, hb2⟩
      rw [H2.out]
      have hb02 := bel_tr hb01 hb2
      go_wp2
      go_ret2
      rw [HT.out]
      exact ⟨_, rfl, World.ownsRow_nil _ _ _ _, hb02⟩
    · have H2 := Lib.hid h2
      have hso := sorted_of h1
      have hle := subsB_len h1
      have HY := Lib.hid (putL_yes h1 h2)
      have hple := posW_le L x.f
      obtain ⟨p, hp⟩ : ∃ p, p = posW L x.f := ⟨_, rfl⟩
      rw [← hp] at HY hple
      have HP := Lib.hid hp
      clear h1 h2
      cases h3 : thereW L x.f
      · have H3 := Lib.hid h3
        by_cases hp0 : x.p.toList = []
        · have HT : Hid (putL L x = (L, 0)) := Lib.hid (by rw [HY.out, if_pos hp0, h3]; rfl)
          have hpb : (x.p.toList == []) = true := beq_iff_eq.2 hp0
          clear h3 hp
          go_enter Tryd.func27, Tryd.ntmps27
          go_wp2_with fail
          refine (pMay_any _ _ L H.out hs hE0).mono ?_
          rintro e w1 ⟨rfl, hb1⟩
          rw [H1.out]
          have hb01 := bel_tr hb0 hb1
          have c0 : w1.cell? ⟨w.heap.size, 0, none⟩ = some (.string x.f) := cell_bel (by simp) hb1
          have c1 : w1.cell? ⟨w.heap.size, 1, none⟩ = some (.string x.p) := cell_bel (by simp) hb1
          have c2 : w1.cell? ⟨w.heap.size, 2, none⟩ = some (.int .i64 x.q) := cell_bel (by simp) hb1
          have c3 : w1.cell? ⟨w.heap.size, 3, none⟩ = some (.bool x.r) := cell_bel (by simp) hb1
          go_wp2_with fail
          refine (pmay_any _ x hx hx2 (hE.below hb01)).mono ?_
          rintro e w2 ⟨rfl, hb2⟩
          rw [H2.out]
          have hb02 := bel_tr hb01 hb2
          have d0 := cell_bel c0 hb2
          have d1 := cell_bel c1 hb2
          have d2 := cell_bel c2 hb2
          have d3 := cell_bel c3 hb2
          have H' := Lib.hid ((H.out.below (bel_tr hb1 hb2)).more (bel_tr hb1 hb2).size)
          go_wp2_with fail
          refine (Bin_any _ _ L x.f H'.out hso (by omega)).mono ?_
          rintro e w3 ⟨rfl, hb3⟩
          rw [H3.out, ← HP.out]
          have hb03 := bel_tr hb02 hb3
          have H'' := Lib.hid ((H'.out.below hb3).more hb3.size)
          go_wp2_with fail
          refine (Clone_any _ _ L H''.out (by omega)).mono ?_
          rintro e w4 ⟨v4, rfl, ho4, hb4⟩
          have HO4 := Lib.hid ho4
          have hb04 := bel_tr hb03 hb4
          have h34 := bel_tr hb3 hb4
          have f0 := cell_bel d0 h34
          have f1 := cell_bel d1 h34
          have f2 := cell_bel d2 h34
          have f3 := cell_bel d3 h34
          clear ho4 d0 d1 d2 d3
          go_wp2
          go_ret2
          rw [HT.out]
          exact ⟨_, rfl, own_mono HO4.out hb03.size, hb04⟩
        · have hpb : (x.p.toList == []) = false := beq_eq_false_iff_ne.2 hp0
          by_cases hfull : L.length = 16
          · have HT : Hid (putL L x = ([], 5)) := Lib.hid (by rw [HY.out, if_neg hp0, h3, if_pos hfull]; rfl)
            have HF := Lib.hid hfull
            clear h3 hp hfull
            go_enter Tryd.func27, Tryd.ntmps27
            go_wp2_with fail
            refine (pMay_any _ _ L H.out hs hE0).mono ?_
            rintro e w1 ⟨rfl, hb1⟩
            rw [H1.out]
            have hb01 := bel_tr hb0 hb1
            have c0 : w1.cell? ⟨w.heap.size, 0, none⟩ = some (.string x.f) := cell_bel (by simp) hb1
            have c1 : w1.cell? ⟨w.heap.size, 1, none⟩ = some (.string x.p) := cell_bel (by simp) hb1
            have c2 : w1.cell? ⟨w.heap.size, 2, none⟩ = some (.int .i64 x.q) := cell_bel (by simp) hb1
            have c3 : w1.cell? ⟨w.heap.size, 3, none⟩ = some (.bool x.r) := cell_bel (by simp) hb1
            go_wp2_with fail
            refine (pmay_any _ x hx hx2 (hE.below hb01)).mono ?_
            rintro e w2 ⟨rfl, hb2⟩
            rw [H2.out]
            have hb02 := bel_tr hb01 hb2
            have d0 := cell_bel c0 hb2
            have d1 := cell_bel c1 hb2
            have d2 := cell_bel c2 hb2
            have d3 := cell_bel c3 hb2
            have H' := Lib.hid ((H.out.below (bel_tr hb1 hb2)).more (bel_tr hb1 hb2).size)
            go_wp2_with fail
            refine (Bin_any _ _ L x.f H'.out hso (by omega)).mono ?_
            rintro e w3 ⟨rfl, hb3⟩
            rw [H3.out, ← HP.out]
            have hb03 := bel_tr hb02 hb3
            have H'' := Lib.hid ((H'.out.below hb3).more hb3.size)
            go_wp2_with fail
            refine (Clone_any _ _ L H''.out (by omega)).mono ?_
            rintro e w4 ⟨v4, rfl, ho4, hb4⟩
            have HO4 := Lib.hid ho4
            have hb04 := bel_tr hb03 hb4
            have h34 := bel_tr hb3 hb4
            have f0 := cell_bel d0 h34
            have f1 := cell_bel d1 h34
            have f2 := cell_bel d2 h34
            have f3 := cell_bel d3 h34
            clear ho4 d0 d1 d2 d3
            have hfull := HF.out
            go_wp2
            go_ret2
            rw [HT.out]
            exact ⟨_, rfl, World.ownsRow_nil _ _ _ _, hb04⟩
          · have HT : Hid (putL L x = (L.take p ++ x :: L.drop p, 0)) := Lib.hid (by rw [HY.out, if_neg hp0, h3, if_neg hfull]; rfl)
            clear h3 hp
            go_enter Tryd.func27, Tryd.ntmps27
            go_wp2_with fail
            refine (pMay_any _ _ L H.out hs hE0).mono ?_
            rintro e w1 ⟨rfl, hb1⟩
            rw [H1.out]
            have hb01 := bel_tr hb0 hb1
            have c0 : w1.cell? ⟨w.heap.size, 0, none⟩ = some (.string x.f) := cell_bel (by simp) hb1
            have c1 : w1.cell? ⟨w.heap.size, 1, none⟩ = some (.string x.p) := cell_bel (by simp) hb1
            have c2 : w1.cell? ⟨w.heap.size, 2, none⟩ = some (.int .i64 x.q) := cell_bel (by simp) hb1
            have c3 : w1.cell? ⟨w.heap.size, 3, none⟩ = some (.bool x.r) := cell_bel (by simp) hb1
            go_wp2_with fail
            refine (pmay_any _ x hx hx2 (hE.below hb01)).mono ?_
            rintro e w2 ⟨rfl, hb2⟩
            rw [H2.out]
            have hb02 := bel_tr hb01 hb2
            have d0 := cell_bel c0 hb2
            have d1 := cell_bel c1 hb2
            have d2 := cell_bel c2 hb2
            have d3 := cell_bel c3 hb2
            have H' := Lib.hid ((H.out.below (bel_tr hb1 hb2)).more (bel_tr hb1 hb2).size)
            go_wp2_with fail
            refine (Bin_any _ _ L x.f H'.out hso (by omega)).mono ?_
            rintro e w3 ⟨rfl, hb3⟩
            rw [H3.out, ← HP.out]
            have hb03 := bel_tr hb02 hb3
            have H'' := Lib.hid ((H'.out.below hb3).more hb3.size)
            go_wp2_with fail
            refine (Clone_any _ _ L H''.out (by omega)).mono ?_
            rintro e w4 ⟨v4, rfl, ho4, hb4⟩
            have HO4 := Lib.hid ho4
            have hb04 := bel_tr hb03 hb4
            have h34 := bel_tr hb3 hb4
            have f0 := cell_bel d0 h34
            have f1 := cell_bel d1 h34
            have f2 := cell_bel d2 h34
            have f3 := cell_bel d3 h34
            clear ho4 d0 d1 d2 d3
            go_wp2_with fail
            have hv4 : (w4.alloc (.cells #[.string x.f, .string x.p, .int .i64 x.q, .bool x.r] 55)).heap[w4.heap.size]? = some (.cells #[.string x.f, .string x.p, .int .i64 x.q, .bool x.r] 55 (0, 0)) := heap_alloc_new w4 _
            have hne4 : v4.ownBlock ≠ some w4.heap.size := fun e => by
              have := (HO4.out.lt _ e).2
              omega
            have hba := (Below.refl w.heap.size w4).alloc hb04.size (.cells #[.string x.f, .string x.p, .int .i64 x.q, .bool x.r] 55)
            refine (Insert_any _ w.heap.size _ L x p _ hple (own_mono (HO4.out.alloc _) hb03.size) (by simp; have := hb04.size; omega) (by omega) hv4 hne4).mono ?_
            rintro e w5 ⟨v5, rfl, ho5, hb5⟩
            have HO5 := Lib.hid ho5
            clear ho5
            go_wp2
            go_ret2
            rw [HT.out]
            refine ⟨_, rfl, ?_, (hb04.trans hba).trans hb5⟩
            have e1 : (L.take p ++ x :: L.drop p).length = L.length + 1 := by simp; omega
            show w5.ownsRow w.heap.size _ 4 v5 (L.take p ++ x :: L.drop p).length _
            rw [e1]
            exact HO5.out
      · obtain ⟨y, hy, _⟩ := there_lt h3
        rw [← hp] at hy
        have hlt := (List.getElem?_eq_some_iff.1 hy).1
        have H3 := Lib.hid h3
        by_cases hp0 : x.p.toList = []
        · have HT : Hid (putL L x = (L.take p ++ L.drop (p + 1), 0)) := Lib.hid (by rw [HY.out, if_pos hp0, h3]; rfl)
          have hpb : (x.p.toList == []) = true := beq_iff_eq.2 hp0
          clear h3 hp hy
          go_enter Tryd.func27, Tryd.ntmps27
          go_wp2_with fail
          refine (pMay_any _ _ L H.out hs hE0).mono ?_
          rintro e w1 ⟨rfl, hb1⟩
          rw [H1.out]
          have hb01 := bel_tr hb0 hb1
          have c0 : w1.cell? ⟨w.heap.size, 0, none⟩ = some (.string x.f) := cell_bel (by simp) hb1
          have c1 : w1.cell? ⟨w.heap.size, 1, none⟩ = some (.string x.p) := cell_bel (by simp) hb1
          have c2 : w1.cell? ⟨w.heap.size, 2, none⟩ = some (.int .i64 x.q) := cell_bel (by simp) hb1
          have c3 : w1.cell? ⟨w.heap.size, 3, none⟩ = some (.bool x.r) := cell_bel (by simp) hb1
          go_wp2_with fail
          refine (pmay_any _ x hx hx2 (hE.below hb01)).mono ?_
          rintro e w2 ⟨rfl, hb2⟩
          rw [H2.out]
          have hb02 := bel_tr hb01 hb2
          have d0 := cell_bel c0 hb2
          have d1 := cell_bel c1 hb2
          have d2 := cell_bel c2 hb2
          have d3 := cell_bel c3 hb2
          have H' := Lib.hid ((H.out.below (bel_tr hb1 hb2)).more (bel_tr hb1 hb2).size)
          go_wp2_with fail
          refine (Bin_any _ _ L x.f H'.out hso (by omega)).mono ?_
          rintro e w3 ⟨rfl, hb3⟩
          rw [H3.out, ← HP.out]
          have hb03 := bel_tr hb02 hb3
          have H'' := Lib.hid ((H'.out.below hb3).more hb3.size)
          go_wp2_with fail
          refine (Clone_any _ _ L H''.out (by omega)).mono ?_
          rintro e w4 ⟨v4, rfl, ho4, hb4⟩
          have HO4 := Lib.hid ho4
          have hb04 := bel_tr hb03 hb4
          have h34 := bel_tr hb3 hb4
          have f0 := cell_bel d0 h34
          have f1 := cell_bel d1 h34
          have f2 := cell_bel d2 h34
          have f3 := cell_bel d3 h34
          clear ho4 d0 d1 d2 d3
          go_wp2_with fail
          refine (Delete_any _ w3.heap.size _ L p (L.length - 1 - p) HO4.out (by omega) hb4.size (by omega)).mono ?_
          rintro e w5 ⟨v5, rfl, ho5, hb5⟩
          have HO5 := Lib.hid ho5
          clear ho5
          go_wp2
          go_ret2
          rw [HT.out]
          refine ⟨_, rfl, ?_, hb04.trans (hb5.mono hb03.size)⟩
          have e1 : (L.take p ++ L.drop (p + 1)).length = p + (L.length - 1 - p) := by simp; omega
          show w5.ownsRow w.heap.size _ 4 v5 (L.take p ++ L.drop (p + 1)).length _
          rw [e1]
          exact own_mono HO5.out hb03.size
        · have HT : Hid (putL L x = (L.set p x, 0)) := Lib.hid (by rw [HY.out, if_neg hp0, h3]; rfl)
          have hpb : (x.p.toList == []) = false := beq_eq_false_iff_ne.2 hp0
          have HYY := Lib.hid hy
          clear h3 hp hy
          go_enter Tryd.func27, Tryd.ntmps27
          go_wp2_with fail
          refine (pMay_any _ _ L H.out hs hE0).mono ?_
          rintro e w1 ⟨rfl, hb1⟩
          rw [H1.out]
          have hb01 := bel_tr hb0 hb1
          have c0 : w1.cell? ⟨w.heap.size, 0, none⟩ = some (.string x.f) := cell_bel (by simp) hb1
          have c1 : w1.cell? ⟨w.heap.size, 1, none⟩ = some (.string x.p) := cell_bel (by simp) hb1
          have c2 : w1.cell? ⟨w.heap.size, 2, none⟩ = some (.int .i64 x.q) := cell_bel (by simp) hb1
          have c3 : w1.cell? ⟨w.heap.size, 3, none⟩ = some (.bool x.r) := cell_bel (by simp) hb1
          go_wp2_with fail
          refine (pmay_any _ x hx hx2 (hE.below hb01)).mono ?_
          rintro e w2 ⟨rfl, hb2⟩
          rw [H2.out]
          have hb02 := bel_tr hb01 hb2
          have d0 := cell_bel c0 hb2
          have d1 := cell_bel c1 hb2
          have d2 := cell_bel c2 hb2
          have d3 := cell_bel c3 hb2
          have H' := Lib.hid ((H.out.below (bel_tr hb1 hb2)).more (bel_tr hb1 hb2).size)
          go_wp2_with fail
          refine (Bin_any _ _ L x.f H'.out hso (by omega)).mono ?_
          rintro e w3 ⟨rfl, hb3⟩
          rw [H3.out, ← HP.out]
          have hb03 := bel_tr hb02 hb3
          have H'' := Lib.hid ((H'.out.below hb3).more hb3.size)
          go_wp2_with fail
          refine (Clone_any _ _ L H''.out (by omega)).mono ?_
          rintro e w4 ⟨v4, rfl, ho4, hb4⟩
          have HO4 := Lib.hid ho4
          have hb04 := bel_tr hb03 hb4
          have h34 := bel_tr hb3 hb4
          have f0 := cell_bel d0 h34
          have f1 := cell_bel d1 h34
          have f2 := cell_bel d2 h34
          have f3 := cell_bel d3 h34
          clear ho4 d0 d1 d2 d3
          obtain ⟨g, cap4, rfl, hBg, hgl, hnc, hcm⟩ := own_form HO4.out (by omega)
          have ho4 := HO4.out
          have hm4 : cap4 ≤ 9223372036854775807 := by unfold maxLen at hcm; omega
          obtain ⟨y0, y1, y2, y3⟩ := wCells_at L p y HYY.out
          have g0 : w4.cell? ⟨g, p * 4, none⟩ = some (.string y.f) := (ho4.cellAt _ (by omega)).trans y0
          have g1 : w4.cell? ⟨g, p * 4 + 1, none⟩ = some (.string y.p) := (ho4.cellAt _ (by omega)).trans y1
          have g2 : w4.cell? ⟨g, p * 4 + 2, none⟩ = some (.int .i64 y.q) := (ho4.cellAt _ (by omega)).trans y2
          have g3 : w4.cell? ⟨g, p * 4 + 3, none⟩ = some (.bool y.r) := (ho4.cellAt _ (by omega)).trans y3
          have z0 : w4.frozen? ⟨g, p * 4, none⟩ = false := ho4.frozenAt _
          have z1 : w4.frozen? ⟨g, p * 4 + 1, none⟩ = false := ho4.frozenAt _
          have z2 : w4.frozen? ⟨g, p * 4 + 2, none⟩ = false := ho4.frozenAt _
          have z3 : w4.frozen? ⟨g, p * 4 + 3, none⟩ = false := ho4.frozenAt _
          obtain ⟨o5, g5⟩ := own_setCells (wC x) (p * 4) (wCells L) w4 ho4
          have hset : layL (wCells L) (p * 4) (wC x) = wCells (L.set p x) := by
            have e1 : L = L.take p ++ ([y] ++ L.drop (p + 1)) := by
              have := List.getElem?_eq_some_iff.1 HYY.out
              obtain ⟨hp, rfl⟩ := this
              simp
            have l1 : (wCells (L.take p)).length = p * 4 := by rw [wCells_length, List.length_take]; omega
            have e2 := layL_app (wC x) (wCells (L.take p)) (wCells (L.drop (p + 1))) (wC y) rfl
            rw [l1] at e2
            have e3 : wCells (L.take p) ++ wC y ++ wCells (L.drop (p + 1)) = wCells L := by
              have e4 := congrArg wCells e1
              rw [wCells_app, wCells_app] at e4
              rw [e4, List.append_assoc]
              rfl
            rw [e3] at e2
            rw [e2, List.set_eq_take_append_cons_drop, if_pos hlt, wCells_app, List.append_assoc]
            rfl
          rw [hset] at o5
          have hb5 : Below w3.heap.size w4 (w4.setCells g (p * 4) (wC x)) := (Below.refl _ w4).grown g5 hb4.size (fun k hk => by injection hk with hk; omega)
          have hbb5 := hb04.trans (hb5.mono hb03.size)
          have HO5 := Lib.hid o5
          have HB5 := Lib.hid hbb5
          clear o5 g5 hset ho4 hb5 hbb5 y0 y1 y2 y3
          go_wp2
          go_ret2
          rw [HT.out]
          refine ⟨_, rfl, ?_, HB5.out⟩
          have e1 : (L.set p x).length = L.length := by simp
          show World.ownsRow _ w.heap.size _ 4 _ (L.set p x).length _
          rw [e1]
          exact own_mono HO5.out hb03.size
end Go.Proofs.YtimjbojoeacaeaaDoor
