/- subs.Check, subs.Drop, subs.Add: what they come to. -/


import Derived.Test.YtimjbojoeacaeaaDoorSbIns
import Derived.Test.YtimjbojoeacaeaaDoorSbRef
namespace Go.Proofs.YtimjbojoeacaeaaDoor
open Go.RowKit Go.Shelf Go.Proofs

section
variable {P : Program} {ops : Array Oper} {Q : Exit → Act → World → Prop} {md : Region.Mode} {S : World → Prop}
theorem call_h2 {fuel : Nat} {listed : Array Bool} {a : Act} {w : World} (i j : Nat)
    (Hi : ∃ o : Oper, ops[i]? = some o ∧ ∀ K' : Act → World → Prop, Shut (∀ a w, S w → (S w → wpAnyH P md ops Q S fuel (listed.setIfInBounds i true) a w) → K' a w) → if Region.wanted o (yielded ops a.tmps) = true then Oper.wp P o a w K' Q else K' (a.put o.dst undef) w)
    (Hj : ∃ o : Oper, ops[j]? = some o ∧ ∀ K' : Act → World → Prop, Shut (∀ a w, S w → (S w → wpAnyH P md ops Q S fuel (listed.setIfInBounds j true) a w) → K' a w) → if Region.wanted o (yielded ops a.tmps) = true then Oper.wp P o a w K' Q else K' (a.put o.dst undef) w) :
    AllReadyH P md ops Q S fuel listed a w [i, j] := by
  obtain ⟨o, h1, h2⟩ := Hi
  exact AllReadyH.cons h1 h2 (call_h j Hj)
end
theorem own_mono {w : World} {B B' n size : Nat} {e : TypeId} {v : Value} {xs : List Value} (h : w.ownsRow B e size v n xs) (hB : B' ≤ B) : w.ownsRow B' e size v n xs := by
  refine ⟨h.1, ?_⟩
  rcases h.2 with h0 | ⟨g, cap, cur, h1, h2, h3⟩
  · exact .inl h0
  · exact .inr ⟨g, cap, cur, h1, by omega, h3⟩
theorem wOk_prev {L : List Wish1} {i : Nat} {x y : Wish1} (h : wOk L (i + 1) x = true) (hy : L[i]? = some y) : lessB y.f x.f = true := by
  unfold wOk at h
  simp only [hy, Bool.and_eq_true] at h
  exact h.2
theorem sorted_of {L : List Wish1} (h : subsB L = true) : Sorted L := by
  have hall : ∀ (i : Nat) (x : Wish1), L[i]? = some x → wOk L i x = true := by
    unfold subsB allW at h
    rw [Bool.and_eq_true, List.all_eq_true] at h
    intro i x hx
    have := h.2 i (List.mem_range.2 (List.getElem?_eq_some_iff.1 hx).1)
    rw [hx] at this
    exact this
  have key : ∀ (d i : Nat) (x y : Wish1), L[i]? = some x → L[i + d + 1]? = some y → lessB x.f y.f = true := by
    intro d
    induction d with
    | zero => intro i x y hx hy; exact wOk_prev (hall _ _ hy) hx
    | succ d ih =>
      intro i x y hx hy
      have hlt := (List.getElem?_eq_some_iff.1 hy).1
      obtain ⟨z, hz⟩ : ∃ z, L[i + d + 1]? = some z := ⟨_, List.getElem?_eq_getElem (by omega)⟩
      exact lessB_trans (ih i x z hx hz) (wOk_prev (hall (i + d + 1 + 1) y (by rw [show i + d + 1 + 1 = i + (d + 1) + 1 by omega]; exact hy)) hz)
  intro i j x y hij hx hy
  exact key (j - i - 1) i x y hx (by rw [show i + (j - i - 1) + 1 = j by omega]; exact hy)
theorem subsB_len {L : List Wish1} (h : subsB L = true) : L.length ≤ 16 := by
  unfold subsB at h
  rw [Bool.and_eq_true, decide_eq_true_eq] at h
  exact h.1
theorem posW_le (L : List Wish1) (f : ByteArray) : posW L f ≤ L.length := (List.takeWhile_sublist _).length_le
theorem there_lt {L : List Wish1} {f : ByteArray} (h : thereW L f = true) : ∃ x, L[posW L f]? = some x ∧ x.f = f := by
  unfold thereW at h
  split at h
  · rename_i x hx; exact ⟨x, hx, of_decide_eq_true h⟩
  · cases h

set_option maxHeartbeats 1000000 in
theorem Check_any (w : World) (v : Value) (L : List Wish1) (h : Rd w w.heap.size 2 v L.length (wCells L)) (hs : Short L) (hE : Env w) :
    Calls Tryd.prog 40 #[v] w fun e w' => e = .returned (.int .i64 (if subsB L then 0 else 1)) ∧ Below w.heap.size w w' := by
  have H := Lib.hid h
  clear h
  cases h1 : subsB L
  · have H1 := Lib.hid h1
    clear h1
    go_enter Tryd.func40, Tryd.ntmps40
    go_wp2_with (go_at_call 55; refine (pMay_any _ _ L H.out hs hE).mono ?_; rintro e w' ⟨rfl, hb⟩; rw [H1.out])
    go_ret
    exact ⟨rfl, hb⟩
  · have H1 := Lib.hid h1
    clear h1
    go_enter Tryd.func40, Tryd.ntmps40
    go_wp2_with (go_at_call 55; refine (pMay_any _ _ L H.out hs hE).mono ?_; rintro e w' ⟨rfl, hb⟩; rw [H1.out])
    go_ret
    exact ⟨rfl, hb⟩

/-- What Drop answers: the list, the error. -/
def dropL (L : List Wish1) (f : ByteArray) : List Wish1 × Int :=
  if subsB L then (if thereW L f then (L.take (posW L f) ++ L.drop (posW L f + 1), 0) else ([], 3)) else ([], 1)

set_option maxHeartbeats 2000000 in
theorem Drop_any (w : World) (v : Value) (L : List Wish1) (f : ByteArray) (h : Rd w w.heap.size 2 v L.length (wCells L)) (hs : Short L) (hE : Env w) :
    Calls Tryd.prog 42 #[v, .string f] w fun e w' => ∃ v', e = .returned (.tuple #[v', .int .i64 (dropL L f).2]) ∧ w'.ownsRow w.heap.size 43 2 v' (dropL L f).1.length (wCells (dropL L f).1) ∧ Below w.heap.size w w' := by
  have H := Lib.hid h
  clear h
  cases h1 : subsB L
  · have HT : Hid (dropL L f = ([], 1)) := Lib.hid (by unfold dropL; rw [h1]; rfl)
    have H1 := Lib.hid h1
    clear h1
    go_enter Tryd.func42, Tryd.ntmps42
    go_wp2_with (go_at_call 55; refine (pMay_any _ _ L H.out hs hE).mono ?_; rintro e w' ⟨rfl, hb⟩; rw [H1.out])
    go_ret2
    rw [HT.out]
    exact ⟨_, rfl, World.ownsRow_nil _ _ _ _, hb⟩
  · have hso := sorted_of h1
    have hle := subsB_len h1
    have H1 := Lib.hid h1
    cases h2 : thereW L f
    · have HT : Hid (dropL L f = ([], 3)) := Lib.hid (by unfold dropL; rw [h1, h2]; rfl)
      have H2 := Lib.hid h2
      clear h1 h2
      go_enter Tryd.func42, Tryd.ntmps42
      go_wp2_with fail
      refine (pMay_any _ _ L H.out hs hE).mono ?_
      rintro e w1 ⟨rfl, hb1⟩
      rw [H1.out]
      go_wp2_with fail
      refine (find_any _ _ L f ((H.out.below hb1).more hb1.size) hso (by omega)).mono ?_
      rintro e w2 ⟨rfl, hb2⟩
      rw [H2.out]
      go_wp2
      go_ret2
      rw [HT.out]
      exact ⟨_, rfl, World.ownsRow_nil _ _ _ _, bel_tr hb1 hb2⟩
    · obtain ⟨x, hx, _⟩ := there_lt h2
      have hlt := (List.getElem?_eq_some_iff.1 hx).1
      have HT : Hid (dropL L f = (L.take (posW L f) ++ L.drop (posW L f + 1), 0)) := Lib.hid (by unfold dropL; rw [h1, h2]; rfl)
      have H2 := Lib.hid h2
      obtain ⟨p, hp⟩ : ∃ p, p = posW L f := ⟨_, rfl⟩
      rw [← hp] at HT hlt
      have HP := Lib.hid hp
      clear h1 h2 hx hp
      go_enter Tryd.func42, Tryd.ntmps42
      go_wp2_with fail
      refine (pMay_any _ _ L H.out hs hE).mono ?_
      rintro e w1 ⟨rfl, hb1⟩
      rw [H1.out]
      go_wp2_with fail
      refine (find_any _ _ L f ((H.out.below hb1).more hb1.size) hso (by omega)).mono ?_
      rintro e w2 ⟨rfl, hb2⟩
      rw [H2.out, ← HP.out]
      have hb12 := bel_tr hb1 hb2
      go_wp2_with fail
      refine (Clone_any _ _ L ((H.out.below hb12).more hb12.size) (by omega)).mono ?_
      rintro e w3 ⟨v3, rfl, ho3, hb3⟩
      have HO3 := Lib.hid ho3
      have hb123 := bel_tr hb12 hb3
      clear ho3
      go_wp2_with fail
      refine (Delete_any _ w2.heap.size _ L p (L.length - 1 - p) HO3.out (by omega) hb3.size (by omega)).mono ?_
      rintro e w4 ⟨v4, rfl, ho4, hb4⟩
      have HO4 := Lib.hid ho4
      clear ho4
      go_wp2
      go_ret2
      rw [HT.out]
      refine ⟨_, rfl, ?_, hb123.trans (hb4.mono hb12.size)⟩
      have e1 : (L.take p ++ L.drop (p + 1)).length = p + (L.length - 1 - p) := by simp; omega
      show w4.ownsRow w.heap.size _ 2 v4 (L.take p ++ L.drop (p + 1)).length _
      rw [e1]
      exact own_mono HO4.out hb12.size

theorem Insert_any (w : World) (B : Nat) (v : Value) (L : List Wish1) (x : Wish1) (i vb : Nat) (hi : i ≤ L.length) (h : w.ownsRow B 43 2 v L.length (wCells L)) (hB : B ≤ w.heap.size) (hn : L.length ≤ 1000000)
    (hv : w.heap[vb]? = some (.cells #[.string x.f, .int .i64 x.q] 43 (0, 0))) (hne : v.ownBlock ≠ some vb) :
    Calls Tryd.prog 71 #[v, .int .i64 i, .slice (some ⟨vb, 0, none⟩) 1 1] w fun e w' => ∃ v', e = .returned v' ∧ w'.ownsRow B 43 2 v' (L.length + 1) (wCells (L.take i ++ x :: L.drop i)) ∧ Below B w w' := by
  by_cases e : i = L.length
  · subst e
    rw [List.take_length, List.drop_length]
    exact Insert_end w B v L x vb h hB (by omega) hv
  · exact Insert_mid w B v L x i vb (by omega) h hB hn hv hne

/-- What Add answers: the list, the error. -/
def addL (L : List Wish1) (x : Wish1) : List Wish1 × Int :=
  if subsB L && mayW x then
    (if thereW L x.f then (L.set (posW L x.f) x, 0) else if L.length = 16 then ([], 5) else (L.take (posW L x.f) ++ x :: L.drop (posW L x.f), 0))
  else ([], 1)

set_option maxRecDepth 100000 in
set_option maxHeartbeats 800000 in
theorem Add_any (w : World) (v : Value) (L : List Wish1) (x : Wish1) (h : Rd w w.heap.size 2 v L.length (wCells L)) (hs : Short L) (hx : x.f.size ≤ 100000) (hE : Env w) :
    Calls Tryd.prog 47 #[v, .agg #[.string x.f, .int .i64 x.q]] w fun e w' => ∃ v', e = .returned (.tuple #[v', .int .i64 (addL L x).2]) ∧ w'.ownsRow w.heap.size 43 2 v' (addL L x).1.length (wCells (addL L x).1) ∧ Below w.heap.size w w' := by
  obtain ⟨ao, cap, rfl, hc, hm⟩ := h.form
  have hm' : cap ≤ 9223372036854775807 := by unfold maxLen at hm; omega
  clear hm
  have hb0 := (Below.refl w.heap.size w).alloc (Nat.le_refl _) (.cells #[.string x.f, .int .i64 x.q] 43)
  have hE0 := hE.below hb0
  have H := Lib.hid (((h.below hb0).more hb0.size))
  clear h
  cases h1 : subsB L
  · have HT : Hid (addL L x = ([], 1)) := Lib.hid (by unfold addL; rw [h1]; rfl)
    have H1 := Lib.hid h1
    clear h1
    go_enter Tryd.func47, Tryd.ntmps47
    go_wp2_with (go_at_call 55; refine (pMay_any _ _ L H.out hs hE0).mono ?_; rintro e w' ⟨rfl, hb⟩; rw [H1.out])
    go_ret2
    rw [HT.out]
    exact ⟨_, rfl, World.ownsRow_nil _ _ _ _, bel_tr hb0 hb⟩
  · have H1 := Lib.hid h1
    cases h2 : mayW x
    · have HT : Hid (addL L x = ([], 1)) := Lib.hid (by unfold addL; rw [h1, h2]; rfl)
      have H2 := Lib.hid h2
      clear h1 h2
      go_enter Tryd.func47, Tryd.ntmps47
      go_wp2_with fail
      refine (pMay_any _ _ L H.out hs hE0).mono ?_
      rintro e w1 ⟨rfl, hb1⟩
      rw [H1.out]
      have hb01 := bel_tr hb0 hb1
      have c0 : w1.cell? ⟨w.heap.size, 0, none⟩ = some (.string x.f) := cell_bel (by simp) hb1
      have c1 : w1.cell? ⟨w.heap.size, 1, none⟩ = some (.int .i64 x.q) := cell_bel (by simp) hb1
      go_wp2_with (go_at_call 70; refine (pmay_any _ x hx (hE.below hb01)).mono ?_; rintro e w' ⟨rfl, hb⟩; rw [H2.out])
      go_ret2
      rw [HT.out]
      exact ⟨_, rfl, World.ownsRow_nil _ _ _ _, bel_tr hb01 hb⟩
    · have H2 := Lib.hid h2
      have hso := sorted_of h1
      have hle := subsB_len h1
      cases h3 : thereW L x.f
      · have H3 := Lib.hid h3
        have hple := posW_le L x.f
        by_cases hfull : L.length = 16
        · have HT : Hid (addL L x = ([], 5)) := Lib.hid (by unfold addL; rw [h1, h2, h3, if_pos hfull]; rfl)
          have HF := Lib.hid hfull
          clear h1 h2 h3 hfull
          go_enter Tryd.func47, Tryd.ntmps47
          go_wp2_with fail
          refine (pMay_any _ _ L H.out hs hE0).mono ?_
          rintro e w1 ⟨rfl, hb1⟩
          rw [H1.out]
          have hb01 := bel_tr hb0 hb1
          have c0 : w1.cell? ⟨w.heap.size, 0, none⟩ = some (.string x.f) := cell_bel (by simp) hb1
          have c1 : w1.cell? ⟨w.heap.size, 1, none⟩ = some (.int .i64 x.q) := cell_bel (by simp) hb1
          go_wp2_with fail
          refine (pmay_any _ x hx (hE.below hb01)).mono ?_
          rintro e w2 ⟨rfl, hb2⟩
          rw [H2.out]
          have hb02 := bel_tr hb01 hb2
          have d0 : w2.cell? ⟨w.heap.size, 0, none⟩ = some (.string x.f) := cell_bel c0 hb2
          have d1 : w2.cell? ⟨w.heap.size, 1, none⟩ = some (.int .i64 x.q) := cell_bel c1 hb2
          have H' := Lib.hid ((H.out.below (bel_tr hb1 hb2)).more (bel_tr hb1 hb2).size)
          go_wp2_with fail
          refine (find_any _ _ L x.f H'.out hso (by omega)).mono ?_
          rintro e w3 ⟨rfl, hb3⟩
          have hb03 := bel_tr hb02 hb3
          have e0 : w3.cell? ⟨w.heap.size, 0, none⟩ = some (.string x.f) := cell_bel d0 hb3
          have e1 : w3.cell? ⟨w.heap.size, 1, none⟩ = some (.int .i64 x.q) := cell_bel d1 hb3
          have H'' := Lib.hid ((H'.out.below hb3).more hb3.size)
          rw [H3.out]
          have hfull := HF.out
          go_wp2
          go_ret2
          rw [HT.out]
          exact ⟨_, rfl, World.ownsRow_nil _ _ _ _, hb03⟩
        · have HT : Hid (addL L x = (L.take (posW L x.f) ++ x :: L.drop (posW L x.f), 0)) := Lib.hid (by unfold addL; rw [h1, h2, h3, if_neg hfull]; rfl)
          obtain ⟨p, hp⟩ : ∃ p, p = posW L x.f := ⟨_, rfl⟩
          rw [← hp] at HT hple
          have HP := Lib.hid hp
          clear h1 h2 h3 hp
          go_enter Tryd.func47, Tryd.ntmps47
          go_wp2_with fail
          refine (pMay_any _ _ L H.out hs hE0).mono ?_
          rintro e w1 ⟨rfl, hb1⟩
          rw [H1.out]
          have hb01 := bel_tr hb0 hb1
          have c0 : w1.cell? ⟨w.heap.size, 0, none⟩ = some (.string x.f) := cell_bel (by simp) hb1
          have c1 : w1.cell? ⟨w.heap.size, 1, none⟩ = some (.int .i64 x.q) := cell_bel (by simp) hb1
          go_wp2_with fail
          refine (pmay_any _ x hx (hE.below hb01)).mono ?_
          rintro e w2 ⟨rfl, hb2⟩
          rw [H2.out]
          have hb02 := bel_tr hb01 hb2
          have d0 : w2.cell? ⟨w.heap.size, 0, none⟩ = some (.string x.f) := cell_bel c0 hb2
          have d1 : w2.cell? ⟨w.heap.size, 1, none⟩ = some (.int .i64 x.q) := cell_bel c1 hb2
          have H' := Lib.hid ((H.out.below (bel_tr hb1 hb2)).more (bel_tr hb1 hb2).size)
          go_wp2_with fail
          refine (find_any _ _ L x.f H'.out hso (by omega)).mono ?_
          rintro e w3 ⟨rfl, hb3⟩
          have hb03 := bel_tr hb02 hb3
          have e0 : w3.cell? ⟨w.heap.size, 0, none⟩ = some (.string x.f) := cell_bel d0 hb3
          have e1 : w3.cell? ⟨w.heap.size, 1, none⟩ = some (.int .i64 x.q) := cell_bel d1 hb3
          have H'' := Lib.hid ((H'.out.below hb3).more hb3.size)
          rw [H3.out, ← HP.out]
          go_wp2
          refine wp_region_held_drew (S := fun wx => wx.cell? ⟨w.heap.size, 0, none⟩ = some (.string x.f) ∧ wx.cell? ⟨w.heap.size, 1, none⟩ = some (.int .i64 x.q)) (by kernel_rfl) ⟨e0, e1⟩ (fun hHeld => ?_)
          refine take_h 0 ⟨?_, ?_, ?_, by kernel_rfl, by kernel_rfl, by kernel_rfl, ?_, ?_, by assumption, ?_⟩
          rotate_left 2
          · (simp only [List.getElem?_toArray, List.getElem?_cons_succ, List.getElem?_cons_zero]; exact rfl)
          · exact fun _ _ _ h => h
          · first
              | (refine Or.inr ⟨by rfl, ?_⟩; exact rfl)
              | (refine Or.inl ⟨by rfl, ?_⟩
                 intro w hSw
                 (try dsimp only at hSw)
                 (try go_split_ands)
                 go_simp
                 (first | done | with_reducible rfl))
          try simp only [Act.put, List.setIfInBounds_toArray, List.set_cons_zero, List.set_cons_succ]
          refine take_h 2 ⟨?_, ?_, ?_, by kernel_rfl, by kernel_rfl, by kernel_rfl, ?_, ?_, by assumption, ?_⟩
          rotate_left 2
          · (simp only [List.getElem?_toArray, List.getElem?_cons_succ, List.getElem?_cons_zero]; exact rfl)
          · exact fun _ _ _ h => h
          · first
              | (refine Or.inr ⟨by rfl, ?_⟩; exact rfl)
              | (refine Or.inl ⟨by rfl, ?_⟩
                 intro w hSw
                 (try dsimp only at hSw)
                 (try go_split_ands)
                 go_simp
                 (first | done | with_reducible rfl))
          try simp only [Act.put, List.setIfInBounds_toArray, List.set_cons_zero, List.set_cons_succ]
          refine take_h 3 ⟨?_, ?_, ?_, by kernel_rfl, by kernel_rfl, by kernel_rfl, ?_, ?_, by assumption, ?_⟩
          rotate_left 2
          · (simp only [List.getElem?_toArray, List.getElem?_cons_succ, List.getElem?_cons_zero]; exact rfl)
          · exact fun _ _ _ h => h
          · first
              | (refine Or.inr ⟨by rfl, ?_⟩; exact rfl)
              | (refine Or.inl ⟨by rfl, ?_⟩
                 intro w hSw
                 (try dsimp only at hSw)
                 (try go_split_ands)
                 go_simp
                 (first | done | with_reducible rfl))
          try simp only [Act.put, List.setIfInBounds_toArray, List.set_cons_zero, List.set_cons_succ]
          have H3' := Lib.hid (H''.out.below (Below.refl _ w3).drew)
          have hbA : Below w3.heap.size w3 (w3.alloc (.cells #[.string x.f, .int .i64 x.q] 43)).drew := ((Below.refl _ w3).alloc (Nat.le_refl _) _).drew
          have e0' : (w3.alloc (.cells #[.string x.f, .int .i64 x.q] 43)).drew.cell? ⟨w.heap.size, 0, none⟩ = some (.string x.f) := cell_bel e0 hbA
          have e1' : (w3.alloc (.cells #[.string x.f, .int .i64 x.q] 43)).drew.cell? ⟨w.heap.size, 1, none⟩ = some (.int .i64 x.q) := cell_bel e1 hbA
          refine wpAnyH_ready (rs := [1, 4]) (by kernel_rfl) (by simp) ?_
          refine call_h2 1 4 ⟨?_, ?_, fun K hK => ?_⟩ ⟨?_, ?_, fun K hK => ?_⟩
          rotate_left 1
          · (simp only [List.getElem?_toArray, List.getElem?_cons_succ, List.getElem?_cons_zero]; exact rfl)
          rotate_left 2
          · (simp only [List.getElem?_toArray, List.getElem?_cons_succ, List.getElem?_cons_zero]; exact rfl)
          all_goals go_simp
          · refine hK.out _ _ ⟨by simpa using e0', by simpa using e1'⟩ (fun hHeld => ?_)
            clear hK K
            (try simp only [Act.put, List.setIfInBounds_toArray, List.set_cons_zero, List.set_cons_succ])
            refine wpAnyH_ready (rs := [1]) (by kernel_rfl) (by simp) ?_
            refine call_h 1 ⟨?_, ?_, fun K hK => ?_⟩
            rotate_left 1
            · (simp only [List.getElem?_toArray, List.getElem?_cons_succ, List.getElem?_cons_zero]; exact rfl)
            go_simp
            (go_at_call 68; refine (Clone_any _ _ L (Rd.more (H''.out.below hbA) (by simp)) (by omega)).mono ?_; rintro e w4 ⟨v4, rfl, ho4, hb4⟩)
            go_wp2_with fail
            have hv4 : w4.heap[w3.heap.size]? = some (.cells #[.string x.f, .int .i64 x.q] 43 (0, 0)) := by
              rw [hb4.block _ (by simp)]
              exact heap_alloc_new w3 _
            have hne4 : v4.ownBlock ≠ some w3.heap.size := fun e => by
              have := (ho4.lt _ e).1
              simp at this
              omega
            have hbb4 : Below w3.heap.size w3 w4 := bel_tr hbA hb4
            have HO4 := Lib.hid (own_mono (B' := w3.heap.size) ho4 (by simp))
            clear ho4
            refine hK.out _ _ ⟨cell_bel e0 hbb4, cell_bel e1 hbb4⟩ (fun hHeld => ?_)
            clear hK K
            (try simp only [Act.put, List.setIfInBounds_toArray, List.set_cons_zero, List.set_cons_succ])
            refine wpAnyH_ready (rs := [5]) (by kernel_rfl) (by simp) ?_
            refine call_h 5 ⟨?_, ?_, fun K hK => ?_⟩
            rotate_left 1
            · (simp only [List.getElem?_toArray, List.getElem?_cons_succ, List.getElem?_cons_zero]; exact rfl)
            go_simp
            (go_at_call 71; refine (Insert_any _ w3.heap.size _ L x p _ hple HO4.out hbb4.size (by omega) hv4 hne4).mono ?_; rintro e w5 ⟨v5, rfl, ho5, hb5⟩)
            go_wp2_with fail
            have hbb5 : Below w3.heap.size w3 w5 := hbb4.trans hb5
            refine hK.out _ _ ⟨cell_bel e0 hbb5, cell_bel e1 hbb5⟩ (fun hHeld => ?_)
            clear hK K
            (try simp only [Act.put, List.setIfInBounds_toArray, List.set_cons_zero, List.set_cons_succ])
            refine take_h 6 ⟨?_, ?_, ?_, by kernel_rfl, by kernel_rfl, by kernel_rfl, ?_, ?_, by assumption, ?_⟩
            rotate_left 2
            · (simp only [List.getElem?_toArray, List.getElem?_cons_succ, List.getElem?_cons_zero]; exact rfl)
            · exact fun _ _ _ h => h
            · first
                | (refine Or.inr ⟨by rfl, ?_⟩; exact rfl)
                | (refine Or.inl ⟨by rfl, ?_⟩
                   intro w hSw
                   (try dsimp only at hSw)
                   (try go_split_ands)
                   go_simp
                   (first | done | with_reducible rfl))
            try simp only [Act.put, List.setIfInBounds_toArray, List.set_cons_zero, List.set_cons_succ]
            refine take_h 7 ⟨?_, ?_, ?_, by kernel_rfl, by kernel_rfl, by kernel_rfl, ?_, ?_, by assumption, ?_⟩
            rotate_left 2
            · (simp only [List.getElem?_toArray, List.getElem?_cons_succ, List.getElem?_cons_zero]; exact rfl)
            · exact fun _ _ _ h => h
            · first
                | (refine Or.inr ⟨by rfl, ?_⟩; exact rfl)
                | (refine Or.inl ⟨by rfl, ?_⟩
                   intro w hSw
                   (try dsimp only at hSw)
                   (try go_split_ands)
                   go_simp
                   (first | done | with_reducible rfl))
            try simp only [Act.put, List.setIfInBounds_toArray, List.set_cons_zero, List.set_cons_succ]
            refine wpAnyH_done (by kernel_rfl) ?_ _
            have HO5 := Lib.hid ho5
            clear ho5
            go_wp2
            go_ret2
            rw [HT.out]
            refine ⟨_, rfl, ?_, hb03.trans (hbb5.mono hb03.size)⟩
            have e1 : (L.take p ++ x :: L.drop p).length = L.length + 1 := by simp; omega
            show w5.ownsRow w.heap.size _ 2 v5 (L.take p ++ x :: L.drop p).length _
            rw [e1]
            exact own_mono HO5.out hb03.size
          · refine (Clone_any _ _ L H3'.out (by omega)).mono ?_
            rintro e w4 ⟨v4, rfl, ho4, hb4⟩
            go_wp2_with fail
            refine hK.out _ _ ⟨cell_bel hHeld.1 hb4, cell_bel hHeld.2 hb4⟩ (fun hHeld => ?_)
            clear hK K
            (try simp only [Act.put, List.setIfInBounds_toArray, List.set_cons_zero, List.set_cons_succ])
            refine wpAnyH_ready (rs := [4]) (by kernel_rfl) (by simp) ?_
            refine call_h 4 ⟨?_, ?_, fun K hK => ?_⟩
            rotate_left 1
            · (simp only [List.getElem?_toArray, List.getElem?_cons_succ, List.getElem?_cons_zero]; exact rfl)
            go_simp
            skip
            go_wp2_with fail
            have hbb5 : Below w3.heap.size w3 (w4.alloc (.cells #[.string x.f, .int .i64 x.q] 43)) := (bel_tr (Below.refl _ w3).drew hb4).alloc hb4.size _
            refine hK.out _ _ ⟨cell_bel e0 hbb5, cell_bel e1 hbb5⟩ (fun hHeld => ?_)
            clear hK K
            (try simp only [Act.put, List.setIfInBounds_toArray, List.set_cons_zero, List.set_cons_succ])
            have hv4 : (w4.alloc (.cells #[.string x.f, .int .i64 x.q] 43)).heap[w4.heap.size]? = some (.cells #[.string x.f, .int .i64 x.q] 43 (0, 0)) := heap_alloc_new w4 _
            have hne4 : v4.ownBlock ≠ some w4.heap.size := fun e => by
              have := (ho4.lt _ e).2
              omega
            have HO4 := Lib.hid (own_mono (B' := w3.heap.size) (ho4.alloc (.cells #[.string x.f, .int .i64 x.q] 43)) (by simp))
            have hbb4 := hbb5
            clear ho4 hbb5
            refine wpAnyH_ready (rs := [5]) (by kernel_rfl) (by simp) ?_
            refine call_h 5 ⟨?_, ?_, fun K hK => ?_⟩
            rotate_left 1
            · (simp only [List.getElem?_toArray, List.getElem?_cons_succ, List.getElem?_cons_zero]; exact rfl)
            go_simp
            (go_at_call 71; refine (Insert_any _ w3.heap.size _ L x p _ hple HO4.out hbb4.size (by omega) hv4 hne4).mono ?_; rintro e w5 ⟨v5, rfl, ho5, hb5⟩)
            go_wp2_with fail
            have hbb5 : Below w3.heap.size w3 w5 := hbb4.trans hb5
            refine hK.out _ _ ⟨cell_bel e0 hbb5, cell_bel e1 hbb5⟩ (fun hHeld => ?_)
            clear hK K
            (try simp only [Act.put, List.setIfInBounds_toArray, List.set_cons_zero, List.set_cons_succ])
            refine take_h 6 ⟨?_, ?_, ?_, by kernel_rfl, by kernel_rfl, by kernel_rfl, ?_, ?_, by assumption, ?_⟩
            rotate_left 2
            · (simp only [List.getElem?_toArray, List.getElem?_cons_succ, List.getElem?_cons_zero]; exact rfl)
            · exact fun _ _ _ h => h
            · first
                | (refine Or.inr ⟨by rfl, ?_⟩; exact rfl)
                | (refine Or.inl ⟨by rfl, ?_⟩
                   intro w hSw
                   (try dsimp only at hSw)
                   (try go_split_ands)
                   go_simp
                   (first | done | with_reducible rfl))
            try simp only [Act.put, List.setIfInBounds_toArray, List.set_cons_zero, List.set_cons_succ]
            refine take_h 7 ⟨?_, ?_, ?_, by kernel_rfl, by kernel_rfl, by kernel_rfl, ?_, ?_, by assumption, ?_⟩
            rotate_left 2
            · (simp only [List.getElem?_toArray, List.getElem?_cons_succ, List.getElem?_cons_zero]; exact rfl)
            · exact fun _ _ _ h => h
            · first
                | (refine Or.inr ⟨by rfl, ?_⟩; exact rfl)
                | (refine Or.inl ⟨by rfl, ?_⟩
                   intro w hSw
                   (try dsimp only at hSw)
                   (try go_split_ands)
                   go_simp
                   (first | done | with_reducible rfl))
            try simp only [Act.put, List.setIfInBounds_toArray, List.set_cons_zero, List.set_cons_succ]
            refine wpAnyH_done (by kernel_rfl) ?_ _
            have HO5 := Lib.hid ho5
            clear ho5
            go_wp2
            go_ret2
            rw [HT.out]
            refine ⟨_, rfl, ?_, hb03.trans (hbb5.mono hb03.size)⟩
            have e1 : (L.take p ++ x :: L.drop p).length = L.length + 1 := by simp; omega
            show w5.ownsRow w.heap.size _ 2 v5 (L.take p ++ x :: L.drop p).length _
            rw [e1]
            exact own_mono HO5.out hb03.size
      · obtain ⟨y, hy, _⟩ := there_lt h3
        have hlt := (List.getElem?_eq_some_iff.1 hy).1
        have H3 := Lib.hid h3
        have HT : Hid (addL L x = (L.set (posW L x.f) x, 0)) := Lib.hid (by unfold addL; rw [h1, h2, h3]; rfl)
        obtain ⟨p, hp⟩ : ∃ p, p = posW L x.f := ⟨_, rfl⟩
        rw [← hp] at HT hlt hy
        have HP := Lib.hid hp
        have HY := Lib.hid hy
        clear h1 h2 h3 hp hy
        go_enter Tryd.func47, Tryd.ntmps47
        go_wp2_with fail
        refine (pMay_any _ _ L H.out hs hE0).mono ?_
        rintro e w1 ⟨rfl, hb1⟩
        rw [H1.out]
        have hb01 := bel_tr hb0 hb1
        have c0 : w1.cell? ⟨w.heap.size, 0, none⟩ = some (.string x.f) := cell_bel (by simp) hb1
        have c1 : w1.cell? ⟨w.heap.size, 1, none⟩ = some (.int .i64 x.q) := cell_bel (by simp) hb1
        go_wp2_with fail
        refine (pmay_any _ x hx (hE.below hb01)).mono ?_
        rintro e w2 ⟨rfl, hb2⟩
        rw [H2.out]
        have hb02 := bel_tr hb01 hb2
        have d0 : w2.cell? ⟨w.heap.size, 0, none⟩ = some (.string x.f) := cell_bel c0 hb2
        have d1 : w2.cell? ⟨w.heap.size, 1, none⟩ = some (.int .i64 x.q) := cell_bel c1 hb2
        have H' := Lib.hid ((H.out.below (bel_tr hb1 hb2)).more (bel_tr hb1 hb2).size)
        go_wp2_with fail
        refine (find_any _ _ L x.f H'.out hso (by omega)).mono ?_
        rintro e w3 ⟨rfl, hb3⟩
        have hb03 := bel_tr hb02 hb3
        have e0 : w3.cell? ⟨w.heap.size, 0, none⟩ = some (.string x.f) := cell_bel d0 hb3
        have e1 : w3.cell? ⟨w.heap.size, 1, none⟩ = some (.int .i64 x.q) := cell_bel d1 hb3
        have H'' := Lib.hid ((H'.out.below hb3).more hb3.size)
        rw [H3.out, ← HP.out]
        go_wp2_with fail
        refine (Clone_any _ _ L H''.out (by omega)).mono ?_
        rintro e w4 ⟨v4, rfl, ho4, hb4⟩
        have hbb4 := hb03.trans (hb4.mono hb03.size)
        have f0 := cell_bel e0 hb4
        have f1 := cell_bel e1 hb4
        obtain ⟨g, cap4, rfl, hBg, hgl, hnc, hcm⟩ := own_form ho4 (by omega)
        have hm4 : cap4 ≤ 9223372036854775807 := by unfold maxLen at hcm; omega
        obtain ⟨y0, y1⟩ := wCells_at L p y HY.out
        have g0 : w4.cell? ⟨g, p * 2, none⟩ = some (.string y.f) := (ho4.cellAt _ (by omega)).trans y0
        have g1 : w4.cell? ⟨g, p * 2 + 1, none⟩ = some (.int .i64 y.q) := (ho4.cellAt _ (by omega)).trans y1
        have z0 : w4.frozen? ⟨g, p * 2, none⟩ = false := ho4.frozenAt _
        have z1 : w4.frozen? ⟨g, p * 2 + 1, none⟩ = false := ho4.frozenAt _
        obtain ⟨o5, g5⟩ := own_setCells (wC x) (p * 2) (wCells L) w4 ho4
        have hset : layL (wCells L) (p * 2) (wC x) = wCells (L.set p x) := by
          have e1 : L = L.take p ++ ([y] ++ L.drop (p + 1)) := by
            have := List.getElem?_eq_some_iff.1 HY.out
            obtain ⟨hp, rfl⟩ := this
            simp
          have l1 : (wCells (L.take p)).length = p * 2 := by rw [wCells_length, List.length_take]; omega
          have e2 := layL_app (wC x) (wCells (L.take p)) (wCells (L.drop (p + 1))) (wC y) rfl
          rw [l1] at e2
          have e3 : wCells (L.take p) ++ wC y ++ wCells (L.drop (p + 1)) = wCells L := by
            have e4 := congrArg wCells e1
            rw [wCells_app, wCells_app] at e4
            rw [e4, List.append_assoc]
            rfl
          rw [e3] at e2
          rw [e2, List.set_eq_take_append_cons_drop, if_pos hlt, wCells_app, List.append_assoc]
          rfl
        rw [hset] at o5
        have hb5 : Below w3.heap.size w4 (w4.setCells g (p * 2) (wC x)) := (Below.refl _ w4).grown g5 hb4.size (fun k hk => by injection hk with hk; omega)
        have hbb5 := hbb4.trans (hb5.mono hb03.size)
        have HO5 := Lib.hid o5
        have HB5 := Lib.hid hbb5
        clear o5 g5 hset ho4 hb5 hbb5 y0 y1
        go_wp2
        go_ret2
        rw [HT.out]
        refine ⟨_, rfl, ?_, HB5.out⟩
        have e1 : (L.set p x).length = L.length := by simp
        show World.ownsRow _ w.heap.size _ 2 _ (L.set p x).length _
        rw [e1]
        exact own_mono HO5.out hb03.size
end Go.Proofs.YtimjbojoeacaeaaDoor
