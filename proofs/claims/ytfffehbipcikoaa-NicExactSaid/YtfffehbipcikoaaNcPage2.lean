/- The page's network card: a frame more, the first frame taken. -/


import Derived.Test.YtfffehbipcikoaaNcPage
namespace Go.Proofs.Ytfffehbipcikoaa
open Go.RowKit Go.MapKept

section
variable {P : Program} {ops : Array Oper} {Q : Exit → Act → World → Prop} {md : Region.Mode} {S : World → Prop}
theorem call_h2 {fuel : Nat} {listed : Array Bool} {a : Act} {w : World} (i j : Nat)
    (H1 : ∃ o : Oper, ops[i]? = some o ∧ ∀ K' : Act → World → Prop, Shut (∀ a w, S w → (S w → wpAnyH P md ops Q S fuel (listed.setIfInBounds i true) a w) → K' a w) → if Region.wanted o (yielded ops a.tmps) = true then Oper.wp P o a w K' Q else K' (a.put o.dst undef) w)
    (H2 : ∃ o : Oper, ops[j]? = some o ∧ ∀ K' : Act → World → Prop, Shut (∀ a w, S w → (S w → wpAnyH P md ops Q S fuel (listed.setIfInBounds j true) a w) → K' a w) → if Region.wanted o (yielded ops a.tmps) = true then Oper.wp P o a w K' Q else K' (a.put o.dst undef) w) :
    AllReadyH P md ops Q S fuel listed a w [i, j] := by
  obtain ⟨o, h1, h2⟩ := H1
  obtain ⟨o', h1', h2'⟩ := H2
  exact AllReadyH.cons h1 h2 (AllReadyH.cons h1' h2' AllReadyH.nil)
end

section
variable {w w' : World} {base P : Nat} {D S : List Nat} {iv ov : Value} {In Out : List (List UInt8)} {lost : Nat}
/-- A frame more, behind. -/
theorem PageAt.app_in (h : PageAt w base P D iv ov In Out lost) {b : List UInt8} {x v' : Value} {w1 w2 w3 : World} (hx : w1.ownsRow w.heap.size 5 1 x b.length (u8s b)) (hb1 : Below w.heap.size w w1) (hl2 : Left [] w1 w2) (hz : base ≤ w.heap.size) {ws : List Value} (h1 : Row w base 39 1 iv In.length ws)
    (h2 : ∀ (j : Nat) (f : List UInt8) (x : Value), In[j]? = some f → ws[j]? = some x → w.ownsRow base 5 1 x f.length (u8s f) ∧ ∀ k, x.ownBlock = some k → k ∈ D)
    (hr : Row w3 base 39 1 v' (In.length + 1) (ws ++ [x])) (hg : w2.grownBy w3 iv.ownBlock) (hat : v'.ownBlock = iv.ownBlock ∨ v'.ownBlock = some w2.heap.size) :
    PageAt (w3.setCell ⟨P, 0, none⟩ v') base P (Value.ownL x ++ D) v' ov (In ++ [b]) Out lost ∧ PStep w (w3.setCell ⟨P, 0, none⟩ v') base P ∧ Whole w3 P 100 [iv, ov, .int .i64 lost] := by
  have hlA : Left [] w w2 := (Left.of_below hb1 []).trans hl2 (by simp)
  have hlg := left_of_grown hg
  have hp := h.plt
  have hz1 := hb1.size
  have hz2 := hl2.size
  have hz3 := hlg.size
  have hW2 := h.head.left hlA (by simp)
  have hPi : P ∉ Value.ownL iv := fun hm => by have := (h1.lt (mem_ownL.1 hm)).1; omega
  have hW3 := hW2.left hlg hPi
  have hl4 : Left [P] w3 (w3.setCell ⟨P, 0, none⟩ v') := (Left.refl _ _).setCell (Or.inl (by simp)) _
  have h1' := h1.left hlA (by simp)
  have hx2 := own_leftB hx hl2 (by simp)
  have hF := FRow.app (D := D) (own_base hx2 hz) h1' (fun j f y hj hy => ⟨own_leftB (h2 j f y hj hy).1 hlA (by simp), (h2 j f y hj hy).2⟩) hr hlg
  have hty : ∀ k ∈ Value.ownL iv, Ty w2 k 39 := fun k hk => h1'.ty (mem_ownL.1 hk)
  have hD2 : ∀ k ∈ Value.ownL x ++ D, Ty w2 k 5 ∧ base ≤ k ∧ k < w2.heap.size := fun k hk => by
    rcases List.mem_append.1 hk with hk | hk
    · have := hx2.lt k (mem_ownL.1 hk)
      exact ⟨own_ty hx2 (mem_ownL.1 hk), by omega, by omega⟩
    · obtain ⟨a, b, c⟩ := h.dlt k hk
      exact ⟨a.left hlA (by simp), b, by omega⟩
  have hDi : ∀ k ∈ Value.ownL x ++ D, k ∉ Value.ownL iv := fun k hk hm => ((hD2 k hk).1.ne (hty k hm) (by decide)) rfl
  have hb4 : ∀ k ∈ [P], k < base := fun k hk => by simp only [List.mem_singleton] at hk; omega
  have hO3 : FRow w3 base (Value.ownL x ++ D) ov Out := ((h.outr.left hlA (by simp)).more (fun k hk => List.mem_append.2 (.inr hk))).left hlg (fun k hk => .inr ⟨fun hm => hDi k hm hk, fun e => h.ne k (mem_ownL.1 hk) e⟩)
  refine ⟨⟨hW3.put 0 v', hF.left hl4 (fun k hk => .inl (hb4 k hk)), hO3.left hl4 (fun k hk => .inl (hb4 k hk)), fun k hk e => ?_, fun k hk => ?_, h.plt⟩, ?_, hW3⟩
  · rcases hat with e2 | e2
    · exact h.ne k (e2 ▸ hk) e
    · rw [e2] at hk
      injection hk with hk
      have := (h.outr.ty e).2.2
      omega
  · obtain ⟨a, b, c⟩ := hD2 k hk
    have hz4 := hl4.size
    exact ⟨(a.left hlg (hDi k hk)).left hl4 (fun hm => by have := hb4 k hm; omega), b, by omega⟩
  · refine ⟨P :: Value.ownL iv, ((hlA.mono (T := P :: Value.ownL iv) (by simp)).trans (hlg.mono (T := P :: Value.ownL iv) (fun k hk => List.mem_cons_of_mem _ hk)) (fun k hk => .inl hk)).trans (hl4.mono (T := P :: Value.ownL iv) (by simp)) (fun k hk => .inl hk), fun k hk => ?_⟩
    rcases List.mem_cons.1 hk with e | hk
    · exact .inl e
    · exact .inr ⟨(h1.lt (mem_ownL.1 hk)).1, h1.ty (mem_ownL.1 hk)⟩
theorem PageAt.app_out (h : PageAt w base P D iv ov In Out lost) {b : List UInt8} {x v' : Value} {w1 w2 w3 : World} (hx : w1.ownsRow w.heap.size 5 1 x b.length (u8s b)) (hb1 : Below w.heap.size w w1) (hl2 : Left [] w1 w2) (hz : base ≤ w.heap.size) {ws : List Value} (h1 : Row w base 39 1 ov Out.length ws)
    (h2 : ∀ (j : Nat) (f : List UInt8) (x : Value), Out[j]? = some f → ws[j]? = some x → w.ownsRow base 5 1 x f.length (u8s f) ∧ ∀ k, x.ownBlock = some k → k ∈ D)
    (hr : Row w3 base 39 1 v' (Out.length + 1) (ws ++ [x])) (hg : w2.grownBy w3 ov.ownBlock) (hat : v'.ownBlock = ov.ownBlock ∨ v'.ownBlock = some w2.heap.size) :
    PageAt (w3.setCell ⟨P, 1, none⟩ v') base P (Value.ownL x ++ D) iv v' In (Out ++ [b]) lost ∧ PStep w (w3.setCell ⟨P, 1, none⟩ v') base P ∧ Whole w3 P 100 [iv, ov, .int .i64 lost] := by
  have hlA : Left [] w w2 := (Left.of_below hb1 []).trans hl2 (by simp)
  have hlg := left_of_grown hg
  have hp := h.plt
  have hz1 := hb1.size
  have hz2 := hl2.size
  have hz3 := hlg.size
  have hW2 := h.head.left hlA (by simp)
  have hPi : P ∉ Value.ownL ov := fun hm => by have := (h1.lt (mem_ownL.1 hm)).1; omega
  have hW3 := hW2.left hlg hPi
  have hl4 : Left [P] w3 (w3.setCell ⟨P, 1, none⟩ v') := (Left.refl _ _).setCell (Or.inl (by simp)) _
  have h1' := h1.left hlA (by simp)
  have hx2 := own_leftB hx hl2 (by simp)
  have hF := FRow.app (D := D) (own_base hx2 hz) h1' (fun j f y hj hy => ⟨own_leftB (h2 j f y hj hy).1 hlA (by simp), (h2 j f y hj hy).2⟩) hr hlg
  have hty : ∀ k ∈ Value.ownL ov, Ty w2 k 39 := fun k hk => h1'.ty (mem_ownL.1 hk)
  have hD2 : ∀ k ∈ Value.ownL x ++ D, Ty w2 k 5 ∧ base ≤ k ∧ k < w2.heap.size := fun k hk => by
    rcases List.mem_append.1 hk with hk | hk
    · have := hx2.lt k (mem_ownL.1 hk)
      exact ⟨own_ty hx2 (mem_ownL.1 hk), by omega, by omega⟩
    · obtain ⟨a, b, c⟩ := h.dlt k hk
      exact ⟨a.left hlA (by simp), b, by omega⟩
  have hDi : ∀ k ∈ Value.ownL x ++ D, k ∉ Value.ownL ov := fun k hk hm => ((hD2 k hk).1.ne (hty k hm) (by decide)) rfl
  have hb4 : ∀ k ∈ [P], k < base := fun k hk => by simp only [List.mem_singleton] at hk; omega
  have hO3 : FRow w3 base (Value.ownL x ++ D) iv In := ((h.inr.left hlA (by simp)).more (fun k hk => List.mem_append.2 (.inr hk))).left hlg (fun k hk => .inr ⟨fun hm => hDi k hm hk, fun e => h.ne k e (mem_ownL.1 hk)⟩)
  refine ⟨⟨hW3.put 1 v', hO3.left hl4 (fun k hk => .inl (hb4 k hk)), hF.left hl4 (fun k hk => .inl (hb4 k hk)), fun k hk e => ?_, fun k hk => ?_, h.plt⟩, ?_, hW3⟩
  · rcases hat with e2 | e2
    · exact h.ne k hk (e2 ▸ e)
    · rw [e2] at e
      injection e with e
      have := (h.inr.ty hk).2.2
      omega
  · obtain ⟨a, b, c⟩ := hD2 k hk
    have hz4 := hl4.size
    exact ⟨(a.left hlg (hDi k hk)).left hl4 (fun hm => by have := hb4 k hm; omega), b, by omega⟩
  · refine ⟨P :: Value.ownL ov, ((hlA.mono (T := P :: Value.ownL ov) (by simp)).trans (hlg.mono (T := P :: Value.ownL ov) (fun k hk => List.mem_cons_of_mem _ hk)) (fun k hk => .inl hk)).trans (hl4.mono (T := P :: Value.ownL ov) (by simp)) (fun k hk => .inl hk), fun k hk => ?_⟩
    rcases List.mem_cons.1 hk with e | hk
    · exact .inl e
    · exact .inr ⟨(h1.lt (mem_ownL.1 hk)).1, h1.ty (mem_ownL.1 hk)⟩

set_option maxRecDepth 20000 in
set_option maxHeartbeats 2000000 in
theorem rRecv_ok (h : PageAt w base P D iv ov In Out lost) {v : Value} {b : List UInt8} {B0 : Nat} (hr : Rd w B0 1 v b.length (u8s b)) (hB0 : B0 ≤ w.heap.size) (hz : base ≤ w.heap.size) (hb : wholeB b.length = true) (hin : In.length < 16) :
    Calls Try.prog 59 #[.pointer (some ⟨P, 0, none⟩), v] w fun e w' => e = .returned (.bool true) ∧ ∃ iv' D', PageAt w' base P D' iv' ov (In ++ [b]) Out lost ∧ PStep w w' base P ∧ ∀ k ∈ D', k ∈ D ∨ w.heap.size ≤ k := by
  have hb2 : 14 ≤ b.length ∧ b.length ≤ 1514 := by simpa [wholeB] using hb
  have hW := h.head
  obtain ⟨ws, hRow, hin2⟩ := h.inr
  obtain ⟨io, ic, rfl, hic, hicm⟩ := hRow.form
  have c0 : w.cell? ⟨P, 0, none⟩ = some (.slice io In.length ic) := by rw [hW.cell]; rfl
  have d0 : w.drew.cell? ⟨P, 0, none⟩ = some (.slice io In.length ic) := c0
  have HP := Lib.hid h
  have HRow := Lib.hid hRow
  have HIN := Lib.hid hin2
  have HWB := Lib.hid hb
  have hcp := CopyBytes_n w.drew v b.length b B0 rfl (show Rd w.drew B0 1 v _ _ from hr) (show B0 ≤ w.drew.heap.size from hB0) (by omega)
  have HCP := Lib.hid hcp
  obtain ⟨ao, cap, rfl, _, hcapm⟩ := hr.form
  have hcap2 : cap ≤ 9223372036854775807 := by unfold maxLen at hcapm; omega
  have hlen2 : ¬ (16 : Int) ≤ (In.length : Int) := by omega
  clear h hW hRow hin2 hb hcp hr hcapm hicm
  go_enter Try.func59, Try.ntmps59
  go_wp2_with (go_at_call 88; refine (Whole1_any _ _ _ _).mono ?_; rintro e w' ⟨rfl, rfl⟩; rw [HWB.out])
  go_upto_region 4 with fail
  refine wp_region_held_drew (S := fun _ => True) (by kernel_rfl) trivial (fun hHeld => ?_)
  refine take_h 0 ⟨?_, ?_, ?_, by kernel_rfl, by kernel_rfl, by kernel_rfl, ?_, ?_, by assumption, ?_⟩
  rotate_left 2
  · (simp only [List.getElem?_toArray, List.getElem?_cons_zero]; exact rfl)
  · exact fun _ _ _ h => h
  · first
      | (refine Or.inr ⟨by rfl, ?_⟩; exact rfl)
      | (refine Or.inl ⟨by rfl, ?_⟩
         intro w hSw
         (try dsimp only at hSw)
         (try go_split_ands)
         go_simp
         (first | done | with_reducible rfl))
  try simp only [Act.put, List.setIfInBounds_toArray, List.set_cons_zero, List.set_cons_succ]
  refine take_h 1 ⟨?_, ?_, ?_, by kernel_rfl, by kernel_rfl, by kernel_rfl, ?_, ?_, by assumption, ?_⟩
  rotate_left 2
  · (simp only [List.getElem?_toArray, List.getElem?_cons_succ, List.getElem?_cons_zero]; exact rfl)
  · exact fun _ _ _ h => h
  · first
      | (refine Or.inr ⟨by rfl, ?_⟩; exact rfl)
      | (refine Or.inl ⟨by rfl, ?_⟩
         intro w hSw
         (try dsimp only at hSw)
         (try go_split_ands)
         go_simp
         (first | done | with_reducible rfl))
  try simp only [Act.put, List.setIfInBounds_toArray, List.set_cons_zero, List.set_cons_succ]
  refine take_h 2 ⟨?_, ?_, ?_, by kernel_rfl, by kernel_rfl, by kernel_rfl, ?_, ?_, by assumption, ?_⟩
  rotate_left 2
  · (simp only [List.getElem?_toArray, List.getElem?_cons_succ, List.getElem?_cons_zero]; exact rfl)
  · exact fun _ _ _ h => h
  · first
      | (refine Or.inr ⟨by rfl, ?_⟩; exact rfl)
      | (refine Or.inl ⟨by rfl, ?_⟩
         intro w hSw
         (try dsimp only at hSw)
         (try go_split_ands)
         go_simp
         (first | done | with_reducible rfl))
  try simp only [Act.put, List.setIfInBounds_toArray, List.set_cons_zero, List.set_cons_succ]
  refine take_h 3 ⟨?_, ?_, ?_, by kernel_rfl, by kernel_rfl, by kernel_rfl, ?_, ?_, by assumption, ?_⟩
  rotate_left 2
  · (simp only [List.getElem?_toArray, List.getElem?_cons_succ, List.getElem?_cons_zero]; exact rfl)
  · exact fun _ _ _ h => h
  · first
      | (refine Or.inr ⟨by rfl, ?_⟩; exact rfl)
      | (refine Or.inl ⟨by rfl, ?_⟩
         intro w hSw
         (try dsimp only at hSw)
         (try go_split_ands)
         go_simp
         (first | done | with_reducible rfl))
  try simp only [Act.put, List.setIfInBounds_toArray, List.set_cons_zero, List.set_cons_succ]
  refine take_h 5 ⟨?_, ?_, ?_, by kernel_rfl, by kernel_rfl, by kernel_rfl, ?_, ?_, by assumption, ?_⟩
  rotate_left 2
  · (simp only [List.getElem?_toArray, List.getElem?_cons_succ, List.getElem?_cons_zero]; exact rfl)
  · exact fun _ _ _ h => h
  · first
      | (refine Or.inr ⟨by rfl, ?_⟩; exact rfl)
      | (refine Or.inl ⟨by rfl, ?_⟩
         intro w hSw
         (try dsimp only at hSw)
         (try go_split_ands)
         go_simp
         (first | done | with_reducible rfl))
  try simp only [Act.put, List.setIfInBounds_toArray, List.set_cons_zero, List.set_cons_succ]
  refine wpAnyH_ready (rs := [4, 6]) (by kernel_rfl) (by simp) ?_
  refine call_h2 4 6 ?A ?B
  case A =>
    refine ⟨?_, ?_, fun K hK => ?_⟩
    rotate_left 1
    · (simp only [List.getElem?_toArray, List.getElem?_cons_succ, List.getElem?_cons_zero]; exact rfl)
    go_simp
    go_wp2_with fail
    refine hK.out _ _ trivial (fun hHeld => ?_)
    clear hK K
    (try simp only [Act.put, List.setIfInBounds_toArray, List.set_cons_zero, List.set_cons_succ])
    refine wpAnyH_ready (rs := [6]) (by kernel_rfl) (by simp) ?_
    refine call_h 6 ⟨?_, ?_, fun K hK => ?_⟩
    rotate_left 1
    · (simp only [List.getElem?_toArray, List.getElem?_cons_succ, List.getElem?_cons_zero]; exact rfl)
    go_simp
    (go_at_call 31; refine HCP.out.mono ?_; rintro e w1 ⟨x, rfl, hown, hb1⟩; obtain ⟨xo, xc, rfl, _, _⟩ := (Rd.of_own hown).form)
    go_wp2_with fail
    have HX : Hid (w1.ownsRow w.heap.size 5 1 (.slice xo b.length xc) b.length (u8s b)) := Lib.hid hown
    have HB1 : Hid (Below w.heap.size w w1) := Lib.hid ⟨hb1.os, hb1.tape, hb1.output, hb1.size, hb1.block⟩
    have e0 : w1.cell? ⟨P, 0, none⟩ = some (.slice io In.length ic) := cell_left' c0 (Left.of_below HB1.out []) (by simp)
    clear hown hb1
    refine hK.out _ _ trivial (fun hHeld => ?_)
    clear hK K
    (try simp only [Act.put, List.setIfInBounds_toArray, List.set_cons_zero, List.set_cons_succ])
    refine wpAnyH_ready (rs := [7]) (by kernel_rfl) (by simp) ?_
    refine call_h 7 ⟨?_, ?_, fun K hK => ?_⟩
    rotate_left 1
    · (simp only [List.getElem?_toArray, List.getElem?_cons_succ, List.getElem?_cons_zero]; exact rfl)
    go_simp
    skip
    go_wp2_with fail
    refine hK.out _ _ trivial (fun hHeld => ?_)
    clear hK K
    (try simp only [Act.put, List.setIfInBounds_toArray, List.set_cons_zero, List.set_cons_succ])
    have hlz := (Left.refl [] w1).alloc (.cells #[.slice xo b.length xc] 39)
    have HRT := Lib.hid ((HRow.out.left (Left.of_below HB1.out []) (by simp)).left hlz (by simp))
    have hz1 := HB1.out.size
    refine wpAnyH_ready (rs := [8]) (by kernel_rfl) (by simp) ?_
    refine call_h 8 ⟨?_, ?_, fun K hK => ?_⟩
    rotate_left 1
    · (simp only [List.getElem?_toArray, List.getElem?_cons_succ, List.getElem?_cons_zero]; exact rfl)
    rw [if_pos (by rfl)]
    refine oper_row (.tmp 27) (.tmp 30) 98 rfl base 39 (.slice none 0 0) 1 24 Try.underlying98 info_bss rfl (by omega) _ In.length ws rfl HRT.out ⟨w1.heap.size, 0, none⟩ 1 1 [.slice xo b.length xc] rfl rfl (cell_one_new _ _ _) (by simp [Value.oneCell']) ?_ ?_ ?_ ?_
    · unfold maxLen; omega
    · omega
    · simp; omega
    intro v1 w3 hrow hg hat
    obtain ⟨ao1, ac1, rfl, _, _⟩ := hrow.form
    obtain ⟨q1, q2, q3⟩ := HP.out.app_in HX.out HB1.out hlz hz HRow.out HIN.out hrow hg hat
    have g0 : w3.cell? ⟨P, 0, none⟩ = some (.slice io In.length ic) := by rw [q3.cell]; rfl
    have gf := q3.free 0
    have HEND := Lib.hid (And.intro q1 q2)
    clear q1 q2 q3 hrow hg hat e0
    refine hK.out _ _ trivial (fun hHeld => ?_)
    clear hK K
    (try simp only [Act.put, List.setIfInBounds_toArray, List.set_cons_zero, List.set_cons_succ])
    refine take_h 9 ⟨?_, ?_, ?_, by kernel_rfl, by kernel_rfl, by kernel_rfl, ?_, ?_, by assumption, ?_⟩
    rotate_left 2
    · (simp only [List.getElem?_toArray, List.getElem?_cons_succ, List.getElem?_cons_zero]; exact rfl)
    · exact fun _ _ _ h => h
    · first
        | (refine Or.inr ⟨by rfl, ?_⟩; exact rfl)
        | (refine Or.inl ⟨by rfl, ?_⟩
           intro w hSw
           (try dsimp only at hSw)
           (try go_split_ands)
           go_simp
           (first | done | with_reducible rfl))
    try simp only [Act.put, List.setIfInBounds_toArray, List.set_cons_zero, List.set_cons_succ]
    refine take_h 10 ⟨?_, ?_, ?_, by kernel_rfl, by kernel_rfl, by kernel_rfl, ?_, ?_, by assumption, ?_⟩
    rotate_left 2
    · (simp only [List.getElem?_toArray, List.getElem?_cons_succ, List.getElem?_cons_zero]; exact rfl)
    · exact fun _ _ _ h => h
    · first
        | (refine Or.inr ⟨by rfl, ?_⟩; exact rfl)
        | (refine Or.inl ⟨by rfl, ?_⟩
           intro w hSw
           (try dsimp only at hSw)
           (try go_split_ands)
           go_simp
           (first | done | with_reducible rfl))
    try simp only [Act.put, List.setIfInBounds_toArray, List.set_cons_zero, List.set_cons_succ]
    refine wpAnyH_ready (rs := [11]) (by kernel_rfl) (by simp) ?_
    refine call_h 11 ⟨?_, ?_, fun K hK => ?_⟩
    rotate_left 1
    · (simp only [List.getElem?_toArray, List.getElem?_cons_succ, List.getElem?_cons_zero]; exact rfl)
    go_simp
    skip
    go_wp2_with fail
    refine hK.out _ _ trivial (fun hHeld => ?_)
    clear hK K
    refine wpAnyH_done (by kernel_rfl) ?_ _
    clear hHeld g0 gf
    go_wp2
    go_ret
    obtain ⟨q1, S0, q2, q3⟩ := HEND.out
    exact ⟨rfl, _, _, q1, ⟨S0, q2, q3⟩, fun k hk => by
      rcases List.mem_append.1 hk with hk | hk
      · exact .inr (HX.out.lt k (mem_ownL.1 hk)).1
      · exact .inl hk⟩
  case B =>
    refine ⟨?_, ?_, fun K hK => ?_⟩
    rotate_left 1
    · (simp only [List.getElem?_toArray, List.getElem?_cons_succ, List.getElem?_cons_zero]; exact rfl)
    go_simp
    (go_at_call 31; refine HCP.out.mono ?_; rintro e w1 ⟨x, rfl, hown, hb1⟩; obtain ⟨xo, xc, rfl, _, _⟩ := (Rd.of_own hown).form)
    have HX : Hid (w1.ownsRow w.heap.size 5 1 (.slice xo b.length xc) b.length (u8s b)) := Lib.hid hown
    have HB1 : Hid (Below w.heap.size w w1) := Lib.hid ⟨hb1.os, hb1.tape, hb1.output, hb1.size, hb1.block⟩
    have e0 : w1.cell? ⟨P, 0, none⟩ = some (.slice io In.length ic) := cell_left' c0 (Left.of_below HB1.out []) (by simp)
    clear hown hb1
    go_wp2_with fail
    refine hK.out _ _ trivial (fun hHeld => ?_)
    clear hK K
    (try simp only [Act.put, List.setIfInBounds_toArray, List.set_cons_zero, List.set_cons_succ])
    refine wpAnyH_ready (rs := [4, 7]) (by kernel_rfl) (by simp) ?_
    refine call_h2 4 7 ?A ?B
    case A =>
      refine ⟨?_, ?_, fun K hK => ?_⟩
      rotate_left 1
      · (simp only [List.getElem?_toArray, List.getElem?_cons_succ, List.getElem?_cons_zero]; exact rfl)
      go_simp
      go_wp2_with fail
      refine hK.out _ _ trivial (fun hHeld => ?_)
      clear hK K
      (try simp only [Act.put, List.setIfInBounds_toArray, List.set_cons_zero, List.set_cons_succ])
      refine wpAnyH_ready (rs := [7]) (by kernel_rfl) (by simp) ?_
      refine call_h 7 ⟨?_, ?_, fun K hK => ?_⟩
      rotate_left 1
      · (simp only [List.getElem?_toArray, List.getElem?_cons_succ, List.getElem?_cons_zero]; exact rfl)
      go_simp
      skip
      go_wp2_with fail
      refine hK.out _ _ trivial (fun hHeld => ?_)
      clear hK K
      (try simp only [Act.put, List.setIfInBounds_toArray, List.set_cons_zero, List.set_cons_succ])
      have hlz := (Left.refl [] w1).alloc (.cells #[.slice xo b.length xc] 39)
      have HRT := Lib.hid ((HRow.out.left (Left.of_below HB1.out []) (by simp)).left hlz (by simp))
      have hz1 := HB1.out.size
      refine wpAnyH_ready (rs := [8]) (by kernel_rfl) (by simp) ?_
      refine call_h 8 ⟨?_, ?_, fun K hK => ?_⟩
      rotate_left 1
      · (simp only [List.getElem?_toArray, List.getElem?_cons_succ, List.getElem?_cons_zero]; exact rfl)
      rw [if_pos (by rfl)]
      refine oper_row (.tmp 27) (.tmp 30) 98 rfl base 39 (.slice none 0 0) 1 24 Try.underlying98 info_bss rfl (by omega) _ In.length ws rfl HRT.out ⟨w1.heap.size, 0, none⟩ 1 1 [.slice xo b.length xc] rfl rfl (cell_one_new _ _ _) (by simp [Value.oneCell']) ?_ ?_ ?_ ?_
      · unfold maxLen; omega
      · omega
      · simp; omega
      intro v1 w3 hrow hg hat
      obtain ⟨ao1, ac1, rfl, _, _⟩ := hrow.form
      obtain ⟨q1, q2, q3⟩ := HP.out.app_in HX.out HB1.out hlz hz HRow.out HIN.out hrow hg hat
      have g0 : w3.cell? ⟨P, 0, none⟩ = some (.slice io In.length ic) := by rw [q3.cell]; rfl
      have gf := q3.free 0
      have HEND := Lib.hid (And.intro q1 q2)
      clear q1 q2 q3 hrow hg hat e0
      refine hK.out _ _ trivial (fun hHeld => ?_)
      clear hK K
      (try simp only [Act.put, List.setIfInBounds_toArray, List.set_cons_zero, List.set_cons_succ])
      refine take_h 9 ⟨?_, ?_, ?_, by kernel_rfl, by kernel_rfl, by kernel_rfl, ?_, ?_, by assumption, ?_⟩
      rotate_left 2
      · (simp only [List.getElem?_toArray, List.getElem?_cons_succ, List.getElem?_cons_zero]; exact rfl)
      · exact fun _ _ _ h => h
      · first
          | (refine Or.inr ⟨by rfl, ?_⟩; exact rfl)
          | (refine Or.inl ⟨by rfl, ?_⟩
             intro w hSw
             (try dsimp only at hSw)
             (try go_split_ands)
             go_simp
             (first | done | with_reducible rfl))
      try simp only [Act.put, List.setIfInBounds_toArray, List.set_cons_zero, List.set_cons_succ]
      refine take_h 10 ⟨?_, ?_, ?_, by kernel_rfl, by kernel_rfl, by kernel_rfl, ?_, ?_, by assumption, ?_⟩
      rotate_left 2
      · (simp only [List.getElem?_toArray, List.getElem?_cons_succ, List.getElem?_cons_zero]; exact rfl)
      · exact fun _ _ _ h => h
      · first
          | (refine Or.inr ⟨by rfl, ?_⟩; exact rfl)
          | (refine Or.inl ⟨by rfl, ?_⟩
             intro w hSw
             (try dsimp only at hSw)
             (try go_split_ands)
             go_simp
             (first | done | with_reducible rfl))
      try simp only [Act.put, List.setIfInBounds_toArray, List.set_cons_zero, List.set_cons_succ]
      refine wpAnyH_ready (rs := [11]) (by kernel_rfl) (by simp) ?_
      refine call_h 11 ⟨?_, ?_, fun K hK => ?_⟩
      rotate_left 1
      · (simp only [List.getElem?_toArray, List.getElem?_cons_succ, List.getElem?_cons_zero]; exact rfl)
      go_simp
      skip
      go_wp2_with fail
      refine hK.out _ _ trivial (fun hHeld => ?_)
      clear hK K
      refine wpAnyH_done (by kernel_rfl) ?_ _
      clear hHeld g0 gf
      go_wp2
      go_ret
      obtain ⟨q1, S0, q2, q3⟩ := HEND.out
      exact ⟨rfl, _, _, q1, ⟨S0, q2, q3⟩, fun k hk => by
        rcases List.mem_append.1 hk with hk | hk
        · exact .inr (HX.out.lt k (mem_ownL.1 hk)).1
        · exact .inl hk⟩
    case B =>
      refine ⟨?_, ?_, fun K hK => ?_⟩
      rotate_left 1
      · (simp only [List.getElem?_toArray, List.getElem?_cons_succ, List.getElem?_cons_zero]; exact rfl)
      go_simp
      go_wp2_with fail
      refine hK.out _ _ trivial (fun hHeld => ?_)
      clear hK K
      (try simp only [Act.put, List.setIfInBounds_toArray, List.set_cons_zero, List.set_cons_succ])
      have e0' : (w1.alloc (.cells #[.slice xo b.length xc] 39)).cell? ⟨P, 0, none⟩ = some (.slice io In.length ic) := cell_left' e0 ((Left.refl [] w1).alloc _) (by simp)
      refine wpAnyH_ready (rs := [4]) (by kernel_rfl) (by simp) ?_
      refine call_h 4 ⟨?_, ?_, fun K hK => ?_⟩
      rotate_left 1
      · (simp only [List.getElem?_toArray, List.getElem?_cons_succ, List.getElem?_cons_zero]; exact rfl)
      go_simp
      skip
      go_wp2_with fail
      refine hK.out _ _ trivial (fun hHeld => ?_)
      clear hK K
      (try simp only [Act.put, List.setIfInBounds_toArray, List.set_cons_zero, List.set_cons_succ])
      clear e0'
      have hlz := (Left.refl [] w1).alloc (.cells #[.slice xo b.length xc] 39)
      have HRT := Lib.hid ((HRow.out.left (Left.of_below HB1.out []) (by simp)).left hlz (by simp))
      have hz1 := HB1.out.size
      refine wpAnyH_ready (rs := [8]) (by kernel_rfl) (by simp) ?_
      refine call_h 8 ⟨?_, ?_, fun K hK => ?_⟩
      rotate_left 1
      · (simp only [List.getElem?_toArray, List.getElem?_cons_succ, List.getElem?_cons_zero]; exact rfl)
      rw [if_pos (by rfl)]
      refine oper_row (.tmp 27) (.tmp 30) 98 rfl base 39 (.slice none 0 0) 1 24 Try.underlying98 info_bss rfl (by omega) _ In.length ws rfl HRT.out ⟨w1.heap.size, 0, none⟩ 1 1 [.slice xo b.length xc] rfl rfl (cell_one_new _ _ _) (by simp [Value.oneCell']) ?_ ?_ ?_ ?_
      · unfold maxLen; omega
      · omega
      · simp; omega
      intro v1 w3 hrow hg hat
      obtain ⟨ao1, ac1, rfl, _, _⟩ := hrow.form
      obtain ⟨q1, q2, q3⟩ := HP.out.app_in HX.out HB1.out hlz hz HRow.out HIN.out hrow hg hat
      have g0 : w3.cell? ⟨P, 0, none⟩ = some (.slice io In.length ic) := by rw [q3.cell]; rfl
      have gf := q3.free 0
      have HEND := Lib.hid (And.intro q1 q2)
      clear q1 q2 q3 hrow hg hat e0
      refine hK.out _ _ trivial (fun hHeld => ?_)
      clear hK K
      (try simp only [Act.put, List.setIfInBounds_toArray, List.set_cons_zero, List.set_cons_succ])
      refine take_h 9 ⟨?_, ?_, ?_, by kernel_rfl, by kernel_rfl, by kernel_rfl, ?_, ?_, by assumption, ?_⟩
      rotate_left 2
      · (simp only [List.getElem?_toArray, List.getElem?_cons_succ, List.getElem?_cons_zero]; exact rfl)
      · exact fun _ _ _ h => h
      · first
          | (refine Or.inr ⟨by rfl, ?_⟩; exact rfl)
          | (refine Or.inl ⟨by rfl, ?_⟩
             intro w hSw
             (try dsimp only at hSw)
             (try go_split_ands)
             go_simp
             (first | done | with_reducible rfl))
      try simp only [Act.put, List.setIfInBounds_toArray, List.set_cons_zero, List.set_cons_succ]
      refine take_h 10 ⟨?_, ?_, ?_, by kernel_rfl, by kernel_rfl, by kernel_rfl, ?_, ?_, by assumption, ?_⟩
      rotate_left 2
      · (simp only [List.getElem?_toArray, List.getElem?_cons_succ, List.getElem?_cons_zero]; exact rfl)
      · exact fun _ _ _ h => h
      · first
          | (refine Or.inr ⟨by rfl, ?_⟩; exact rfl)
          | (refine Or.inl ⟨by rfl, ?_⟩
             intro w hSw
             (try dsimp only at hSw)
             (try go_split_ands)
             go_simp
             (first | done | with_reducible rfl))
      try simp only [Act.put, List.setIfInBounds_toArray, List.set_cons_zero, List.set_cons_succ]
      refine wpAnyH_ready (rs := [11]) (by kernel_rfl) (by simp) ?_
      refine call_h 11 ⟨?_, ?_, fun K hK => ?_⟩
      rotate_left 1
      · (simp only [List.getElem?_toArray, List.getElem?_cons_succ, List.getElem?_cons_zero]; exact rfl)
      go_simp
      skip
      go_wp2_with fail
      refine hK.out _ _ trivial (fun hHeld => ?_)
      clear hK K
      refine wpAnyH_done (by kernel_rfl) ?_ _
      clear hHeld g0 gf
      go_wp2
      go_ret
      obtain ⟨q1, S0, q2, q3⟩ := HEND.out
      exact ⟨rfl, _, _, q1, ⟨S0, q2, q3⟩, fun k hk => by
        rcases List.mem_append.1 hk with hk | hk
        · exact .inr (HX.out.lt k (mem_ownL.1 hk)).1
        · exact .inl hk⟩
set_option maxRecDepth 20000 in
set_option maxHeartbeats 2000000 in
theorem rSend_ok (h : PageAt w base P D iv ov In Out lost) {v : Value} {b : List UInt8} {B0 : Nat} (hr : Rd w B0 1 v b.length (u8s b)) (hB0 : B0 ≤ w.heap.size) (hz : base ≤ w.heap.size) (hb : wholeB b.length = true) (hin : Out.length < 64) :
    Calls Try.prog 55 #[.pointer (some ⟨P, 0, none⟩), v] w fun e w' => e = .returned (.int .i64 0) ∧ ∃ ov' D', PageAt w' base P D' iv ov' In (Out ++ [b]) lost ∧ PStep w w' base P ∧ ∀ k ∈ D', k ∈ D ∨ w.heap.size ≤ k := by
  have hb2 : 14 ≤ b.length ∧ b.length ≤ 1514 := by simpa [wholeB] using hb
  have hW := h.head
  obtain ⟨ws, hRow, hin2⟩ := h.outr
  obtain ⟨io, ic, rfl, hic, hicm⟩ := hRow.form
  have c0 : w.cell? ⟨P, 1, none⟩ = some (.slice io Out.length ic) := by rw [hW.cell]; rfl
  have d0 : w.drew.cell? ⟨P, 1, none⟩ = some (.slice io Out.length ic) := c0
  have HP := Lib.hid h
  have HRow := Lib.hid hRow
  have HIN := Lib.hid hin2
  have HWB := Lib.hid hb
  have hcp := CopyBytes_n w.drew v b.length b B0 rfl (show Rd w.drew B0 1 v _ _ from hr) (show B0 ≤ w.drew.heap.size from hB0) (by omega)
  have HCP := Lib.hid hcp
  obtain ⟨ao, cap, rfl, _, hcapm⟩ := hr.form
  have hcap2 : cap ≤ 9223372036854775807 := by unfold maxLen at hcapm; omega
  have hlen2 : ¬ (64 : Int) ≤ (Out.length : Int) := by omega
  clear h hW hRow hin2 hb hcp hr hcapm hicm
  go_enter Try.func55, Try.ntmps55
  go_wp2_with (go_at_call 88; refine (Whole1_any _ _ _ _).mono ?_; rintro e w' ⟨rfl, rfl⟩; rw [HWB.out])
  go_upto_region 5 with fail
  refine wp_region_held_drew (S := fun _ => True) (by kernel_rfl) trivial (fun hHeld => ?_)
  refine take_h 0 ⟨?_, ?_, ?_, by kernel_rfl, by kernel_rfl, by kernel_rfl, ?_, ?_, by assumption, ?_⟩
  rotate_left 2
  · (simp only [List.getElem?_toArray, List.getElem?_cons_zero]; exact rfl)
  · exact fun _ _ _ h => h
  · first
      | (refine Or.inr ⟨by rfl, ?_⟩; exact rfl)
      | (refine Or.inl ⟨by rfl, ?_⟩
         intro w hSw
         (try dsimp only at hSw)
         (try go_split_ands)
         go_simp
         (first | done | with_reducible rfl))
  try simp only [Act.put, List.setIfInBounds_toArray, List.set_cons_zero, List.set_cons_succ]
  refine take_h 1 ⟨?_, ?_, ?_, by kernel_rfl, by kernel_rfl, by kernel_rfl, ?_, ?_, by assumption, ?_⟩
  rotate_left 2
  · (simp only [List.getElem?_toArray, List.getElem?_cons_succ, List.getElem?_cons_zero]; exact rfl)
  · exact fun _ _ _ h => h
  · first
      | (refine Or.inr ⟨by rfl, ?_⟩; exact rfl)
      | (refine Or.inl ⟨by rfl, ?_⟩
         intro w hSw
         (try dsimp only at hSw)
         (try go_split_ands)
         go_simp
         (first | done | with_reducible rfl))
  try simp only [Act.put, List.setIfInBounds_toArray, List.set_cons_zero, List.set_cons_succ]
  refine take_h 2 ⟨?_, ?_, ?_, by kernel_rfl, by kernel_rfl, by kernel_rfl, ?_, ?_, by assumption, ?_⟩
  rotate_left 2
  · (simp only [List.getElem?_toArray, List.getElem?_cons_succ, List.getElem?_cons_zero]; exact rfl)
  · exact fun _ _ _ h => h
  · first
      | (refine Or.inr ⟨by rfl, ?_⟩; exact rfl)
      | (refine Or.inl ⟨by rfl, ?_⟩
         intro w hSw
         (try dsimp only at hSw)
         (try go_split_ands)
         go_simp
         (first | done | with_reducible rfl))
  try simp only [Act.put, List.setIfInBounds_toArray, List.set_cons_zero, List.set_cons_succ]
  refine take_h 3 ⟨?_, ?_, ?_, by kernel_rfl, by kernel_rfl, by kernel_rfl, ?_, ?_, by assumption, ?_⟩
  rotate_left 2
  · (simp only [List.getElem?_toArray, List.getElem?_cons_succ, List.getElem?_cons_zero]; exact rfl)
  · exact fun _ _ _ h => h
  · first
      | (refine Or.inr ⟨by rfl, ?_⟩; exact rfl)
      | (refine Or.inl ⟨by rfl, ?_⟩
         intro w hSw
         (try dsimp only at hSw)
         (try go_split_ands)
         go_simp
         (first | done | with_reducible rfl))
  try simp only [Act.put, List.setIfInBounds_toArray, List.set_cons_zero, List.set_cons_succ]
  refine take_h 5 ⟨?_, ?_, ?_, by kernel_rfl, by kernel_rfl, by kernel_rfl, ?_, ?_, by assumption, ?_⟩
  rotate_left 2
  · (simp only [List.getElem?_toArray, List.getElem?_cons_succ, List.getElem?_cons_zero]; exact rfl)
  · exact fun _ _ _ h => h
  · first
      | (refine Or.inr ⟨by rfl, ?_⟩; exact rfl)
      | (refine Or.inl ⟨by rfl, ?_⟩
         intro w hSw
         (try dsimp only at hSw)
         (try go_split_ands)
         go_simp
         (first | done | with_reducible rfl))
  try simp only [Act.put, List.setIfInBounds_toArray, List.set_cons_zero, List.set_cons_succ]
  refine wpAnyH_ready (rs := [4, 6]) (by kernel_rfl) (by simp) ?_
  refine call_h2 4 6 ?A ?B
  case A =>
    refine ⟨?_, ?_, fun K hK => ?_⟩
    rotate_left 1
    · (simp only [List.getElem?_toArray, List.getElem?_cons_succ, List.getElem?_cons_zero]; exact rfl)
    go_simp
    go_wp2_with fail
    refine hK.out _ _ trivial (fun hHeld => ?_)
    clear hK K
    (try simp only [Act.put, List.setIfInBounds_toArray, List.set_cons_zero, List.set_cons_succ])
    refine wpAnyH_ready (rs := [6]) (by kernel_rfl) (by simp) ?_
    refine call_h 6 ⟨?_, ?_, fun K hK => ?_⟩
    rotate_left 1
    · (simp only [List.getElem?_toArray, List.getElem?_cons_succ, List.getElem?_cons_zero]; exact rfl)
    go_simp
    (go_at_call 31; refine HCP.out.mono ?_; rintro e w1 ⟨x, rfl, hown, hb1⟩; obtain ⟨xo, xc, rfl, _, _⟩ := (Rd.of_own hown).form)
    go_wp2_with fail
    have HX : Hid (w1.ownsRow w.heap.size 5 1 (.slice xo b.length xc) b.length (u8s b)) := Lib.hid hown
    have HB1 : Hid (Below w.heap.size w w1) := Lib.hid ⟨hb1.os, hb1.tape, hb1.output, hb1.size, hb1.block⟩
    have e0 : w1.cell? ⟨P, 1, none⟩ = some (.slice io Out.length ic) := cell_left' c0 (Left.of_below HB1.out []) (by simp)
    clear hown hb1
    refine hK.out _ _ trivial (fun hHeld => ?_)
    clear hK K
    (try simp only [Act.put, List.setIfInBounds_toArray, List.set_cons_zero, List.set_cons_succ])
    refine wpAnyH_ready (rs := [7]) (by kernel_rfl) (by simp) ?_
    refine call_h 7 ⟨?_, ?_, fun K hK => ?_⟩
    rotate_left 1
    · (simp only [List.getElem?_toArray, List.getElem?_cons_succ, List.getElem?_cons_zero]; exact rfl)
    go_simp
    skip
    go_wp2_with fail
    refine hK.out _ _ trivial (fun hHeld => ?_)
    clear hK K
    (try simp only [Act.put, List.setIfInBounds_toArray, List.set_cons_zero, List.set_cons_succ])
    have hlz := (Left.refl [] w1).alloc (.cells #[.slice xo b.length xc] 39)
    have HRT := Lib.hid ((HRow.out.left (Left.of_below HB1.out []) (by simp)).left hlz (by simp))
    have hz1 := HB1.out.size
    refine wpAnyH_ready (rs := [8]) (by kernel_rfl) (by simp) ?_
    refine call_h 8 ⟨?_, ?_, fun K hK => ?_⟩
    rotate_left 1
    · (simp only [List.getElem?_toArray, List.getElem?_cons_succ, List.getElem?_cons_zero]; exact rfl)
    rw [if_pos (by rfl)]
    refine oper_row (.tmp 18) (.tmp 21) 98 rfl base 39 (.slice none 0 0) 1 24 Try.underlying98 info_bss rfl (by omega) _ Out.length ws rfl HRT.out ⟨w1.heap.size, 0, none⟩ 1 1 [.slice xo b.length xc] rfl rfl (cell_one_new _ _ _) (by simp [Value.oneCell']) ?_ ?_ ?_ ?_
    · unfold maxLen; omega
    · omega
    · simp; omega
    intro v1 w3 hrow hg hat
    obtain ⟨ao1, ac1, rfl, _, _⟩ := hrow.form
    obtain ⟨q1, q2, q3⟩ := HP.out.app_out HX.out HB1.out hlz hz HRow.out HIN.out hrow hg hat
    have g0 : w3.cell? ⟨P, 1, none⟩ = some (.slice io Out.length ic) := by rw [q3.cell]; rfl
    have gf := q3.free 1
    have HEND := Lib.hid (And.intro q1 q2)
    clear q1 q2 q3 hrow hg hat e0
    refine hK.out _ _ trivial (fun hHeld => ?_)
    clear hK K
    (try simp only [Act.put, List.setIfInBounds_toArray, List.set_cons_zero, List.set_cons_succ])
    refine take_h 9 ⟨?_, ?_, ?_, by kernel_rfl, by kernel_rfl, by kernel_rfl, ?_, ?_, by assumption, ?_⟩
    rotate_left 2
    · (simp only [List.getElem?_toArray, List.getElem?_cons_succ, List.getElem?_cons_zero]; exact rfl)
    · exact fun _ _ _ h => h
    · first
        | (refine Or.inr ⟨by rfl, ?_⟩; exact rfl)
        | (refine Or.inl ⟨by rfl, ?_⟩
           intro w hSw
           (try dsimp only at hSw)
           (try go_split_ands)
           go_simp
           (first | done | with_reducible rfl))
    try simp only [Act.put, List.setIfInBounds_toArray, List.set_cons_zero, List.set_cons_succ]
    refine take_h 10 ⟨?_, ?_, ?_, by kernel_rfl, by kernel_rfl, by kernel_rfl, ?_, ?_, by assumption, ?_⟩
    rotate_left 2
    · (simp only [List.getElem?_toArray, List.getElem?_cons_succ, List.getElem?_cons_zero]; exact rfl)
    · exact fun _ _ _ h => h
    · first
        | (refine Or.inr ⟨by rfl, ?_⟩; exact rfl)
        | (refine Or.inl ⟨by rfl, ?_⟩
           intro w hSw
           (try dsimp only at hSw)
           (try go_split_ands)
           go_simp
           (first | done | with_reducible rfl))
    try simp only [Act.put, List.setIfInBounds_toArray, List.set_cons_zero, List.set_cons_succ]
    refine wpAnyH_ready (rs := [11]) (by kernel_rfl) (by simp) ?_
    refine call_h 11 ⟨?_, ?_, fun K hK => ?_⟩
    rotate_left 1
    · (simp only [List.getElem?_toArray, List.getElem?_cons_succ, List.getElem?_cons_zero]; exact rfl)
    go_simp
    skip
    go_wp2_with fail
    refine hK.out _ _ trivial (fun hHeld => ?_)
    clear hK K
    refine wpAnyH_done (by kernel_rfl) ?_ _
    clear hHeld g0 gf
    go_wp2
    go_ret
    obtain ⟨q1, S0, q2, q3⟩ := HEND.out
    exact ⟨rfl, _, _, q1, ⟨S0, q2, q3⟩, fun k hk => by
      rcases List.mem_append.1 hk with hk | hk
      · exact .inr (HX.out.lt k (mem_ownL.1 hk)).1
      · exact .inl hk⟩
  case B =>
    refine ⟨?_, ?_, fun K hK => ?_⟩
    rotate_left 1
    · (simp only [List.getElem?_toArray, List.getElem?_cons_succ, List.getElem?_cons_zero]; exact rfl)
    go_simp
    (go_at_call 31; refine HCP.out.mono ?_; rintro e w1 ⟨x, rfl, hown, hb1⟩; obtain ⟨xo, xc, rfl, _, _⟩ := (Rd.of_own hown).form)
    have HX : Hid (w1.ownsRow w.heap.size 5 1 (.slice xo b.length xc) b.length (u8s b)) := Lib.hid hown
    have HB1 : Hid (Below w.heap.size w w1) := Lib.hid ⟨hb1.os, hb1.tape, hb1.output, hb1.size, hb1.block⟩
    have e0 : w1.cell? ⟨P, 1, none⟩ = some (.slice io Out.length ic) := cell_left' c0 (Left.of_below HB1.out []) (by simp)
    clear hown hb1
    go_wp2_with fail
    refine hK.out _ _ trivial (fun hHeld => ?_)
    clear hK K
    (try simp only [Act.put, List.setIfInBounds_toArray, List.set_cons_zero, List.set_cons_succ])
    refine wpAnyH_ready (rs := [4, 7]) (by kernel_rfl) (by simp) ?_
    refine call_h2 4 7 ?A ?B
    case A =>
      refine ⟨?_, ?_, fun K hK => ?_⟩
      rotate_left 1
      · (simp only [List.getElem?_toArray, List.getElem?_cons_succ, List.getElem?_cons_zero]; exact rfl)
      go_simp
      go_wp2_with fail
      refine hK.out _ _ trivial (fun hHeld => ?_)
      clear hK K
      (try simp only [Act.put, List.setIfInBounds_toArray, List.set_cons_zero, List.set_cons_succ])
      refine wpAnyH_ready (rs := [7]) (by kernel_rfl) (by simp) ?_
      refine call_h 7 ⟨?_, ?_, fun K hK => ?_⟩
      rotate_left 1
      · (simp only [List.getElem?_toArray, List.getElem?_cons_succ, List.getElem?_cons_zero]; exact rfl)
      go_simp
      skip
      go_wp2_with fail
      refine hK.out _ _ trivial (fun hHeld => ?_)
      clear hK K
      (try simp only [Act.put, List.setIfInBounds_toArray, List.set_cons_zero, List.set_cons_succ])
      have hlz := (Left.refl [] w1).alloc (.cells #[.slice xo b.length xc] 39)
      have HRT := Lib.hid ((HRow.out.left (Left.of_below HB1.out []) (by simp)).left hlz (by simp))
      have hz1 := HB1.out.size
      refine wpAnyH_ready (rs := [8]) (by kernel_rfl) (by simp) ?_
      refine call_h 8 ⟨?_, ?_, fun K hK => ?_⟩
      rotate_left 1
      · (simp only [List.getElem?_toArray, List.getElem?_cons_succ, List.getElem?_cons_zero]; exact rfl)
      rw [if_pos (by rfl)]
      refine oper_row (.tmp 18) (.tmp 21) 98 rfl base 39 (.slice none 0 0) 1 24 Try.underlying98 info_bss rfl (by omega) _ Out.length ws rfl HRT.out ⟨w1.heap.size, 0, none⟩ 1 1 [.slice xo b.length xc] rfl rfl (cell_one_new _ _ _) (by simp [Value.oneCell']) ?_ ?_ ?_ ?_
      · unfold maxLen; omega
      · omega
      · simp; omega
      intro v1 w3 hrow hg hat
      obtain ⟨ao1, ac1, rfl, _, _⟩ := hrow.form
      obtain ⟨q1, q2, q3⟩ := HP.out.app_out HX.out HB1.out hlz hz HRow.out HIN.out hrow hg hat
      have g0 : w3.cell? ⟨P, 1, none⟩ = some (.slice io Out.length ic) := by rw [q3.cell]; rfl
      have gf := q3.free 1
      have HEND := Lib.hid (And.intro q1 q2)
      clear q1 q2 q3 hrow hg hat e0
      refine hK.out _ _ trivial (fun hHeld => ?_)
      clear hK K
      (try simp only [Act.put, List.setIfInBounds_toArray, List.set_cons_zero, List.set_cons_succ])
      refine take_h 9 ⟨?_, ?_, ?_, by kernel_rfl, by kernel_rfl, by kernel_rfl, ?_, ?_, by assumption, ?_⟩
      rotate_left 2
      · (simp only [List.getElem?_toArray, List.getElem?_cons_succ, List.getElem?_cons_zero]; exact rfl)
      · exact fun _ _ _ h => h
      · first
          | (refine Or.inr ⟨by rfl, ?_⟩; exact rfl)
          | (refine Or.inl ⟨by rfl, ?_⟩
             intro w hSw
             (try dsimp only at hSw)
             (try go_split_ands)
             go_simp
             (first | done | with_reducible rfl))
      try simp only [Act.put, List.setIfInBounds_toArray, List.set_cons_zero, List.set_cons_succ]
      refine take_h 10 ⟨?_, ?_, ?_, by kernel_rfl, by kernel_rfl, by kernel_rfl, ?_, ?_, by assumption, ?_⟩
      rotate_left 2
      · (simp only [List.getElem?_toArray, List.getElem?_cons_succ, List.getElem?_cons_zero]; exact rfl)
      · exact fun _ _ _ h => h
      · first
          | (refine Or.inr ⟨by rfl, ?_⟩; exact rfl)
          | (refine Or.inl ⟨by rfl, ?_⟩
             intro w hSw
             (try dsimp only at hSw)
             (try go_split_ands)
             go_simp
             (first | done | with_reducible rfl))
      try simp only [Act.put, List.setIfInBounds_toArray, List.set_cons_zero, List.set_cons_succ]
      refine wpAnyH_ready (rs := [11]) (by kernel_rfl) (by simp) ?_
      refine call_h 11 ⟨?_, ?_, fun K hK => ?_⟩
      rotate_left 1
      · (simp only [List.getElem?_toArray, List.getElem?_cons_succ, List.getElem?_cons_zero]; exact rfl)
      go_simp
      skip
      go_wp2_with fail
      refine hK.out _ _ trivial (fun hHeld => ?_)
      clear hK K
      refine wpAnyH_done (by kernel_rfl) ?_ _
      clear hHeld g0 gf
      go_wp2
      go_ret
      obtain ⟨q1, S0, q2, q3⟩ := HEND.out
      exact ⟨rfl, _, _, q1, ⟨S0, q2, q3⟩, fun k hk => by
        rcases List.mem_append.1 hk with hk | hk
        · exact .inr (HX.out.lt k (mem_ownL.1 hk)).1
        · exact .inl hk⟩
    case B =>
      refine ⟨?_, ?_, fun K hK => ?_⟩
      rotate_left 1
      · (simp only [List.getElem?_toArray, List.getElem?_cons_succ, List.getElem?_cons_zero]; exact rfl)
      go_simp
      go_wp2_with fail
      refine hK.out _ _ trivial (fun hHeld => ?_)
      clear hK K
      (try simp only [Act.put, List.setIfInBounds_toArray, List.set_cons_zero, List.set_cons_succ])
      have e0' : (w1.alloc (.cells #[.slice xo b.length xc] 39)).cell? ⟨P, 1, none⟩ = some (.slice io Out.length ic) := cell_left' e0 ((Left.refl [] w1).alloc _) (by simp)
      refine wpAnyH_ready (rs := [4]) (by kernel_rfl) (by simp) ?_
      refine call_h 4 ⟨?_, ?_, fun K hK => ?_⟩
      rotate_left 1
      · (simp only [List.getElem?_toArray, List.getElem?_cons_succ, List.getElem?_cons_zero]; exact rfl)
      go_simp
      skip
      go_wp2_with fail
      refine hK.out _ _ trivial (fun hHeld => ?_)
      clear hK K
      (try simp only [Act.put, List.setIfInBounds_toArray, List.set_cons_zero, List.set_cons_succ])
      clear e0'
      have hlz := (Left.refl [] w1).alloc (.cells #[.slice xo b.length xc] 39)
      have HRT := Lib.hid ((HRow.out.left (Left.of_below HB1.out []) (by simp)).left hlz (by simp))
      have hz1 := HB1.out.size
      refine wpAnyH_ready (rs := [8]) (by kernel_rfl) (by simp) ?_
      refine call_h 8 ⟨?_, ?_, fun K hK => ?_⟩
      rotate_left 1
      · (simp only [List.getElem?_toArray, List.getElem?_cons_succ, List.getElem?_cons_zero]; exact rfl)
      rw [if_pos (by rfl)]
      refine oper_row (.tmp 18) (.tmp 21) 98 rfl base 39 (.slice none 0 0) 1 24 Try.underlying98 info_bss rfl (by omega) _ Out.length ws rfl HRT.out ⟨w1.heap.size, 0, none⟩ 1 1 [.slice xo b.length xc] rfl rfl (cell_one_new _ _ _) (by simp [Value.oneCell']) ?_ ?_ ?_ ?_
      · unfold maxLen; omega
      · omega
      · simp; omega
      intro v1 w3 hrow hg hat
      obtain ⟨ao1, ac1, rfl, _, _⟩ := hrow.form
      obtain ⟨q1, q2, q3⟩ := HP.out.app_out HX.out HB1.out hlz hz HRow.out HIN.out hrow hg hat
      have g0 : w3.cell? ⟨P, 1, none⟩ = some (.slice io Out.length ic) := by rw [q3.cell]; rfl
      have gf := q3.free 1
      have HEND := Lib.hid (And.intro q1 q2)
      clear q1 q2 q3 hrow hg hat e0
      refine hK.out _ _ trivial (fun hHeld => ?_)
      clear hK K
      (try simp only [Act.put, List.setIfInBounds_toArray, List.set_cons_zero, List.set_cons_succ])
      refine take_h 9 ⟨?_, ?_, ?_, by kernel_rfl, by kernel_rfl, by kernel_rfl, ?_, ?_, by assumption, ?_⟩
      rotate_left 2
      · (simp only [List.getElem?_toArray, List.getElem?_cons_succ, List.getElem?_cons_zero]; exact rfl)
      · exact fun _ _ _ h => h
      · first
          | (refine Or.inr ⟨by rfl, ?_⟩; exact rfl)
          | (refine Or.inl ⟨by rfl, ?_⟩
             intro w hSw
             (try dsimp only at hSw)
             (try go_split_ands)
             go_simp
             (first | done | with_reducible rfl))
      try simp only [Act.put, List.setIfInBounds_toArray, List.set_cons_zero, List.set_cons_succ]
      refine take_h 10 ⟨?_, ?_, ?_, by kernel_rfl, by kernel_rfl, by kernel_rfl, ?_, ?_, by assumption, ?_⟩
      rotate_left 2
      · (simp only [List.getElem?_toArray, List.getElem?_cons_succ, List.getElem?_cons_zero]; exact rfl)
      · exact fun _ _ _ h => h
      · first
          | (refine Or.inr ⟨by rfl, ?_⟩; exact rfl)
          | (refine Or.inl ⟨by rfl, ?_⟩
             intro w hSw
             (try dsimp only at hSw)
             (try go_split_ands)
             go_simp
             (first | done | with_reducible rfl))
      try simp only [Act.put, List.setIfInBounds_toArray, List.set_cons_zero, List.set_cons_succ]
      refine wpAnyH_ready (rs := [11]) (by kernel_rfl) (by simp) ?_
      refine call_h 11 ⟨?_, ?_, fun K hK => ?_⟩
      rotate_left 1
      · (simp only [List.getElem?_toArray, List.getElem?_cons_succ, List.getElem?_cons_zero]; exact rfl)
      go_simp
      skip
      go_wp2_with fail
      refine hK.out _ _ trivial (fun hHeld => ?_)
      clear hK K
      refine wpAnyH_done (by kernel_rfl) ?_ _
      clear hHeld g0 gf
      go_wp2
      go_ret
      obtain ⟨q1, S0, q2, q3⟩ := HEND.out
      exact ⟨rfl, _, _, q1, ⟨S0, q2, q3⟩, fun k hk => by
        rcases List.mem_append.1 hk with hk | hk
        · exact .inr (HX.out.lt k (mem_ownL.1 hk)).1
        · exact .inl hk⟩

set_option maxHeartbeats 1000000 in
theorem rSend_form (w : World) (P : Nat) (ao : Option Addr) (n cap : Nat) (hb : wholeB n = false) :
    Calls Try.prog 55 #[.pointer (some ⟨P, 0, none⟩), .slice ao n cap] w fun e w' => e = .returned (.int .i64 1) ∧ w = w' := by
  have HWB := Lib.hid hb
  clear hb
  go_enter Try.func55, Try.ntmps55
  go_wp2_with (go_at_call 88; refine (Whole1_any _ _ _ _).mono ?_; rintro e w' ⟨rfl, rfl⟩; rw [HWB.out])
  go_ret
  exact ⟨rfl, rfl⟩
set_option maxHeartbeats 1000000 in
theorem rSend_full (h : PageAt w base P D iv ov In Out lost) (ao : Option Addr) (n cap : Nat) (hb : wholeB n = true) (hf : Out.length = 64) :
    Calls Try.prog 55 #[.pointer (some ⟨P, 0, none⟩), .slice ao n cap] w fun e w' => e = .returned (.int .i64 5) ∧ w = w' := by
  have hW := h.head
  obtain ⟨ws, hRow, hin2⟩ := h.outr
  obtain ⟨io, ic, rfl, hic, hicm⟩ := hRow.form
  have c0 : w.cell? ⟨P, 1, none⟩ = some (.slice io Out.length ic) := by rw [hW.cell]; rfl
  have HWB := Lib.hid hb
  have hlen2 : (64 : Int) ≤ (Out.length : Int) := by omega
  clear hb h hW hRow hin2 hicm hf
  go_enter Try.func55, Try.ntmps55
  go_wp2_with (go_at_call 88; refine (Whole1_any _ _ _ _).mono ?_; rintro e w' ⟨rfl, rfl⟩; rw [HWB.out])
  go_ret
  exact ⟨rfl, rfl⟩


set_option maxHeartbeats 1000000 in
theorem rPoll_none (h : PageAt w base P D iv ov [] Out lost) :
    Calls Try.prog 52 #[.pointer (some ⟨P, 0, none⟩)] w fun e w' => e = .returned (.tuple #[.slice none 0 0, .bool false]) ∧ w = w' := by
  have hW := h.head
  obtain ⟨io, ic, rfl, hic, hicm⟩ := (show ∃ ao cap, iv = .slice ao 0 cap ∧ 0 ≤ cap ∧ cap ≤ maxLen from by obtain ⟨ws, h1, _⟩ := h.inr; exact h1.form)
  have c0 : w.cell? ⟨P, 0, none⟩ = some (.slice io 0 ic) := by rw [hW.cell]; rfl
  clear h hW hicm
  go_enter Try.func52, Try.ntmps52
  go_wp2
  go_ret2
  exact ⟨rfl, rfl⟩
set_option maxHeartbeats 1000000 in
theorem rOut_none (h : PageAt w base P D iv ov In [] lost) :
    Calls Try.prog 57 #[.pointer (some ⟨P, 0, none⟩)] w fun e w' => e = .returned (.tuple #[.slice none 0 0, .bool false]) ∧ w = w' := by
  have hW := h.head
  obtain ⟨io, ic, rfl, hic, hicm⟩ := (show ∃ ao cap, ov = .slice ao 0 cap ∧ 0 ≤ cap ∧ cap ≤ maxLen from by obtain ⟨ws, h1, _⟩ := h.outr; exact h1.form)
  have c0 : w.cell? ⟨P, 1, none⟩ = some (.slice io 0 ic) := by rw [hW.cell]; rfl
  clear h hW hicm
  go_enter Try.func57, Try.ntmps57
  go_wp2
  go_ret2
  exact ⟨rfl, rfl⟩
theorem PageAt.cut_in {In' : List (List UInt8)} {v' : Value} (h : PageAt w base P D iv ov In Out lost) (hr : FRow w base D v' In') (hv : ∀ k, v'.ownBlock = some k → iv.ownBlock = some k) : PageAt (w.setCell ⟨P, 0, none⟩ v') base P D v' ov In' Out lost := by
  have hl : Left [P] w (w.setCell ⟨P, 0, none⟩ v') := (Left.refl _ _).setCell (Or.inl (by simp)) _
  have hp := h.plt
  have hx : ∀ k ∈ [P], k < base := fun k hk => by simp only [List.mem_singleton] at hk; omega
  refine ⟨h.head.put 0 _, hr.left hl (fun k hk => .inl (hx k hk)), h.outr.left hl (fun k hk => .inl (hx k hk)), fun k hk => h.ne k (hv k hk), fun k hk => ?_, h.plt⟩
  obtain ⟨a, b, c⟩ := h.dlt k hk
  have hz := hl.size
  exact ⟨a.left hl (fun hm => by have := hx k hm; omega), b, by omega⟩
theorem PageAt.cut_out {Out' : List (List UInt8)} {v' : Value} (h : PageAt w base P D iv ov In Out lost) (hr : FRow w base D v' Out') (hv : ∀ k, v'.ownBlock = some k → ov.ownBlock = some k) : PageAt (w.setCell ⟨P, 1, none⟩ v') base P D iv v' In Out' lost := by
  have hl : Left [P] w (w.setCell ⟨P, 1, none⟩ v') := (Left.refl _ _).setCell (Or.inl (by simp)) _
  have hp := h.plt
  have hx : ∀ k ∈ [P], k < base := fun k hk => by simp only [List.mem_singleton] at hk; omega
  refine ⟨h.head.put 1 _, h.inr.left hl (fun k hk => .inl (hx k hk)), hr.left hl (fun k hk => .inl (hx k hk)), fun k hk e => h.ne k hk (hv k e), fun k hk => ?_, h.plt⟩
  obtain ⟨a, b, c⟩ := h.dlt k hk
  have hz := hl.size
  exact ⟨a.left hl (fun hm => by have := hx k hm; omega), b, by omega⟩
set_option maxRecDepth 20000 in
set_option maxHeartbeats 1000000 in
theorem rPoll_some {b : List UInt8} (h : PageAt w base P D iv ov (b :: In) Out lost) (hin : In.length < 16) :
    Calls Try.prog 52 #[.pointer (some ⟨P, 0, none⟩)] w fun e w' => ∃ x iv', e = .returned (.tuple #[x, .bool true]) ∧ w'.ownsRow base 5 1 x b.length (u8s b) ∧ PageAt w' base P D iv' ov In Out lost ∧ Left [P] w w' := by
  have hW := h.head
  have hp := h.plt
  have hP4 : ∀ k ∈ [P], k < base := fun k hk => by simp only [List.mem_singleton] at hk; omega
  obtain ⟨g, off, cap, x, rfl, hcap, hcapm, hx, hxo, hxD, ht1, ht0⟩ := h.inr.first
  obtain ⟨xo, xc, rfl, _, _⟩ := (Rd.of_own hxo).form
  have c0 : w.cell? ⟨P, 0, none⟩ = some (.slice (some ⟨g, off, none⟩) (In.length + 1) cap) := by rw [hW.cell]; rfl
  have f0 := hW.free 0
  have HP := Lib.hid h
  have HX := Lib.hid hxo
  have HT1 := Lib.hid ht1
  have HT0 := Lib.hid ht0
  have hcap2 : cap ≤ 9223372036854775807 := by unfold maxLen at hcapm; omega
  clear h hW hxo hxD ht1 ht0 hcapm
  by_cases hc1 : cap = 1
  · subst hc1
    obtain ⟨e1, e2⟩ := HT0.out rfl
    have H1 := Lib.hid e1
    have hl0 : In.length = 0 := e2
    rw [hl0] at c0
    clear e1 e2 hl0 hcap
    go_enter Try.func52, Try.ntmps52
    go_wp2
    go_ret2
    have hl4 : Left [P] w (w.setCell ⟨P, 0, none⟩ (.slice (some ⟨g, off, none⟩) 0 0)) := (Left.refl _ _).setCell (Or.inl (by simp)) _
    have hfin := HP.out.cut_in H1.out (fun k hk => by simpa [Value.ownBlock] using hk)
    first
      | exact ⟨.slice xo b.length xc, by simp, own_left HX.out hl4 hP4, ⟨_, hfin⟩, hl4⟩
      | exact ⟨.slice xo b.length xc, _, by simp, own_left HX.out hl4 hP4, hfin, hl4⟩
  · have hcgt : 1 < cap := by omega
    have H1 := Lib.hid (HT1.out hcgt)
    have z1 : (1 : Int) ≤ (In.length : Int) + 1 := by omega
    clear hc1
    go_enter Try.func52, Try.ntmps52
    go_wp2
    go_ret2
    have hl4 : Left [P] w (w.setCell ⟨P, 0, none⟩ (.slice (some ⟨g, off + 1, none⟩) In.length (cap - 1))) := (Left.refl _ _).setCell (Or.inl (by simp)) _
    have hfin := HP.out.cut_in H1.out (fun k hk => by simpa [Value.ownBlock] using hk)
    first
      | exact ⟨.slice xo b.length xc, by simp, own_left HX.out hl4 hP4, ⟨_, hfin⟩, hl4⟩
      | exact ⟨.slice xo b.length xc, _, by simp, own_left HX.out hl4 hP4, hfin, hl4⟩
set_option maxRecDepth 20000 in
set_option maxHeartbeats 1000000 in
theorem rOut_some {b : List UInt8} (h : PageAt w base P D iv ov In (b :: Out) lost) (hin : Out.length < 64) :
    Calls Try.prog 57 #[.pointer (some ⟨P, 0, none⟩)] w fun e w' => ∃ x ov', e = .returned (.tuple #[x, .bool true]) ∧ w'.ownsRow base 5 1 x b.length (u8s b) ∧ PageAt w' base P D iv ov' In Out lost ∧ Left [P] w w' := by
  have hW := h.head
  have hp := h.plt
  have hP4 : ∀ k ∈ [P], k < base := fun k hk => by simp only [List.mem_singleton] at hk; omega
  obtain ⟨g, off, cap, x, rfl, hcap, hcapm, hx, hxo, hxD, ht1, ht0⟩ := h.outr.first
  obtain ⟨xo, xc, rfl, _, _⟩ := (Rd.of_own hxo).form
  have c0 : w.cell? ⟨P, 1, none⟩ = some (.slice (some ⟨g, off, none⟩) (Out.length + 1) cap) := by rw [hW.cell]; rfl
  have f0 := hW.free 1
  have HP := Lib.hid h
  have HX := Lib.hid hxo
  have HT1 := Lib.hid ht1
  have HT0 := Lib.hid ht0
  have hcap2 : cap ≤ 9223372036854775807 := by unfold maxLen at hcapm; omega
  clear h hW hxo hxD ht1 ht0 hcapm
  by_cases hc1 : cap = 1
  · subst hc1
    obtain ⟨e1, e2⟩ := HT0.out rfl
    have H1 := Lib.hid e1
    have hl0 : Out.length = 0 := e2
    rw [hl0] at c0
    clear e1 e2 hl0 hcap
    go_enter Try.func57, Try.ntmps57
    go_wp2
    go_ret2
    have hl4 : Left [P] w (w.setCell ⟨P, 1, none⟩ (.slice (some ⟨g, off, none⟩) 0 0)) := (Left.refl _ _).setCell (Or.inl (by simp)) _
    have hfin := HP.out.cut_out H1.out (fun k hk => by simpa [Value.ownBlock] using hk)
    first
      | exact ⟨.slice xo b.length xc, by simp, own_left HX.out hl4 hP4, ⟨_, hfin⟩, hl4⟩
      | exact ⟨.slice xo b.length xc, _, by simp, own_left HX.out hl4 hP4, hfin, hl4⟩
  · have hcgt : 1 < cap := by omega
    have H1 := Lib.hid (HT1.out hcgt)
    have z1 : (1 : Int) ≤ (Out.length : Int) + 1 := by omega
    clear hc1
    go_enter Try.func57, Try.ntmps57
    go_wp2
    go_ret2
    have hl4 : Left [P] w (w.setCell ⟨P, 1, none⟩ (.slice (some ⟨g, off + 1, none⟩) Out.length (cap - 1))) := (Left.refl _ _).setCell (Or.inl (by simp)) _
    have hfin := HP.out.cut_out H1.out (fun k hk => by simpa [Value.ownBlock] using hk)
    first
      | exact ⟨.slice xo b.length xc, by simp, own_left HX.out hl4 hP4, ⟨_, hfin⟩, hl4⟩
      | exact ⟨.slice xo b.length xc, _, by simp, own_left HX.out hl4 hP4, hfin, hl4⟩
end
end Go.Proofs.Ytfffehbipcikoaa
