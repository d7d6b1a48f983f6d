/- RingExact and RingSpoilt: whatever a driver and a device do, and whatever else is written, each call answers what the page says. -/




import Derived.Test.YtfffehbipcikoaaRgArg2
import Derived.Test.YtfffehbipcikoaaRgDoes6
namespace Go.Proofs.Ytfffehbipcikoaa
open Go.RowKit Go.MapKept

theorem inj_list {L : List Nat} (h : L.Nodup) (hl : L.length = 18) : Inj (fun i => L.getD i 0) := by
  intro i j hi hj
  have e1 : L.getD i 0 = L[i]'(by omega) := by simp [List.getD, hl, hi]
  have e2 : L.getD j 0 = L[j]'(by omega) := by simp [List.getD, hl, hj]
  show L.getD i 0 = L.getD j 0 ↔ i = j
  rw [e1, e2]
  have hp := List.pairwise_iff_getElem.1 h
  constructor
  · intro e
    rcases Nat.lt_trichotomy i j with g | g | g
    · exact absurd e (hp i j (by omega) (by omega) g)
    · exact g
    · exact absurd e.symm (hp j i (by omega) (by omega) g)
  · rintro rfl
    rfl
theorem all_list {P : Nat → Prop} {L : List Nat} (h : ∀ x ∈ L, P x) (hl : L.length = 18) : ∀ i, i < 18 → P (L.getD i 0) := by
  intro i hi
  have e1 : L.getD i 0 = L[i]'(by omega) := by simp [List.getD, hl, hi]
  rw [e1]
  exact h _ (List.getElem_mem _)
theorem Whole.ne_imap {w : World} {g b : Nat} {t : TypeId} {cs : List Value} {L : List (Int × Value)} (h : Whole w g t cs) (h' : IMap w b L) : g ≠ b := by
  intro e
  subst e
  obtain ⟨es, clock, hm, _⟩ := h'.size
  unfold Whole at h
  rw [h] at hm
  injection hm with hm
  cases hm
theorem JX.start {w : World} {base q n : Nat} {s : Nat → Nat} (hi : Inj s) (hq : 1 ≤ q ∧ q ≤ 64) (hn : n ≤ 65536) (ho : ∀ i, i < 18 → base ≤ s i ∧ s i < w.heap.size)
    (hal : Whole w (s 0) 138 (halCells s (.slice none 0 0))) (mem : MemAt 114 w (s 6) (s 7) (List.replicate n 0)) (drv : DrvAt w (s 1) (s 2) (s 3) (s 4) (s 6) q false 0 0 (List.replicate q false) [] []) (dev : DevAt w (s 5) (s 6) q false 0 0)
    (rmem : MemAt 52 w (s 8) (s 9) (List.replicate n 0)) (r1 : RefAt w (s 10) (s 11) (s 12) (s 13) (s 8) q false 0 0 (List.replicate q false) (List.replicate q []) (List.replicate q 0) []) (r2 : RefAt w (s 14) (s 15) (s 16) (s 17) (s 8) q false 0 0 (List.replicate q false) (List.replicate q []) (List.replicate q 0) []) :
    JX w base s q (.slice none 0 0) [] := by
  have hno : ∀ k, NoRow w (s 3) k := by
    intro k W hW p hp
    obtain ⟨W', hW', hA⟩ := drv.way
    rw [imap_uniq hW hW'] at hp
    cases W' with
    | nil => simp at hp
    | cons a r => exact absurd hA (by simp [WayAt])
  refine ⟨⟨List.replicate n 0, false, false, List.replicate q false, [], [], 0, 0, 0, 0⟩, ⟨List.replicate n 0, false, false, List.replicate q false, List.replicate q [], List.replicate q 0, 0, 0, 0, 0, []⟩, ?_, rfl, rfl, rfl, rfl, rfl, rfl, rfl, rfl, [], Both.start⟩
  exact ⟨hi, hq, ho, hal, Row.nil_ _ _ _ _, (fun k hk => by cases hk), mem, drv, dev, rmem, r1, ⟨_, _, _, r2⟩, (fun k hk => by simp at hk), fun i _ => hno _, ⟨by simpa using hn, by simpa using hn⟩, ⟨by simp, by simp, by simp, by simp⟩, ⟨by simp, by simp, by simp, by simp⟩, (fun x hx => by simp at hx)⟩

def OpenP (w : World) (q : Int) (e : Ending) (w' : World) : Prop :=
  (e = .returned (.tuple #[.pointer none, .bool true]) ∧ Below w.heap.size w w') ∨
  ∃ (s : Nat → Nat) (qn : Nat), q = qn ∧ e = .returned (.tuple #[.pointer (some ⟨s 0, 0, none⟩), .bool true]) ∧ JX w' w.heap.size s qn (.slice none 0 0) [] ∧ Below w.heap.size w w'

set_option maxRecDepth 20000 in
set_option maxHeartbeats 2000000 in
theorem lopen_any (w : World) (n q : Int) : Calls Try.prog 47 #[.int .i64 n, .int .i64 q] w (OpenP w q) := by
  obtain ⟨y, hy⟩ : ∃ y, within n 3000 = y := ⟨_, rfl⟩
  have hy0 := within_nn n 3000 (by omega)
  have hy1 := within_lt n 3000 (by omega)
  rw [hy] at hy0 hy1
  obtain ⟨m, rfl⟩ : ∃ m : Nat, y = m := ⟨y.toNat, by omega⟩
  have HY := Lib.hid hy
  have HHq : Hid (isQ q = true ∨ isQ q = false) := Lib.hid (by cases isQ q <;> simp)
  clear hy hy0
  go_enter Try.func47, Try.ntmps47
  go_wp2_with fail
  refine (Within_any _ _ 3000 (by omega) (by omega)).mono ?_
  rintro e w' ⟨rfl, rfl⟩
  rw [HY.out]
  go_wp2_with fail
  refine (New_ok m w (by omega)).mono ?_
  rintro e w1 ⟨rfl, hM, hb1⟩
  have HM := Lib.hid hM
  have hz1 := hb1.size
  clear hM
  rcases HHq.out with hq | hq
  · have HQ := Lib.hid hq
    have hqr := isQ_range hq
    obtain ⟨qn, rfl⟩ : ∃ k : Nat, q = k := ⟨q.toNat, by omega⟩
    have hq1 : 1 ≤ qn ∧ qn ≤ 64 := by omega
    clear hq hqr HHq
    by_cases hs : (m : Int) < usedAt (qn : Int) + 4 + 8 * (qn : Int)
    · go_wp2_with (go_at_call 16; refine (num2_any _ _).mono ?_; rintro e w' ⟨rfl, rfl⟩)
      refine (NewDriver_limit w1 _ w.heap.size (qn : Int) _ HQ.out HM.out (by unfold sizeAt; simpa using hs)).mono ?_
      rintro e w2 ⟨rfl, hb2⟩
      go_wp2_with (go_at_call 16; refine (num2_any _ _).mono ?_; rintro e w' ⟨rfl, rfl⟩)
      refine (NewDevice_limit w2 _ w.heap.size (qn : Int) _ HQ.out (HM.out.belowH hb2) (by unfold sizeAt; simpa using hs)).mono ?_
      rintro e w3 ⟨rfl, hb3⟩
      have hbx := (hb1.trans (hb2.mono hz1)).trans (hb3.mono (Nat.le_trans hz1 hb2.size))
      go_wp2_with fail
      refine (rLayout_yes _ _ HQ.out).mono ?_
      rintro e w' ⟨rfl, rfl⟩
      go_wp2_with (go_at_call 16; refine (num2_any _ _).mono ?_; rintro e w' ⟨rfl, rfl⟩)
      go_ret2
      exact .inl ⟨rfl, hbx⟩
    · go_wp2_with (go_at_call 16; refine (num2_any _ _).mono ?_; rintro e w' ⟨rfl, rfl⟩)
      refine (NewDriver_ok w1 _ w.heap.size (qn : Int) _ HQ.out HM.out (by unfold sizeAt; simp; omega)).mono ?_
      rintro e w2 ⟨D, rfl, hb2, hD, bs, bw, bl, hbs, hbw, hbl, hDr⟩
      rw [Int.toNat_natCast] at hDr
      have HDr := Lib.hid hDr
      clear hDr
      go_wp2_with (go_at_call 16; refine (num2_any _ _).mono ?_; rintro e w' ⟨rfl, rfl⟩)
      refine (NewDevice_ok w2 _ w.heap.size (qn : Int) _ HQ.out (HM.out.belowH hb2) (by unfold sizeAt; simp; omega)).mono ?_
      rintro e w3 ⟨V, rfl, hb3, hV, hDev⟩
      have HDev := Lib.hid hDev
      have hz2 := hb2.size
      have hz3 := hb3.size
      have hbx := (hb1.trans (hb2.mono hz1)).trans (hb3.mono (Nat.le_trans hz1 hb2.size))
      clear hDev
      go_wp2_with fail
      refine (rLayout_yes _ _ HQ.out).mono ?_
      rintro e w' ⟨rfl, rfl⟩
      have hmk := run_make_row' (P := Try.prog) 39 5 (.int .u8 0) 1 Try.underlying39 info_u8 rfl .i64 .i64 m (by omega) (by omega)
      rw [made_u8] at hmk
      obtain ⟨L0, hL0⟩ : ∃ L, L = u8s (List.replicate m 0) := ⟨_, rfl⟩
      rw [← hL0] at hmk
      have HL0 := Lib.hid hL0
      clear hL0
      go_wp2_with (go_at_call 16; refine (num2_any _ _).mono ?_; rintro e w' ⟨rfl, rfl⟩)
      obtain ⟨w5, hw5⟩ : ∃ w5, w5 = (w3.alloc (.cells L0.toArray 5)).alloc (.cells #[.slice (some ⟨w3.heap.size, 0, none⟩) m m] 52) := ⟨_, rfl⟩
      rw [← hw5]
      have hb5 : Below w3.heap.size w3 w5 := hw5 ▸ ((Below.refl _ _).alloc (Nat.le_refl _) _).alloc (by simp) _
      have hz5 : w5.heap.size = w3.heap.size + 2 := by rw [hw5]; simp
      have HRM : Hid (MemAt 52 w5 (w3.heap.size + 1) w3.heap.size (List.replicate m 0)) := Lib.hid (by
        rw [hw5]
        refine ⟨?_, ?_⟩
        · have := Whole.new (w3.alloc (.cells L0.toArray 5)) 52 [.slice (some ⟨w3.heap.size, 0, none⟩) m m]
          simpa using this
        · rw [← HL0.out]
          exact (Whole.new w3 5 L0).alloc _)
      clear hw5 hmk HL0
      refine (rHalf_any w5 (w3.heap.size + 1) qn HQ.out).mono ?_
      rintro e w6 ⟨R1, t1, c1, v1, rfl, hR1, hb6, o1, o2, o3, o4⟩
      have HR1 := Lib.hid hR1
      have hz6 := hb6.size
      clear hR1
      go_wp2_with fail
      refine (rHalf_any w6 (w3.heap.size + 1) qn HQ.out).mono ?_
      rintro e w7 ⟨R2, t2, c2, v2, rfl, hR2, hb7, o5, o6, o7, o8⟩
      have HR2 := Lib.hid hR2
      have hz7 := hb7.size
      clear hR2
      go_wp2_with fail
      go_ret2
      have hDr := HDr.out
      obtain ⟨W, hW, hWA⟩ := hDr.way
      have a1 := hDr.head.ne hDr.busy (by decide)
      have a2 := hDr.head.ne_imap hW
      have a3 := hDr.head.ne_imap hDr.least
      have a4 := hDr.busy.ne_imap hW
      have a5 := hDr.busy.ne_imap hDr.least
      have a6 := hDr.ne
      have l1 := hDr.head.lt
      have l2 := hDr.busy.lt
      have l3 := hW.lt
      have l4 := hDr.least.lt
      have l5 := HDev.out.lt
      obtain ⟨n1, n2, n3, n4, n5, n6⟩ := HR1.out.nes
      obtain ⟨m1, m2, m3, m4, m5, m6⟩ := HR2.out.nes
      obtain ⟨C1, hC1, _⟩ := HR1.out.chain
      obtain ⟨C2, hC2, _⟩ := HR2.out.chain
      have p1 := HR1.out.head.lt
      have p2 := HR1.out.taken.lt
      have p3 := hC1.lt
      have p4 := HR1.out.writes.lt
      have q1 := HR2.out.head.lt
      have q2 := HR2.out.taken.lt
      have q3 := hC2.lt
      have q4 := HR2.out.writes.lt
      have z0 := HM.out.head.lt
      have hL : [w7.heap.size, D, bs, bw, bl, V, w.heap.size + 1, w.heap.size, w3.heap.size + 1, w3.heap.size, R1, t1, c1, v1, R2, t2, c2, v2].Nodup := by
        clear HM HY HDr HDev HRM HR1 HR2 HQ hDr hW hWA hC1 hC2 hb1 hb2 hb3 hb5 hb6 hb7 hbx hs
        simp only [List.nodup_cons, List.mem_cons, List.mem_nil_iff, or_false, not_or, not_false_iff, List.nodup_nil, and_true]
        repeat' apply And.intro
        all_goals omega
      have hA : ∀ x ∈ [w7.heap.size, D, bs, bw, bl, V, w.heap.size + 1, w.heap.size, w3.heap.size + 1, w3.heap.size, R1, t1, c1, v1, R2, t2, c2, v2], w.heap.size ≤ x ∧ x < w7.heap.size + 1 := by
        clear HM HY HDr HDev HRM HR1 HR2 HQ hDr hW hWA hC1 hC2 hb1 hb2 hb3 hb5 hb6 hb7 hbx hs hL
        simp only [List.forall_mem_cons, List.not_mem_nil, false_implies, implies_true, and_true]
        repeat' apply And.intro
        all_goals omega
      have b78 : Below w7.heap.size w7 (w7.alloc (.cells #[.pointer (some ⟨w.heap.size + 1, 0, none⟩), .pointer (some ⟨D, 0, none⟩), .pointer (some ⟨V, 0, none⟩), .pointer (some ⟨w3.heap.size + 1, 0, none⟩), .pointer (some ⟨R1, 0, none⟩), .pointer (some ⟨R2, 0, none⟩), .slice none 0 0] 138)) := (Below.refl _ _).alloc (Nat.le_refl _) _
      have b68 := (hb7.trans (b78.mono hz7))
      have b58 := (hb6.trans (b68.mono hz6))
      have b38 := (hb5.trans (b58.mono (by omega)))
      have b28 := (hb3.trans (b38.mono hz3))
      have b18 := (hb2.trans (b28.mono hz2))
      exact .inr ⟨fun i => [w7.heap.size, D, bs, bw, bl, V, w.heap.size + 1, w.heap.size, w3.heap.size + 1, w3.heap.size, R1, t1, c1, v1, R2, t2, c2, v2].getD i 0, qn, rfl, rfl,
        JX.start (n := m) (inj_list hL rfl) hq1 (by omega) (fun i hi => by have := all_list hA rfl i hi; simpa using this) (Whole.new _ _ _) (HM.out.belowH b18) (hDr.left (Left.of_below b28 []) (by simp) (by simp) (by simp) (by simp) (by simp)) (HDev.out.belowH b38) (HRM.out.belowH b58) (HR1.out.left0 (Left.of_below b68 _)) (HR2.out.left0 (Left.of_below b78 _)), hb1.trans (b18.mono hz1)⟩
  · have HQ := Lib.hid hq
    clear hq HHq
    go_wp2_with (go_at_call 16; refine (num2_any _ _).mono ?_; rintro e w' ⟨rfl, rfl⟩)
    refine (NewDriver_no w1 _ q HQ.out).mono ?_
    rintro e w2 ⟨rfl, hb2⟩
    go_wp2_with (go_at_call 16; refine (num2_any _ _).mono ?_; rintro e w' ⟨rfl, rfl⟩)
    refine (NewDevice_no w2 _ q HQ.out).mono ?_
    rintro e w3 ⟨rfl, hb3⟩
    have hbx := (hb1.trans (hb2.mono hz1)).trans (hb3.mono (Nat.le_trans hz1 hb2.size))
    go_wp2_with fail
    refine (rLayout_no _ _ HQ.out).mono ?_
    rintro e w' ⟨rfl, rfl⟩
    go_wp2_with (go_at_call 16; refine (num2_any _ _).mono ?_; rintro e w' ⟨rfl, rfl⟩)
    go_ret2
    exact .inl ⟨rfl, hbx⟩
open Go.RowKit Go.MapKept

theorem JX.mems {w : World} {base q : Nat} {s : Nat → Nat} {hv : Value} {hs : List Nat} (h : JX w base s q hv hs) : ∃ B, MemAt 114 w (s 6) (s 7) B ∧ MemAt 52 w (s 8) (s 9) B ∧ B.length ≤ 65536 := by
  obtain ⟨p, r, h1, h2⟩ := h
  obtain ⟨h3, _⟩ := h2
  exact ⟨p.B, h1.mem, h3 ▸ h1.rmem, h1.lenB.1⟩
set_option maxRecDepth 20000 in
set_option maxHeartbeats 1000000 in
theorem same_any (w : World) (base : Nat) (s : Nat → Nat) (q : Nat) (hv : Value) (hs : List Nat) (h : JX w base s q hv hs) :
    Calls Try.prog 49 #[.pointer (some ⟨s 0, 0, none⟩)] w fun e w' => e = .returned (.bool true) ∧ Left [] w w' := by
  obtain ⟨B, hM, hR, hl⟩ := h.mems
  have hW := h.hal.1
  have c0 : w.cell? ⟨s 0, 0, none⟩ = some (.pointer (some ⟨s 6, 0, none⟩)) := by rw [hW.cell]; rfl
  have HM := Lib.hid hM
  have HR := Lib.hid hR
  have HW := Lib.hid hW
  clear hM hR hW h
  go_enter Try.func49, Try.ntmps49
  go_upto_region 1 with fail
  refine wp_region_held_drew (S := fun wx => wx.cell? ⟨s 0, 0, none⟩ = some (.pointer (some ⟨s 6, 0, none⟩))) (by kernel_rfl) c0 (fun hHeld => ?_)
  refine take_h 0 ⟨?_, ?_, ?_, by kernel_rfl, by kernel_rfl, by kernel_rfl, ?_, ?_, by assumption, ?_⟩
  rotate_left 2
  · (simp only [List.getElem?_toArray, List.getElem?_cons_zero]; exact rfl)
  · exact fun _ _ _ h => h
  · first
      | (refine Or.inr ⟨by rfl, ?_⟩; exact rfl)
      | (refine Or.inl ⟨by rfl, ?_⟩
         intro w hSw
         (try dsimp only at hSw)
         (try go_split_ands)
         go_simp
         (first | done | with_reducible rfl))
  try simp only [Act.put, List.setIfInBounds_toArray, List.set_cons_zero, List.set_cons_succ]
  refine take_h 1 ⟨?_, ?_, ?_, by kernel_rfl, by kernel_rfl, by kernel_rfl, ?_, ?_, by assumption, ?_⟩
  rotate_left 2
  · (simp only [List.getElem?_toArray, List.getElem?_cons_succ, List.getElem?_cons_zero]; exact rfl)
  · exact fun _ _ _ h => h
  · first
      | (refine Or.inr ⟨by rfl, ?_⟩; exact rfl)
      | (refine Or.inl ⟨by rfl, ?_⟩
         intro w hSw
         (try dsimp only at hSw)
         (try go_split_ands)
         go_simp
         (first | done | with_reducible rfl))
  try simp only [Act.put, List.setIfInBounds_toArray, List.set_cons_zero, List.set_cons_succ]
  refine take_h 2 ⟨?_, ?_, ?_, by kernel_rfl, by kernel_rfl, by kernel_rfl, ?_, ?_, by assumption, ?_⟩
  rotate_left 2
  · (simp only [List.getElem?_toArray, List.getElem?_cons_succ, List.getElem?_cons_zero]; exact rfl)
  · exact fun _ _ _ h => h
  · first
      | (refine Or.inr ⟨by rfl, ?_⟩; exact rfl)
      | (refine Or.inl ⟨by rfl, ?_⟩
         intro w hSw
         (try dsimp only at hSw)
         (try go_split_ands)
         go_simp
         (first | done | with_reducible rfl))
  try simp only [Act.put, List.setIfInBounds_toArray, List.set_cons_zero, List.set_cons_succ]
  refine take_h 3 ⟨?_, ?_, ?_, by kernel_rfl, by kernel_rfl, by kernel_rfl, ?_, ?_, by assumption, ?_⟩
  rotate_left 2
  · (simp only [List.getElem?_toArray, List.getElem?_cons_succ, List.getElem?_cons_zero]; exact rfl)
  · exact fun _ _ _ h => h
  · first
      | (refine Or.inr ⟨by rfl, ?_⟩; exact rfl)
      | (refine Or.inl ⟨by rfl, ?_⟩
         intro w hSw
         (try dsimp only at hSw)
         (try go_split_ands)
         go_simp
         (first | done | with_reducible rfl))
  try simp only [Act.put, List.setIfInBounds_toArray, List.set_cons_zero, List.set_cons_succ]
  refine take_h 4 ⟨?_, ?_, ?_, by kernel_rfl, by kernel_rfl, by kernel_rfl, ?_, ?_, by assumption, ?_⟩
  rotate_left 2
  · (simp only [List.getElem?_toArray, List.getElem?_cons_succ, List.getElem?_cons_zero]; exact rfl)
  · exact fun _ _ _ h => h
  · first
      | (refine Or.inr ⟨by rfl, ?_⟩; exact rfl)
      | (refine Or.inl ⟨by rfl, ?_⟩
         intro w hSw
         (try dsimp only at hSw)
         (try go_split_ands)
         go_simp
         (first | done | with_reducible rfl))
  try simp only [Act.put, List.setIfInBounds_toArray, List.set_cons_zero, List.set_cons_succ]
  refine take_h 5 ⟨?_, ?_, ?_, by kernel_rfl, by kernel_rfl, by kernel_rfl, ?_, ?_, by assumption, ?_⟩
  rotate_left 2
  · (simp only [List.getElem?_toArray, List.getElem?_cons_succ, List.getElem?_cons_zero]; exact rfl)
  · exact fun _ _ _ h => h
  · first
      | (refine Or.inr ⟨by rfl, ?_⟩; exact rfl)
      | (refine Or.inl ⟨by rfl, ?_⟩
         intro w hSw
         (try dsimp only at hSw)
         (try go_split_ands)
         go_simp
         (first | done | with_reducible rfl))
  try simp only [Act.put, List.setIfInBounds_toArray, List.set_cons_zero, List.set_cons_succ]
  refine take_h 6 ⟨?_, ?_, ?_, by kernel_rfl, by kernel_rfl, by kernel_rfl, ?_, ?_, by assumption, ?_⟩
  rotate_left 2
  · (simp only [List.getElem?_toArray, List.getElem?_cons_succ, List.getElem?_cons_zero]; exact rfl)
  · exact fun _ _ _ h => h
  · first
      | (refine Or.inr ⟨by rfl, ?_⟩; exact rfl)
      | (refine Or.inl ⟨by rfl, ?_⟩
         intro w hSw
         (try dsimp only at hSw)
         (try go_split_ands)
         go_simp
         (first | done | with_reducible rfl))
  try simp only [Act.put, List.setIfInBounds_toArray, List.set_cons_zero, List.set_cons_succ]
  refine take_h 7 ⟨?_, ?_, ?_, by kernel_rfl, by kernel_rfl, by kernel_rfl, ?_, ?_, by assumption, ?_⟩
  rotate_left 2
  · (simp only [List.getElem?_toArray, List.getElem?_cons_succ, List.getElem?_cons_zero]; exact rfl)
  · exact fun _ _ _ h => h
  · first
      | (refine Or.inr ⟨by rfl, ?_⟩; exact rfl)
      | (refine Or.inl ⟨by rfl, ?_⟩
         intro w hSw
         (try dsimp only at hSw)
         (try go_split_ands)
         go_simp
         (first | done | with_reducible rfl))
  try simp only [Act.put, List.setIfInBounds_toArray, List.set_cons_zero, List.set_cons_succ]
  refine wpAnyH_ready (rs := [8]) (by kernel_rfl) (by simp) ?_
  refine call_h 8 ⟨?_, ?_, fun K hK => ?_⟩
  rotate_left 1
  · (simp only [List.getElem?_toArray, List.getElem?_cons_succ, List.getElem?_cons_zero]; exact rfl)
  go_simp
  (go_at_call 35; refine (Len_any w.drew _ (s 7) B HM.out.drew).mono ?_; rintro e w' ⟨rfl, rfl⟩)
  go_wp2_with fail
  refine hK.out _ _ c0 (fun hHeld => ?_)
  clear hK K
  (try simp only [Act.put, List.setIfInBounds_toArray, List.set_cons_zero, List.set_cons_succ])
  refine wpAnyH_ready (rs := [9]) (by kernel_rfl) (by simp) ?_
  refine call_h 9 ⟨?_, ?_, fun K hK => ?_⟩
  rotate_left 1
  · (simp only [List.getElem?_toArray, List.getElem?_cons_succ, List.getElem?_cons_zero]; exact rfl)
  go_simp
  (go_at_call 22; refine (Read_any w.drew _ (s 7) B 0 B.length HM.out.drew hl (by omega)).mono ?_; rintro e w1 ⟨v1, rfl, hown, hb⟩)
  go_wp2_with fail
  rw [(readB_all B B.length rfl).1]
  rw [(readB_all B B.length rfl).2] at hown
  have hb' : Below w.heap.size w w1 := ⟨hb.os, hb.tape, hb.output, hb.size, hb.block⟩
  have c0' := cell_bel c0 hb'
  have HO := Lib.hid hown
  obtain ⟨ao, cap, rfl, hcp, hcm⟩ := (Rd.of_own hown).form
  clear hown hcm
  refine hK.out _ _ c0' (fun hHeld => ?_)
  clear hK K
  (try simp only [Act.put, List.setIfInBounds_toArray, List.set_cons_zero, List.set_cons_succ])
  refine take_h 10 ⟨?_, ?_, ?_, by kernel_rfl, by kernel_rfl, by kernel_rfl, ?_, ?_, by assumption, ?_⟩
  rotate_left 2
  · (simp only [List.getElem?_toArray, List.getElem?_cons_succ, List.getElem?_cons_zero]; exact rfl)
  · exact fun _ _ _ h => h
  · first
      | (refine Or.inr ⟨by rfl, ?_⟩; exact rfl)
      | (refine Or.inl ⟨by rfl, ?_⟩
         intro w hSw
         (try dsimp only at hSw)
         (try go_split_ands)
         go_simp
         (first | done | with_reducible rfl))
  try simp only [Act.put, List.setIfInBounds_toArray, List.set_cons_zero, List.set_cons_succ]
  refine take_h 11 ⟨?_, ?_, ?_, by kernel_rfl, by kernel_rfl, by kernel_rfl, ?_, ?_, by assumption, ?_⟩
  rotate_left 2
  · (simp only [List.getElem?_toArray, List.getElem?_cons_succ, List.getElem?_cons_zero]; exact rfl)
  · exact fun _ _ _ h => h
  · first
      | (refine Or.inr ⟨by rfl, ?_⟩; exact rfl)
      | (refine Or.inl ⟨by rfl, ?_⟩
         intro w hSw
         (try dsimp only at hSw)
         (try go_split_ands)
         go_simp
         (first | done | with_reducible rfl))
  try simp only [Act.put, List.setIfInBounds_toArray, List.set_cons_zero, List.set_cons_succ]
  refine take_h 12 ⟨?_, ?_, ?_, by kernel_rfl, by kernel_rfl, by kernel_rfl, ?_, ?_, by assumption, ?_⟩
  rotate_left 2
  · (simp only [List.getElem?_toArray, List.getElem?_cons_succ, List.getElem?_cons_zero]; exact rfl)
  · exact fun _ _ _ h => h
  · first
      | (refine Or.inr ⟨by rfl, ?_⟩; exact rfl)
      | (refine Or.inl ⟨by rfl, ?_⟩
         intro w hSw
         (try dsimp only at hSw)
         (try go_split_ands)
         go_simp
         (first | done | with_reducible rfl))
  try simp only [Act.put, List.setIfInBounds_toArray, List.set_cons_zero, List.set_cons_succ]
  refine take_h 13 ⟨?_, ?_, ?_, by kernel_rfl, by kernel_rfl, by kernel_rfl, ?_, ?_, by assumption, ?_⟩
  rotate_left 2
  · (simp only [List.getElem?_toArray, List.getElem?_cons_succ, List.getElem?_cons_zero]; exact rfl)
  · exact fun _ _ _ h => h
  · first
      | (refine Or.inr ⟨by rfl, ?_⟩; exact rfl)
      | (refine Or.inl ⟨by rfl, ?_⟩
         intro w hSw
         (try dsimp only at hSw)
         (try go_split_ands)
         go_simp
         (first | done | with_reducible rfl))
  try simp only [Act.put, List.setIfInBounds_toArray, List.set_cons_zero, List.set_cons_succ]
  refine take_h 14 ⟨?_, ?_, ?_, by kernel_rfl, by kernel_rfl, by kernel_rfl, ?_, ?_, by assumption, ?_⟩
  rotate_left 2
  · (simp only [List.getElem?_toArray, List.getElem?_cons_succ, List.getElem?_cons_zero]; exact rfl)
  · exact fun _ _ _ h => h
  · first
      | (refine Or.inr ⟨by rfl, ?_⟩; exact rfl)
      | (refine Or.inl ⟨by rfl, ?_⟩
         intro w hSw
         (try dsimp only at hSw)
         (try go_split_ands)
         go_simp
         (first | done | with_reducible rfl))
  try simp only [Act.put, List.setIfInBounds_toArray, List.set_cons_zero, List.set_cons_succ]
  refine wpAnyH_done (by kernel_rfl) ?_ _
  clear hHeld
  have hW1 := HW.out.belowH hb'
  have d3 : w1.cell? ⟨s 0, 3, none⟩ = some (.pointer (some ⟨s 8, 0, none⟩)) := by rw [hW1.cell]; rfl
  have hR1 := HR.out.belowH hb'
  have d8 : w1.cell? ⟨s 8, 0, none⟩ = some (.slice (some ⟨s 9, 0, none⟩) B.length B.length) := by rw [hR1.head.cell]; rfl
  have HR2 := Lib.hid (Rd.of_whole hR1.bytes (by rw [u8s_length]; unfold maxLen; omega))
  have hb0 : Left [] w w1 := Left.of_below hb' []
  rw [u8s_length] at HR2
  clear hW1 hR1 hb hb' c0 c0'
  go_wp2_with (first | (go_at_call 16; refine (num2_any _ _).mono ?_; rintro e w' ⟨rfl, rfl⟩) | (go_at_call 29; refine (EqBytes_any w1 _ _ B B _ _ (Rd.of_own HO.out) HR2.out).mono ?_; rintro e w2 ⟨rfl, hb2⟩; rw [decide_eq_true rfl]))
  go_ret
  exact ⟨rfl, hb0.trans (Left.of_below hb2 []) (by simp)⟩

theorem does_any (w : World) (base : Nat) (s : Nat → Nat) (q : Nat) (hv : Value) (hs : List Nat) (dk n at_ : Int) (lv : Value) (v : Nat) (L : List Buf) (h : JX w base s q hv hs) (hlen : hs.length ≤ 100) (hL : Rd w base 3 lv L.length (bufCells L)) (hLl : L.length ≤ 3000) (kind : Int) (hk : 0 ≤ kind ∧ kind ≤ 11) :
    Calls Try.prog 48 #[.pointer (some ⟨s 0, 0, none⟩), .agg #[.int .i64 dk, .int .i64 n, .int .i64 at_, lv, .int .u64 v], .int .i64 kind] w (DoesH base s q hs w) := by
  have hc : (kind = 0 ∨ kind = 1 ∨ kind = 2) ∨ (kind = 3 ∨ kind = 4 ∨ kind = 5) ∨ (kind = 6 ∨ kind = 7 ∨ kind = 8) ∨ (kind = 9 ∨ kind = 10) ∨ kind = 11 := by omega
  rcases hc with h1 | h1 | h1 | h1 | rfl
  · exact does_add w base s q hv hs dk n at_ lv v L h hlen hL hLl kind h1
  · exact does_used w base s q hv hs dk n at_ lv v h kind h1
  · exact does_pop w base s q hv hs dk n at_ lv v h hlen kind h1
  · exact does_push w base s q hv hs dk n at_ lv v h hlen kind h1
  · exact does_put w base s q hv hs dk n at_ lv v h hlen

theorem act2_get {w : World} {Bd : Nat} {ao : Option Addr} {n cap : Nat} {acts : List Act2} (h : ActsAt2 w Bd (.slice ao n cap) acts) {i : Nat} {a : Act2} (ha : acts[i]? = some a) : ∃ b o, ao = some ⟨b, o, none⟩ ∧ ActAt2 w Bd b (o + i * 5) a := by
  obtain ⟨ao', cap', e, _, _, h4⟩ := h
  injection e with e1 _ _
  subst e1
  exact h4 i a ha

set_option maxRecDepth 20000 in
set_option maxHeartbeats 4000000 in
theorem RingExact_any (M N : Int) (lv : Value) (acts : List Act2) (w : World) (h : ActsAt2 w w.heap.size lv acts) (hs : ∀ (i : Nat) (a : Act2), acts[i]? = some a → a.L.length * 24 ≤ reachBytes) :
    Calls Try.prog 10 #[.agg #[.int .i64 M, .int .i64 N, lv]] w fun e w' => e = .returned (.bool true) ∧ Below w.heap.size w w' := by
  obtain ⟨ao, cap, rfl, hc1, hc2, hacts⟩ := h
  have HS : Hid (ActsAt2 w w.heap.size (.slice ao acts.length cap) acts) := Lib.hid ⟨ao, cap, rfl, hc1, hc2, hacts⟩
  have HZ := Lib.hid hs
  clear hacts hs
  go_enter Try.func10, Try.ntmps10
  go_wp2_with fail
  have hW0 := Whole.new w 66 [.int .i64 M, .int .i64 N, .slice ao acts.length cap]
  have hbx0 := (Below.refl w.heap.size w).alloc (Nat.le_refl _) (.cells #[.int .i64 M, .int .i64 N, .slice ao acts.length cap] 66)
  have hz0 : (w.alloc (.cells #[.int .i64 M, .int .i64 N, .slice ao acts.length cap] 66)).heap.size = w.heap.size + 1 := by simp
  have HSA := HS.out.below hbx0
  generalize w.alloc (.cells #[.int .i64 M, .int .i64 N, .slice ao acts.length cap] 66) = wa at hW0 hbx0 hz0 HSA ⊢
  have hSA : ActsAt2 wa wa.heap.size (.slice ao acts.length cap) acts := by
    obtain ⟨ao', cap', e, h1, h2, h3⟩ := HSA
    refine ⟨ao', cap', e, h1, h2, fun i a ha => ?_⟩
    obtain ⟨b, o, e', q0, q1, q2, lv, q3, q4, q5, q6, q7⟩ := h3 i a ha
    exact ⟨b, o, e', q0, q1, q2, lv, q3, q4, q5.more (by omega), by omega, q7⟩
  refine (heavy2_any wa M N (.slice ao acts.length cap) acts hSA HZ.out).mono ?_
  rintro e w1 ⟨hv, rfl, hlight, hb1⟩
  have hW1 := hW0.belowH hb1
  have HL := Lib.hid hlight
  have hz1 := hb1.size
  have HS1 := Lib.hid (HSA.below (hb1.mono (by omega)))
  clear hlight hW0 HSA hSA HS
  cases hv
  · have c0 : w1.cell? ⟨w.heap.size, 0, none⟩ = some (.int .i64 M) := by rw [hW1.cell]; rfl
    have c1 : w1.cell? ⟨w.heap.size, 1, none⟩ = some (.int .i64 N) := by rw [hW1.cell]; rfl
    go_wp2_with fail
    refine (lopen_any w1 M N).mono ?_
    rintro e w2 (⟨rfl, hb2⟩ | ⟨s, q, hq0, rfl, hJ, hb2⟩)
    · have hbx := (hbx0.trans (hb1.mono (by omega))).trans (hb2.mono (by omega))
      clear c0 c1
      go_wp2
      go_loopw [5] (fun i wr => i = .int .i64 0 ∧ wr = w2) (fun _ _ => 1)
      case atStart => exact ⟨rfl, rfl⟩
      case round =>
        obtain ⟨rfl, rfl⟩ := hrel
        go_wp2_with fail
        refine (wakes_any wr).mono ?_
        rintro e wz ⟨rfl, hbz⟩
        go_wp2
        go_ret
        exact ⟨rfl, hbx.trans (hbz.mono hbx.size)⟩
    · clear hq0
      have HJ := Lib.hid hJ
      have HW1 := Lib.hid hW1
      have hlz : w.heap.size < w1.heap.size := hW1.lt
      have hbx := hbx0.trans (hb1.mono (by omega))
      have hz2 := hb2.size
      clear hJ c0 c1 hW1
      go_wp2
      go_loopw [5] (fun i wr => ∃ (k : Nat) (hv : Value) (hs : List Nat), i = .int .i64 k ∧ k ≤ 40 ∧ hs.length ≤ k ∧ Hid (JX wr w1.heap.size s q hv hs) ∧ Below w1.heap.size w1 wr) (fun i _ => 40 - (intOf i).toNat)
      case atStart => exact ⟨0, _, _, rfl, by omega, by simp, HJ, hb2⟩
      case round =>
        obtain ⟨k, hv, hs, rfl, hk, hhs, HJk, hbk⟩ := hrel
        have hWk : Whole wr w.heap.size 66 [.int .i64 M, .int .i64 N, .slice ao acts.length cap] := HW1.out.below hbk hlz
        have k2 : wr.cell? ⟨w.heap.size, 2, none⟩ = some (.slice ao acts.length cap) := by rw [hWk.cell]; rfl
        clear hWk
        have hzk := hbk.size
        by_cases hlt : k < acts.length ∧ k < 40
        · obtain ⟨hlt1, hlt2⟩ := hlt
          obtain ⟨a, ha⟩ : ∃ a, acts[k]? = some a := ⟨_, List.getElem?_eq_getElem hlt1⟩
          obtain ⟨b, o, e0, hA⟩ := act2_get HS1.out ha
          subst e0
          obtain ⟨d0, d1, d2, bv, d3, d4, hr, hbl, hu⟩ := hA.below (hbk.mono (Nat.le_of_lt hlz))
          have hl3 := (HL.out trivial).2 k a ha
          have HR := Lib.hid (hr.more (Nat.le_of_lt hlz))
          have hbl1 : b < w1.heap.size := Nat.lt_trans hbl hlz
          clear ha hA hr hu hbl
          obtain ⟨y, hy⟩ : ∃ y, within a.dk 11 = y := ⟨_, rfl⟩
          have hy0 := within_nn a.dk 11 (by omega)
          have hy1 := within_lt a.dk 11 (by omega)
          rw [hy] at hy0 hy1
          have HY := Lib.hid hy
          clear hy
          go_upto_region 7 with fail
          refine wp_region_held_drew (S := fun wx => wx.cell? ⟨w.heap.size, 2, none⟩ = some (.slice (some ⟨b, o, none⟩) acts.length cap) ∧ wx.cell? ⟨b, o + k * 5, none⟩ = some (.int .i64 a.dk) ∧ wx.cell? ⟨b, o + k * 5 + 1, none⟩ = some (.int .i64 a.n) ∧ wx.cell? ⟨b, o + k * 5 + 2, none⟩ = some (.int .i64 a.at_) ∧ wx.cell? ⟨b, o + k * 5 + 3, none⟩ = some bv ∧ wx.cell? ⟨b, o + k * 5 + 4, none⟩ = some (.int .u64 a.v)) (by kernel_rfl) ⟨k2, d0, d1, d2, d3, d4⟩ (fun hHeld => ?_)
          refine take_h 0 ⟨?_, ?_, ?_, by kernel_rfl, by kernel_rfl, by kernel_rfl, ?_, ?_, by assumption, ?_⟩
          rotate_left 2
          · (simp only [List.getElem?_toArray, List.getElem?_cons_zero]; exact rfl)
          · exact fun _ _ _ h => h
          · first
              | (refine Or.inr ⟨by rfl, ?_⟩; exact rfl)
              | (refine Or.inl ⟨by rfl, ?_⟩
                 intro w hSw
                 (try dsimp only at hSw)
                 (try go_split_ands)
                 go_simp
                 (first | done | with_reducible rfl))
          try simp only [Act.put, List.setIfInBounds_toArray, List.set_cons_zero, List.set_cons_succ]
          refine take_h 1 ⟨?_, ?_, ?_, by kernel_rfl, by kernel_rfl, by kernel_rfl, ?_, ?_, by assumption, ?_⟩
          rotate_left 2
          · (simp only [List.getElem?_toArray, List.getElem?_cons_succ, List.getElem?_cons_zero]; exact rfl)
          · exact fun _ _ _ h => h
          · first
              | (refine Or.inr ⟨by rfl, ?_⟩; exact rfl)
              | (refine Or.inl ⟨by rfl, ?_⟩
                 intro w hSw
                 (try dsimp only at hSw)
                 (try go_split_ands)
                 go_simp
                 (first | done | with_reducible rfl))
          try simp only [Act.put, List.setIfInBounds_toArray, List.set_cons_zero, List.set_cons_succ]
          refine take_h 2 ⟨?_, ?_, ?_, by kernel_rfl, by kernel_rfl, by kernel_rfl, ?_, ?_, by assumption, ?_⟩
          rotate_left 2
          · (simp only [List.getElem?_toArray, List.getElem?_cons_succ, List.getElem?_cons_zero]; exact rfl)
          · exact fun _ _ _ h => h
          · first
              | (refine Or.inr ⟨by rfl, ?_⟩; exact rfl)
              | (refine Or.inl ⟨by rfl, ?_⟩
                 intro w hSw
                 (try dsimp only at hSw)
                 (try go_split_ands)
                 go_simp
                 (first | done | with_reducible rfl))
          try simp only [Act.put, List.setIfInBounds_toArray, List.set_cons_zero, List.set_cons_succ]
          refine take_h 3 ⟨?_, ?_, ?_, by kernel_rfl, by kernel_rfl, by kernel_rfl, ?_, ?_, by assumption, ?_⟩
          rotate_left 2
          · (simp only [List.getElem?_toArray, List.getElem?_cons_succ, List.getElem?_cons_zero]; exact rfl)
          · exact fun _ _ _ h => h
          · first
              | (refine Or.inr ⟨by rfl, ?_⟩; exact rfl)
              | (refine Or.inl ⟨by rfl, ?_⟩
                 intro w hSw
                 (try dsimp only at hSw)
                 (try go_split_ands)
                 go_simp
                 (first | done | with_reducible rfl))
          try simp only [Act.put, List.setIfInBounds_toArray, List.set_cons_zero, List.set_cons_succ]
          refine take_h 4 ⟨?_, ?_, ?_, by kernel_rfl, by kernel_rfl, by kernel_rfl, ?_, ?_, by assumption, ?_⟩
          rotate_left 2
          · (simp only [List.getElem?_toArray, List.getElem?_cons_succ, List.getElem?_cons_zero]; exact rfl)
          · exact fun _ _ _ h => h
          · first
              | (refine Or.inr ⟨by rfl, ?_⟩; exact rfl)
              | (refine Or.inl ⟨by rfl, ?_⟩
                 intro w hSw
                 (try dsimp only at hSw)
                 (try go_split_ands)
                 go_simp
                 (first | done | with_reducible rfl))
          try simp only [Act.put, List.setIfInBounds_toArray, List.set_cons_zero, List.set_cons_succ]
          refine take_h 5 ⟨?_, ?_, ?_, by kernel_rfl, by kernel_rfl, by kernel_rfl, ?_, ?_, by assumption, ?_⟩
          rotate_left 2
          · (simp only [List.getElem?_toArray, List.getElem?_cons_succ, List.getElem?_cons_zero]; exact rfl)
          · exact fun _ _ _ h => h
          · first
              | (refine Or.inr ⟨by rfl, ?_⟩; exact rfl)
              | (refine Or.inl ⟨by rfl, ?_⟩
                 intro w hSw
                 (try dsimp only at hSw)
                 (try go_split_ands)
                 go_simp
                 (first | done | with_reducible rfl))
          try simp only [Act.put, List.setIfInBounds_toArray, List.set_cons_zero, List.set_cons_succ]
          refine take_h 6 ⟨?_, ?_, ?_, by kernel_rfl, by kernel_rfl, by kernel_rfl, ?_, ?_, by assumption, ?_⟩
          rotate_left 2
          · (simp only [List.getElem?_toArray, List.getElem?_cons_succ, List.getElem?_cons_zero]; exact rfl)
          · exact fun _ _ _ h => h
          · first
              | (refine Or.inr ⟨by rfl, ?_⟩; exact rfl)
              | (refine Or.inl ⟨by rfl, ?_⟩
                 intro w hSw
                 (try dsimp only at hSw)
                 (try go_split_ands)
                 go_simp
                 (first | done | with_reducible rfl))
          try simp only [Act.put, List.setIfInBounds_toArray, List.set_cons_zero, List.set_cons_succ]
          refine take_h 7 ⟨?_, ?_, ?_, by kernel_rfl, by kernel_rfl, by kernel_rfl, ?_, ?_, by assumption, ?_⟩
          rotate_left 2
          · (simp only [List.getElem?_toArray, List.getElem?_cons_succ, List.getElem?_cons_zero]; exact rfl)
          · exact fun _ _ _ h => h
          · first
              | (refine Or.inr ⟨by rfl, ?_⟩; exact rfl)
              | (refine Or.inl ⟨by rfl, ?_⟩
                 intro w hSw
                 (try dsimp only at hSw)
                 (try go_split_ands)
                 go_simp
                 (first | done | with_reducible rfl))
          try simp only [Act.put, List.setIfInBounds_toArray, List.set_cons_zero, List.set_cons_succ]
          refine take_h 8 ⟨?_, ?_, ?_, by kernel_rfl, by kernel_rfl, by kernel_rfl, ?_, ?_, by assumption, ?_⟩
          rotate_left 2
          · (simp only [List.getElem?_toArray, List.getElem?_cons_succ, List.getElem?_cons_zero]; exact rfl)
          · exact fun _ _ _ h => h
          · first
              | (refine Or.inr ⟨by rfl, ?_⟩; exact rfl)
              | (refine Or.inl ⟨by rfl, ?_⟩
                 intro w hSw
                 (try dsimp only at hSw)
                 (try go_split_ands)
                 go_simp
                 (first | done | with_reducible rfl))
          try simp only [Act.put, List.setIfInBounds_toArray, List.set_cons_zero, List.set_cons_succ]
          refine take_h 9 ⟨?_, ?_, ?_, by kernel_rfl, by kernel_rfl, by kernel_rfl, ?_, ?_, by assumption, ?_⟩
          rotate_left 2
          · (simp only [List.getElem?_toArray, List.getElem?_cons_succ, List.getElem?_cons_zero]; exact rfl)
          · exact fun _ _ _ h => h
          · first
              | (refine Or.inr ⟨by rfl, ?_⟩; exact rfl)
              | (refine Or.inl ⟨by rfl, ?_⟩
                 intro w hSw
                 (try dsimp only at hSw)
                 (try go_split_ands)
                 go_simp
                 (first | done | with_reducible rfl))
          try simp only [Act.put, List.setIfInBounds_toArray, List.set_cons_zero, List.set_cons_succ]
          refine take_h 10 ⟨?_, ?_, ?_, by kernel_rfl, by kernel_rfl, by kernel_rfl, ?_, ?_, by assumption, ?_⟩
          rotate_left 2
          · (simp only [List.getElem?_toArray, List.getElem?_cons_succ, List.getElem?_cons_zero]; exact rfl)
          · exact fun _ _ _ h => h
          · first
              | (refine Or.inr ⟨by rfl, ?_⟩; exact rfl)
              | (refine Or.inl ⟨by rfl, ?_⟩
                 intro w hSw
                 (try dsimp only at hSw)
                 (try go_split_ands)
                 go_simp
                 (first | done | with_reducible rfl))
          try simp only [Act.put, List.setIfInBounds_toArray, List.set_cons_zero, List.set_cons_succ]
          refine take_h 11 ⟨?_, ?_, ?_, by kernel_rfl, by kernel_rfl, by kernel_rfl, ?_, ?_, by assumption, ?_⟩
          rotate_left 2
          · (simp only [List.getElem?_toArray, List.getElem?_cons_succ, List.getElem?_cons_zero]; exact rfl)
          · exact fun _ _ _ h => h
          · first
              | (refine Or.inr ⟨by rfl, ?_⟩; exact rfl)
              | (refine Or.inl ⟨by rfl, ?_⟩
                 intro w hSw
                 (try dsimp only at hSw)
                 (try go_split_ands)
                 go_simp
                 (first | done | with_reducible rfl))
          try simp only [Act.put, List.setIfInBounds_toArray, List.set_cons_zero, List.set_cons_succ]
          refine wpAnyH_ready (rs := [12]) (by kernel_rfl) (by simp) ?_
          refine call_h 12 ⟨?_, ?_, fun K hK => ?_⟩
          rotate_left 1
          · (simp only [List.getElem?_toArray, List.getElem?_cons_succ, List.getElem?_cons_zero]; exact rfl)
          go_simp
          (go_at_call 21; refine (Within_any _ _ 11 (by omega) (by omega)).mono ?_; rintro e w' ⟨rfl, rfl⟩; rw [HY.out])
          go_wp2_with fail
          refine hK.out _ _ ⟨k2, d0, d1, d2, d3, d4⟩ (fun hHeld => ?_)
          clear hK K
          (try simp only [Act.put, List.setIfInBounds_toArray, List.set_cons_zero, List.set_cons_succ])
          refine wpAnyH_ready (rs := [13]) (by kernel_rfl) (by simp) ?_
          refine call_h 13 ⟨?_, ?_, fun K hK => ?_⟩
          rotate_left 1
          · (simp only [List.getElem?_toArray, List.getElem?_cons_succ, List.getElem?_cons_zero]; exact rfl)
          go_simp
          (go_at_call 48; refine (does_any wr.drew w1.heap.size s q hv hs a.dk a.n a.at_ bv a.v a.L (HJk.out.left0 ((Left.refl [] _).drew)) (by omega) (show Rd wr.drew _ 3 bv _ _ from HR.out) hl3 y (by omega)).mono ?_; rintro e wd ⟨rfl, ⟨hv', hs', hJ', hle⟩, hbd⟩)
          go_wp2_with fail
          have HJd := Lib.hid hJ'
          have f2 := (hbd.cell (p := ⟨w.heap.size, 2, none⟩) hlz).trans k2
          have f0 := (hbd.cell (p := ⟨b, o + k * 5, none⟩) hbl1).trans d0
          have f1 := (hbd.cell (p := ⟨b, o + k * 5 + 1, none⟩) hbl1).trans d1
          have f3 := (hbd.cell (p := ⟨b, o + k * 5 + 2, none⟩) hbl1).trans d2
          have f4 := (hbd.cell (p := ⟨b, o + k * 5 + 3, none⟩) hbl1).trans d3
          have f5 := (hbd.cell (p := ⟨b, o + k * 5 + 4, none⟩) hbl1).trans d4
          have hbd' : Below w1.heap.size wr wd := ⟨hbd.os, hbd.tape, hbd.output, hbd.size, hbd.block⟩
          have hbD := hbk.trans hbd'
          clear hJ' hbd hbd' k2 d0 d1 d2 d3 d4
          refine hK.out _ _ ⟨f2, f0, f1, f3, f4, f5⟩ (fun hHeld => ?_)
          clear hK K
          (try simp only [Act.put, List.setIfInBounds_toArray, List.set_cons_zero, List.set_cons_succ])
          refine take_h 14 ⟨?_, ?_, ?_, by kernel_rfl, by kernel_rfl, by kernel_rfl, ?_, ?_, by assumption, ?_⟩
          rotate_left 2
          · (simp only [List.getElem?_toArray, List.getElem?_cons_succ, List.getElem?_cons_zero]; exact rfl)
          · exact fun _ _ _ h => h
          · first
              | (refine Or.inr ⟨by rfl, ?_⟩; exact rfl)
              | (refine Or.inl ⟨by rfl, ?_⟩
                 intro w hSw
                 (try dsimp only at hSw)
                 (try go_split_ands)
                 go_simp
                 (first | done | with_reducible rfl))
          try simp only [Act.put, List.setIfInBounds_toArray, List.set_cons_zero, List.set_cons_succ]
          refine take_h 15 ⟨?_, ?_, ?_, by kernel_rfl, by kernel_rfl, by kernel_rfl, ?_, ?_, by assumption, ?_⟩
          rotate_left 2
          · (simp only [List.getElem?_toArray, List.getElem?_cons_succ, List.getElem?_cons_zero]; exact rfl)
          · exact fun _ _ _ h => h
          · first
              | (refine Or.inr ⟨by rfl, ?_⟩; exact rfl)
              | (refine Or.inl ⟨by rfl, ?_⟩
                 intro w hSw
                 (try dsimp only at hSw)
                 (try go_split_ands)
                 go_simp
                 (first | done | with_reducible rfl))
          try simp only [Act.put, List.setIfInBounds_toArray, List.set_cons_zero, List.set_cons_succ]
          refine take_h 16 ⟨?_, ?_, ?_, by kernel_rfl, by kernel_rfl, by kernel_rfl, ?_, ?_, by assumption, ?_⟩
          rotate_left 2
          · (simp only [List.getElem?_toArray, List.getElem?_cons_succ, List.getElem?_cons_zero]; exact rfl)
          · exact fun _ _ _ h => h
          · first
              | (refine Or.inr ⟨by rfl, ?_⟩; exact rfl)
              | (refine Or.inl ⟨by rfl, ?_⟩
                 intro w hSw
                 (try dsimp only at hSw)
                 (try go_split_ands)
                 go_simp
                 (first | done | with_reducible rfl))
          try simp only [Act.put, List.setIfInBounds_toArray, List.set_cons_zero, List.set_cons_succ]
          refine wpAnyH_ready (rs := [17]) (by kernel_rfl) (by simp) ?_
          refine call_h 17 ⟨?_, ?_, fun K hK => ?_⟩
          rotate_left 1
          · (simp only [List.getElem?_toArray, List.getElem?_cons_succ, List.getElem?_cons_zero]; exact rfl)
          go_simp
          (go_at_call 49; refine (same_any wd w1.heap.size s q hv' hs' HJd.out).mono ?_; rintro e we ⟨rfl, hle2⟩)
          go_wp2_with fail
          have HJe := Lib.hid (HJd.out.left0 hle2)
          have hbE := hbD.trans (hle2.belowB hbD.size (by simp))
          have g2 := (hle2.below.cell (p := ⟨w.heap.size, 2, none⟩) (World.block_lt_of_cell? _ _ f2)).trans f2
          have g0 := (hle2.below.cell (p := ⟨b, o + k * 5, none⟩) (World.block_lt_of_cell? _ _ f0)).trans f0
          have g1 := (hle2.below.cell (p := ⟨b, o + k * 5 + 1, none⟩) (World.block_lt_of_cell? _ _ f1)).trans f1
          have g3 := (hle2.below.cell (p := ⟨b, o + k * 5 + 2, none⟩) (World.block_lt_of_cell? _ _ f3)).trans f3
          have g4 := (hle2.below.cell (p := ⟨b, o + k * 5 + 3, none⟩) (World.block_lt_of_cell? _ _ f4)).trans f4
          have g5 := (hle2.below.cell (p := ⟨b, o + k * 5 + 4, none⟩) (World.block_lt_of_cell? _ _ f5)).trans f5
          clear hle2 f0 f1 f2 f3 f4 f5
          refine hK.out _ _ ⟨g2, g0, g1, g3, g4, g5⟩ (fun hHeld => ?_)
          clear hK K
          (try simp only [Act.put, List.setIfInBounds_toArray, List.set_cons_zero, List.set_cons_succ])
          refine take_h 18 ⟨?_, ?_, ?_, by kernel_rfl, by kernel_rfl, by kernel_rfl, ?_, ?_, by assumption, ?_⟩
          rotate_left 2
          · (simp only [List.getElem?_toArray, List.getElem?_cons_succ, List.getElem?_cons_zero]; exact rfl)
          · exact fun _ _ _ h => h
          · first
              | (refine Or.inr ⟨by rfl, ?_⟩; exact rfl)
              | (refine Or.inl ⟨by rfl, ?_⟩
                 intro w hSw
                 (try dsimp only at hSw)
                 (try go_split_ands)
                 go_simp
                 (first | done | with_reducible rfl))
          try simp only [Act.put, List.setIfInBounds_toArray, List.set_cons_zero, List.set_cons_succ]
          refine take_h 19 ⟨?_, ?_, ?_, by kernel_rfl, by kernel_rfl, by kernel_rfl, ?_, ?_, by assumption, ?_⟩
          rotate_left 2
          · (simp only [List.getElem?_toArray, List.getElem?_cons_succ, List.getElem?_cons_zero]; exact rfl)
          · exact fun _ _ _ h => h
          · first
              | (refine Or.inr ⟨by rfl, ?_⟩; exact rfl)
              | (refine Or.inl ⟨by rfl, ?_⟩
                 intro w hSw
                 (try dsimp only at hSw)
                 (try go_split_ands)
                 go_simp
                 (first | done | with_reducible rfl))
          try simp only [Act.put, List.setIfInBounds_toArray, List.set_cons_zero, List.set_cons_succ]
          refine wpAnyH_done (by kernel_rfl) ?_ _
          clear hHeld g0 g1 g2 g3 g4 g5
          go_wp2
          go_roundw
          case rel => exact ⟨k + 1, hv', hs', by go_num, by omega, by omega, HJe, hbE⟩
          case measure => simp [intOf]; omega
        · by_cases hl1 : k < acts.length
          · have hl2 : ¬ (k < 40) := by omega
            clear hlt
            go_wp2_with fail
            refine (wakes_any wr).mono ?_
            rintro e wz ⟨rfl, hbz⟩
            go_wp2
            go_ret
            exact ⟨rfl, hbx.trans ((hbk.mono (by omega)).trans (hbz.mono (by omega)))⟩
          · clear hlt
            go_wp2_with fail
            refine (wakes_any wr).mono ?_
            rintro e wz ⟨rfl, hbz⟩
            go_wp2
            go_ret
            exact ⟨rfl, hbx.trans ((hbk.mono (by omega)).trans (hbz.mono (by omega)))⟩
  · go_wp2
    go_ret
    exact ⟨rfl, hbx0.trans (hb1.mono (by omega))⟩
set_option maxRecDepth 20000 in
set_option maxHeartbeats 4000000 in
theorem RingSpoilt_any (M N : Int) (lv : Value) (acts : List Act2) (w : World) (h : ActsAt2 w w.heap.size lv acts) (hs : ∀ (i : Nat) (a : Act2), acts[i]? = some a → a.L.length * 24 ≤ reachBytes) :
    Calls Try.prog 11 #[.agg #[.int .i64 M, .int .i64 N, lv]] w fun e w' => e = .returned (.bool true) ∧ Below w.heap.size w w' := by
  obtain ⟨ao, cap, rfl, hc1, hc2, hacts⟩ := h
  have HS : Hid (ActsAt2 w w.heap.size (.slice ao acts.length cap) acts) := Lib.hid ⟨ao, cap, rfl, hc1, hc2, hacts⟩
  have HZ := Lib.hid hs
  clear hacts hs
  go_enter Try.func11, Try.ntmps11
  go_wp2_with fail
  have hW0 := Whole.new w 66 [.int .i64 M, .int .i64 N, .slice ao acts.length cap]
  have hbx0 := (Below.refl w.heap.size w).alloc (Nat.le_refl _) (.cells #[.int .i64 M, .int .i64 N, .slice ao acts.length cap] 66)
  have hz0 : (w.alloc (.cells #[.int .i64 M, .int .i64 N, .slice ao acts.length cap] 66)).heap.size = w.heap.size + 1 := by simp
  have HSA := HS.out.below hbx0
  generalize w.alloc (.cells #[.int .i64 M, .int .i64 N, .slice ao acts.length cap] 66) = wa at hW0 hbx0 hz0 HSA ⊢
  have hSA : ActsAt2 wa wa.heap.size (.slice ao acts.length cap) acts := by
    obtain ⟨ao', cap', e, h1, h2, h3⟩ := HSA
    refine ⟨ao', cap', e, h1, h2, fun i a ha => ?_⟩
    obtain ⟨b, o, e', q0, q1, q2, lv, q3, q4, q5, q6, q7⟩ := h3 i a ha
    exact ⟨b, o, e', q0, q1, q2, lv, q3, q4, q5.more (by omega), by omega, q7⟩
  refine (heavy2_any wa M N (.slice ao acts.length cap) acts hSA HZ.out).mono ?_
  rintro e w1 ⟨hv, rfl, hlight, hb1⟩
  have hW1 := hW0.belowH hb1
  have HL := Lib.hid hlight
  have hz1 := hb1.size
  have HS1 := Lib.hid (HSA.below (hb1.mono (by omega)))
  clear hlight hW0 HSA hSA HS
  cases hv
  · have c0 : w1.cell? ⟨w.heap.size, 0, none⟩ = some (.int .i64 M) := by rw [hW1.cell]; rfl
    have c1 : w1.cell? ⟨w.heap.size, 1, none⟩ = some (.int .i64 N) := by rw [hW1.cell]; rfl
    go_wp2_with fail
    refine (lopen_any w1 M N).mono ?_
    rintro e w2 (⟨rfl, hb2⟩ | ⟨s, q, hq0, rfl, hJ, hb2⟩)
    · have hbx := (hbx0.trans (hb1.mono (by omega))).trans (hb2.mono (by omega))
      clear c0 c1
      go_wp2
      go_loopw [5] (fun i wr => i = .int .i64 0 ∧ wr = w2) (fun _ _ => 1)
      case atStart => exact ⟨rfl, rfl⟩
      case round =>
        obtain ⟨rfl, rfl⟩ := hrel
        go_wp2_with fail
        refine (wakes_any wr).mono ?_
        rintro e wz ⟨rfl, hbz⟩
        go_wp2
        go_ret
        exact ⟨rfl, hbx.trans (hbz.mono hbx.size)⟩
    · clear hq0
      have HJ := Lib.hid hJ
      have HW1 := Lib.hid hW1
      have hlz : w.heap.size < w1.heap.size := hW1.lt
      have hbx := hbx0.trans (hb1.mono (by omega))
      have hz2 := hb2.size
      clear hJ c0 c1 hW1
      go_wp2
      go_loopw [5] (fun i wr => ∃ (k : Nat) (hv : Value) (hs : List Nat), i = .int .i64 k ∧ k ≤ 40 ∧ hs.length ≤ k ∧ Hid (JX wr w1.heap.size s q hv hs) ∧ Below w1.heap.size w1 wr) (fun i _ => 40 - (intOf i).toNat)
      case atStart => exact ⟨0, _, _, rfl, by omega, by simp, HJ, hb2⟩
      case round =>
        obtain ⟨k, hv, hs, rfl, hk, hhs, HJk, hbk⟩ := hrel
        have hWk : Whole wr w.heap.size 66 [.int .i64 M, .int .i64 N, .slice ao acts.length cap] := HW1.out.below hbk hlz
        have k2 : wr.cell? ⟨w.heap.size, 2, none⟩ = some (.slice ao acts.length cap) := by rw [hWk.cell]; rfl
        clear hWk
        have hzk := hbk.size
        by_cases hlt : k < acts.length ∧ k < 40
        · obtain ⟨hlt1, hlt2⟩ := hlt
          obtain ⟨a, ha⟩ : ∃ a, acts[k]? = some a := ⟨_, List.getElem?_eq_getElem hlt1⟩
          obtain ⟨b, o, e0, hA⟩ := act2_get HS1.out ha
          subst e0
          obtain ⟨d0, d1, d2, bv, d3, d4, hr, hbl, hu⟩ := hA.below (hbk.mono (Nat.le_of_lt hlz))
          have hl3 := (HL.out trivial).2 k a ha
          have HR := Lib.hid (hr.more (Nat.le_of_lt hlz))
          have hbl1 : b < w1.heap.size := Nat.lt_trans hbl hlz
          clear ha hA hr hu hbl
          obtain ⟨y, hy⟩ : ∃ y, within a.dk 12 = y := ⟨_, rfl⟩
          have hy0 := within_nn a.dk 12 (by omega)
          have hy1 := within_lt a.dk 12 (by omega)
          rw [hy] at hy0 hy1
          have HY := Lib.hid hy
          clear hy
          go_upto_region 7 with fail
          refine wp_region_held_drew (S := fun wx => wx.cell? ⟨w.heap.size, 2, none⟩ = some (.slice (some ⟨b, o, none⟩) acts.length cap) ∧ wx.cell? ⟨b, o + k * 5, none⟩ = some (.int .i64 a.dk) ∧ wx.cell? ⟨b, o + k * 5 + 1, none⟩ = some (.int .i64 a.n) ∧ wx.cell? ⟨b, o + k * 5 + 2, none⟩ = some (.int .i64 a.at_) ∧ wx.cell? ⟨b, o + k * 5 + 3, none⟩ = some bv ∧ wx.cell? ⟨b, o + k * 5 + 4, none⟩ = some (.int .u64 a.v)) (by kernel_rfl) ⟨k2, d0, d1, d2, d3, d4⟩ (fun hHeld => ?_)
          refine take_h 0 ⟨?_, ?_, ?_, by kernel_rfl, by kernel_rfl, by kernel_rfl, ?_, ?_, by assumption, ?_⟩
          rotate_left 2
          · (simp only [List.getElem?_toArray, List.getElem?_cons_zero]; exact rfl)
          · exact fun _ _ _ h => h
          · first
              | (refine Or.inr ⟨by rfl, ?_⟩; exact rfl)
              | (refine Or.inl ⟨by rfl, ?_⟩
                 intro w hSw
                 (try dsimp only at hSw)
                 (try go_split_ands)
                 go_simp
                 (first | done | with_reducible rfl))
          try simp only [Act.put, List.setIfInBounds_toArray, List.set_cons_zero, List.set_cons_succ]
          refine take_h 1 ⟨?_, ?_, ?_, by kernel_rfl, by kernel_rfl, by kernel_rfl, ?_, ?_, by assumption, ?_⟩
          rotate_left 2
          · (simp only [List.getElem?_toArray, List.getElem?_cons_succ, List.getElem?_cons_zero]; exact rfl)
          · exact fun _ _ _ h => h
          · first
              | (refine Or.inr ⟨by rfl, ?_⟩; exact rfl)
              | (refine Or.inl ⟨by rfl, ?_⟩
                 intro w hSw
                 (try dsimp only at hSw)
                 (try go_split_ands)
                 go_simp
                 (first | done | with_reducible rfl))
          try simp only [Act.put, List.setIfInBounds_toArray, List.set_cons_zero, List.set_cons_succ]
          refine take_h 2 ⟨?_, ?_, ?_, by kernel_rfl, by kernel_rfl, by kernel_rfl, ?_, ?_, by assumption, ?_⟩
          rotate_left 2
          · (simp only [List.getElem?_toArray, List.getElem?_cons_succ, List.getElem?_cons_zero]; exact rfl)
          · exact fun _ _ _ h => h
          · first
              | (refine Or.inr ⟨by rfl, ?_⟩; exact rfl)
              | (refine Or.inl ⟨by rfl, ?_⟩
                 intro w hSw
                 (try dsimp only at hSw)
                 (try go_split_ands)
                 go_simp
                 (first | done | with_reducible rfl))
          try simp only [Act.put, List.setIfInBounds_toArray, List.set_cons_zero, List.set_cons_succ]
          refine take_h 3 ⟨?_, ?_, ?_, by kernel_rfl, by kernel_rfl, by kernel_rfl, ?_, ?_, by assumption, ?_⟩
          rotate_left 2
          · (simp only [List.getElem?_toArray, List.getElem?_cons_succ, List.getElem?_cons_zero]; exact rfl)
          · exact fun _ _ _ h => h
          · first
              | (refine Or.inr ⟨by rfl, ?_⟩; exact rfl)
              | (refine Or.inl ⟨by rfl, ?_⟩
                 intro w hSw
                 (try dsimp only at hSw)
                 (try go_split_ands)
                 go_simp
                 (first | done | with_reducible rfl))
          try simp only [Act.put, List.setIfInBounds_toArray, List.set_cons_zero, List.set_cons_succ]
          refine take_h 4 ⟨?_, ?_, ?_, by kernel_rfl, by kernel_rfl, by kernel_rfl, ?_, ?_, by assumption, ?_⟩
          rotate_left 2
          · (simp only [List.getElem?_toArray, List.getElem?_cons_succ, List.getElem?_cons_zero]; exact rfl)
          · exact fun _ _ _ h => h
          · first
              | (refine Or.inr ⟨by rfl, ?_⟩; exact rfl)
              | (refine Or.inl ⟨by rfl, ?_⟩
                 intro w hSw
                 (try dsimp only at hSw)
                 (try go_split_ands)
                 go_simp
                 (first | done | with_reducible rfl))
          try simp only [Act.put, List.setIfInBounds_toArray, List.set_cons_zero, List.set_cons_succ]
          refine take_h 5 ⟨?_, ?_, ?_, by kernel_rfl, by kernel_rfl, by kernel_rfl, ?_, ?_, by assumption, ?_⟩
          rotate_left 2
          · (simp only [List.getElem?_toArray, List.getElem?_cons_succ, List.getElem?_cons_zero]; exact rfl)
          · exact fun _ _ _ h => h
          · first
              | (refine Or.inr ⟨by rfl, ?_⟩; exact rfl)
              | (refine Or.inl ⟨by rfl, ?_⟩
                 intro w hSw
                 (try dsimp only at hSw)
                 (try go_split_ands)
                 go_simp
                 (first | done | with_reducible rfl))
          try simp only [Act.put, List.setIfInBounds_toArray, List.set_cons_zero, List.set_cons_succ]
          refine take_h 6 ⟨?_, ?_, ?_, by kernel_rfl, by kernel_rfl, by kernel_rfl, ?_, ?_, by assumption, ?_⟩
          rotate_left 2
          · (simp only [List.getElem?_toArray, List.getElem?_cons_succ, List.getElem?_cons_zero]; exact rfl)
          · exact fun _ _ _ h => h
          · first
              | (refine Or.inr ⟨by rfl, ?_⟩; exact rfl)
              | (refine Or.inl ⟨by rfl, ?_⟩
                 intro w hSw
                 (try dsimp only at hSw)
                 (try go_split_ands)
                 go_simp
                 (first | done | with_reducible rfl))
          try simp only [Act.put, List.setIfInBounds_toArray, List.set_cons_zero, List.set_cons_succ]
          refine take_h 7 ⟨?_, ?_, ?_, by kernel_rfl, by kernel_rfl, by kernel_rfl, ?_, ?_, by assumption, ?_⟩
          rotate_left 2
          · (simp only [List.getElem?_toArray, List.getElem?_cons_succ, List.getElem?_cons_zero]; exact rfl)
          · exact fun _ _ _ h => h
          · first
              | (refine Or.inr ⟨by rfl, ?_⟩; exact rfl)
              | (refine Or.inl ⟨by rfl, ?_⟩
                 intro w hSw
                 (try dsimp only at hSw)
                 (try go_split_ands)
                 go_simp
                 (first | done | with_reducible rfl))
          try simp only [Act.put, List.setIfInBounds_toArray, List.set_cons_zero, List.set_cons_succ]
          refine take_h 8 ⟨?_, ?_, ?_, by kernel_rfl, by kernel_rfl, by kernel_rfl, ?_, ?_, by assumption, ?_⟩
          rotate_left 2
          · (simp only [List.getElem?_toArray, List.getElem?_cons_succ, List.getElem?_cons_zero]; exact rfl)
          · exact fun _ _ _ h => h
          · first
              | (refine Or.inr ⟨by rfl, ?_⟩; exact rfl)
              | (refine Or.inl ⟨by rfl, ?_⟩
                 intro w hSw
                 (try dsimp only at hSw)
                 (try go_split_ands)
                 go_simp
                 (first | done | with_reducible rfl))
          try simp only [Act.put, List.setIfInBounds_toArray, List.set_cons_zero, List.set_cons_succ]
          refine take_h 9 ⟨?_, ?_, ?_, by kernel_rfl, by kernel_rfl, by kernel_rfl, ?_, ?_, by assumption, ?_⟩
          rotate_left 2
          · (simp only [List.getElem?_toArray, List.getElem?_cons_succ, List.getElem?_cons_zero]; exact rfl)
          · exact fun _ _ _ h => h
          · first
              | (refine Or.inr ⟨by rfl, ?_⟩; exact rfl)
              | (refine Or.inl ⟨by rfl, ?_⟩
                 intro w hSw
                 (try dsimp only at hSw)
                 (try go_split_ands)
                 go_simp
                 (first | done | with_reducible rfl))
          try simp only [Act.put, List.setIfInBounds_toArray, List.set_cons_zero, List.set_cons_succ]
          refine take_h 10 ⟨?_, ?_, ?_, by kernel_rfl, by kernel_rfl, by kernel_rfl, ?_, ?_, by assumption, ?_⟩
          rotate_left 2
          · (simp only [List.getElem?_toArray, List.getElem?_cons_succ, List.getElem?_cons_zero]; exact rfl)
          · exact fun _ _ _ h => h
          · first
              | (refine Or.inr ⟨by rfl, ?_⟩; exact rfl)
              | (refine Or.inl ⟨by rfl, ?_⟩
                 intro w hSw
                 (try dsimp only at hSw)
                 (try go_split_ands)
                 go_simp
                 (first | done | with_reducible rfl))
          try simp only [Act.put, List.setIfInBounds_toArray, List.set_cons_zero, List.set_cons_succ]
          refine take_h 11 ⟨?_, ?_, ?_, by kernel_rfl, by kernel_rfl, by kernel_rfl, ?_, ?_, by assumption, ?_⟩
          rotate_left 2
          · (simp only [List.getElem?_toArray, List.getElem?_cons_succ, List.getElem?_cons_zero]; exact rfl)
          · exact fun _ _ _ h => h
          · first
              | (refine Or.inr ⟨by rfl, ?_⟩; exact rfl)
              | (refine Or.inl ⟨by rfl, ?_⟩
                 intro w hSw
                 (try dsimp only at hSw)
                 (try go_split_ands)
                 go_simp
                 (first | done | with_reducible rfl))
          try simp only [Act.put, List.setIfInBounds_toArray, List.set_cons_zero, List.set_cons_succ]
          refine wpAnyH_ready (rs := [12]) (by kernel_rfl) (by simp) ?_
          refine call_h 12 ⟨?_, ?_, fun K hK => ?_⟩
          rotate_left 1
          · (simp only [List.getElem?_toArray, List.getElem?_cons_succ, List.getElem?_cons_zero]; exact rfl)
          go_simp
          (go_at_call 21; refine (Within_any _ _ 12 (by omega) (by omega)).mono ?_; rintro e w' ⟨rfl, rfl⟩; rw [HY.out])
          go_wp2_with fail
          refine hK.out _ _ ⟨k2, d0, d1, d2, d3, d4⟩ (fun hHeld => ?_)
          clear hK K
          (try simp only [Act.put, List.setIfInBounds_toArray, List.set_cons_zero, List.set_cons_succ])
          refine wpAnyH_ready (rs := [13]) (by kernel_rfl) (by simp) ?_
          refine call_h 13 ⟨?_, ?_, fun K hK => ?_⟩
          rotate_left 1
          · (simp only [List.getElem?_toArray, List.getElem?_cons_succ, List.getElem?_cons_zero]; exact rfl)
          go_simp
          (go_at_call 48; refine (does_any wr.drew w1.heap.size s q hv hs a.dk a.n a.at_ bv a.v a.L (HJk.out.left0 ((Left.refl [] _).drew)) (by omega) (show Rd wr.drew _ 3 bv _ _ from HR.out) hl3 y (by omega)).mono ?_; rintro e wd ⟨rfl, ⟨hv', hs', hJ', hle⟩, hbd⟩)
          go_wp2_with fail
          have HJd := Lib.hid hJ'
          have f2 := (hbd.cell (p := ⟨w.heap.size, 2, none⟩) hlz).trans k2
          have f0 := (hbd.cell (p := ⟨b, o + k * 5, none⟩) hbl1).trans d0
          have f1 := (hbd.cell (p := ⟨b, o + k * 5 + 1, none⟩) hbl1).trans d1
          have f3 := (hbd.cell (p := ⟨b, o + k * 5 + 2, none⟩) hbl1).trans d2
          have f4 := (hbd.cell (p := ⟨b, o + k * 5 + 3, none⟩) hbl1).trans d3
          have f5 := (hbd.cell (p := ⟨b, o + k * 5 + 4, none⟩) hbl1).trans d4
          have hbd' : Below w1.heap.size wr wd := ⟨hbd.os, hbd.tape, hbd.output, hbd.size, hbd.block⟩
          have hbD := hbk.trans hbd'
          clear hJ' hbd hbd' k2 d0 d1 d2 d3 d4
          refine hK.out _ _ ⟨f2, f0, f1, f3, f4, f5⟩ (fun hHeld => ?_)
          clear hK K
          (try simp only [Act.put, List.setIfInBounds_toArray, List.set_cons_zero, List.set_cons_succ])
          refine take_h 14 ⟨?_, ?_, ?_, by kernel_rfl, by kernel_rfl, by kernel_rfl, ?_, ?_, by assumption, ?_⟩
          rotate_left 2
          · (simp only [List.getElem?_toArray, List.getElem?_cons_succ, List.getElem?_cons_zero]; exact rfl)
          · exact fun _ _ _ h => h
          · first
              | (refine Or.inr ⟨by rfl, ?_⟩; exact rfl)
              | (refine Or.inl ⟨by rfl, ?_⟩
                 intro w hSw
                 (try dsimp only at hSw)
                 (try go_split_ands)
                 go_simp
                 (first | done | with_reducible rfl))
          try simp only [Act.put, List.setIfInBounds_toArray, List.set_cons_zero, List.set_cons_succ]
          refine take_h 15 ⟨?_, ?_, ?_, by kernel_rfl, by kernel_rfl, by kernel_rfl, ?_, ?_, by assumption, ?_⟩
          rotate_left 2
          · (simp only [List.getElem?_toArray, List.getElem?_cons_succ, List.getElem?_cons_zero]; exact rfl)
          · exact fun _ _ _ h => h
          · first
              | (refine Or.inr ⟨by rfl, ?_⟩; exact rfl)
              | (refine Or.inl ⟨by rfl, ?_⟩
                 intro w hSw
                 (try dsimp only at hSw)
                 (try go_split_ands)
                 go_simp
                 (first | done | with_reducible rfl))
          try simp only [Act.put, List.setIfInBounds_toArray, List.set_cons_zero, List.set_cons_succ]
          refine take_h 16 ⟨?_, ?_, ?_, by kernel_rfl, by kernel_rfl, by kernel_rfl, ?_, ?_, by assumption, ?_⟩
          rotate_left 2
          · (simp only [List.getElem?_toArray, List.getElem?_cons_succ, List.getElem?_cons_zero]; exact rfl)
          · exact fun _ _ _ h => h
          · first
              | (refine Or.inr ⟨by rfl, ?_⟩; exact rfl)
              | (refine Or.inl ⟨by rfl, ?_⟩
                 intro w hSw
                 (try dsimp only at hSw)
                 (try go_split_ands)
                 go_simp
                 (first | done | with_reducible rfl))
          try simp only [Act.put, List.setIfInBounds_toArray, List.set_cons_zero, List.set_cons_succ]
          refine wpAnyH_ready (rs := [17]) (by kernel_rfl) (by simp) ?_
          refine call_h 17 ⟨?_, ?_, fun K hK => ?_⟩
          rotate_left 1
          · (simp only [List.getElem?_toArray, List.getElem?_cons_succ, List.getElem?_cons_zero]; exact rfl)
          go_simp
          (go_at_call 49; refine (same_any wd w1.heap.size s q hv' hs' HJd.out).mono ?_; rintro e we ⟨rfl, hle2⟩)
          go_wp2_with fail
          have HJe := Lib.hid (HJd.out.left0 hle2)
          have hbE := hbD.trans (hle2.belowB hbD.size (by simp))
          have g2 := (hle2.below.cell (p := ⟨w.heap.size, 2, none⟩) (World.block_lt_of_cell? _ _ f2)).trans f2
          have g0 := (hle2.below.cell (p := ⟨b, o + k * 5, none⟩) (World.block_lt_of_cell? _ _ f0)).trans f0
          have g1 := (hle2.below.cell (p := ⟨b, o + k * 5 + 1, none⟩) (World.block_lt_of_cell? _ _ f1)).trans f1
          have g3 := (hle2.below.cell (p := ⟨b, o + k * 5 + 2, none⟩) (World.block_lt_of_cell? _ _ f3)).trans f3
          have g4 := (hle2.below.cell (p := ⟨b, o + k * 5 + 3, none⟩) (World.block_lt_of_cell? _ _ f4)).trans f4
          have g5 := (hle2.below.cell (p := ⟨b, o + k * 5 + 4, none⟩) (World.block_lt_of_cell? _ _ f5)).trans f5
          clear hle2 f0 f1 f2 f3 f4 f5
          refine hK.out _ _ ⟨g2, g0, g1, g3, g4, g5⟩ (fun hHeld => ?_)
          clear hK K
          (try simp only [Act.put, List.setIfInBounds_toArray, List.set_cons_zero, List.set_cons_succ])
          refine take_h 18 ⟨?_, ?_, ?_, by kernel_rfl, by kernel_rfl, by kernel_rfl, ?_, ?_, by assumption, ?_⟩
          rotate_left 2
          · (simp only [List.getElem?_toArray, List.getElem?_cons_succ, List.getElem?_cons_zero]; exact rfl)
          · exact fun _ _ _ h => h
          · first
              | (refine Or.inr ⟨by rfl, ?_⟩; exact rfl)
              | (refine Or.inl ⟨by rfl, ?_⟩
                 intro w hSw
                 (try dsimp only at hSw)
                 (try go_split_ands)
                 go_simp
                 (first | done | with_reducible rfl))
          try simp only [Act.put, List.setIfInBounds_toArray, List.set_cons_zero, List.set_cons_succ]
          refine take_h 19 ⟨?_, ?_, ?_, by kernel_rfl, by kernel_rfl, by kernel_rfl, ?_, ?_, by assumption, ?_⟩
          rotate_left 2
          · (simp only [List.getElem?_toArray, List.getElem?_cons_succ, List.getElem?_cons_zero]; exact rfl)
          · exact fun _ _ _ h => h
          · first
              | (refine Or.inr ⟨by rfl, ?_⟩; exact rfl)
              | (refine Or.inl ⟨by rfl, ?_⟩
                 intro w hSw
                 (try dsimp only at hSw)
                 (try go_split_ands)
                 go_simp
                 (first | done | with_reducible rfl))
          try simp only [Act.put, List.setIfInBounds_toArray, List.set_cons_zero, List.set_cons_succ]
          refine wpAnyH_done (by kernel_rfl) ?_ _
          clear hHeld g0 g1 g2 g3 g4 g5
          go_wp2
          go_roundw
          case rel => exact ⟨k + 1, hv', hs', by go_num, by omega, by omega, HJe, hbE⟩
          case measure => simp [intOf]; omega
        · by_cases hl1 : k < acts.length
          · have hl2 : ¬ (k < 40) := by omega
            clear hlt
            go_wp2_with fail
            refine (wakes_any wr).mono ?_
            rintro e wz ⟨rfl, hbz⟩
            go_wp2
            go_ret
            exact ⟨rfl, hbx.trans ((hbk.mono (by omega)).trans (hbz.mono (by omega)))⟩
          · clear hlt
            go_wp2_with fail
            refine (wakes_any wr).mono ?_
            rintro e wz ⟨rfl, hbz⟩
            go_wp2
            go_ret
            exact ⟨rfl, hbx.trans ((hbk.mono (by omega)).trans (hbz.mono (by omega)))⟩
  · go_wp2
    go_ret
    exact ⟨rfl, hbx0.trans (hb1.mono (by omega))⟩
end Go.Proofs.Ytfffehbipcikoaa
