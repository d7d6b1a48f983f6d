/- Law 6: next. Law 6: does. Law 6: Again; what a crash leaves. -/


import Derived.Test.YtcgdlmlolmfinaaLmHv
import Derived.Test.YtcgdlmlolmfinaaLkOps
import Derived.Test.YtcgdlmlolmfinaaDraw
import Derived.Test.YtcgdlmlolmfinaaOps
import Derived.Test.YtcgdlmlolmfinaaTwo
import Derived.Test.YtcgdlmlolmfinaaLkWak
import Derived.Test.YtcgdlmlolmfinaaDkCrash
namespace Go.Proofs.Ytcgdlmlolmfinaa
section
section
open Go.RowKit
/-- The page's step. -/
def nextD (l : List (List UInt8)) (a : Act6) : List (List UInt8) × Int :=
  if within a.d 7 = 4 then (if ∃ x ∈ a.l, 16384 < x.length then (l, 1) else if 65536 < wtL a.l then (l, 5) else (a.l, 0))
  else if within a.d 7 = 5 ∨ within a.d 7 = 6 then (l, 0)
  else if 16384 < a.s.length then (l, 1) else if 65536 < a.s.length + 128 + wtL l then (l, 5) else (l ++ [a.s], 0)
/-- A row of one's own, or what it was. -/
def NxP (w : World) (v : Value) (l : List (List UInt8)) (r : List (List UInt8) × Int) (e : Ending) (w' : World) : Prop :=
  ∃ v', e = .returned (.tuple #[v', .int .i64 r.2]) ∧ (v' = v ∧ r.1 = l ∨ w'.ownsRow w.heap.size 9 1 v' r.1.length (sts r.1)) ∧ Below w.heap.size w w'
set_option maxRecDepth 20000 in
set_option maxHeartbeats 8000000 in
theorem knext (w : World) (v : Value) (l : List (List UInt8)) (a : Act6) (lv kv : Value) (hv : Rd w w.heap.size 1 v l.length (sts l)) (hw : wtL l ≤ 65536) (hL : Rd w w.heap.size 1 lv a.l.length (sts a.l)) (hx : ∀ x ∈ a.l, x.length ≤ 100000) (hal : a.l.length ≤ 100000) (hwt : wtL a.l ≤ 100000000) (hs : a.s.length ≤ 100000) :
    Calls Try.prog 15 #[v, .agg #[.int .i64 a.d, .string ⟨a.s.toArray⟩, lv, kv]] w (NxP w v l (nextD l a)) := by
  obtain ⟨vo, vc, rfl, hv1, hv2⟩ := hv.form
  obtain ⟨lo, lc, rfl, hl1, hl2⟩ := hL.form
  have hlc : lc ≤ 9223372036854775807 := by unfold maxLen at hl2; omega
  obtain ⟨w0, hw0⟩ : ∃ w0, w0 = w.alloc (.cells #[.int .i64 a.d, .string ⟨a.s.toArray⟩, .slice lo a.l.length lc, kv] 42) := ⟨_, rfl⟩
  have hb0 : Below w.heap.size w w0 := by rw [hw0]; exact (Below.refl _ _).alloc (Nat.le_refl _) _
  have hW0 : Whole w0 w.heap.size 42 [.int .i64 a.d, .string ⟨a.s.toArray⟩, .slice lo a.l.length lc, kv] := by rw [hw0]; exact Whole.new w 42 _
  have b0 : w0.cell? ⟨w.heap.size, 0, none⟩ = some (.int .i64 a.d) := by rw [hW0.cell]; rfl
  have b1 : w0.cell? ⟨w.heap.size, 1, none⟩ = some (.string ⟨a.s.toArray⟩) := by rw [hW0.cell]; rfl
  have b2 : w0.cell? ⟨w.heap.size, 2, none⟩ = some (.slice lo a.l.length lc) := by rw [hW0.cell]; rfl
  have hs1 : (⟨a.s.toArray⟩ : ByteArray).size = a.s.length := by simp [ByteArray.size]
  have hv0 := hv.belowH hb0 (Nat.le_refl _)
  have hL0 := hL.belowH hb0 (Nat.le_refl _)
  obtain ⟨K, hKK⟩ : ∃ K, within a.d 7 = K := ⟨_, rfl⟩
  have hK0 : 0 ≤ K := by rw [← hKK]; exact within_nn _ _ (by omega)
  have hK7 : K < 7 := by rw [← hKK]; exact within_lt _ _ (by omega)
  obtain ⟨D, hD⟩ : ∃ D, nextD l a = D := ⟨_, rfl⟩
  have hD0 := hD
  unfold nextD at hD
  rw [hKK] at hD
  rw [hD0]
  have HK := Lib.hid hKK
  have HD := Lib.hid hD
  have HB0 := Lib.hid hb0
  have HV0 := Lib.hid hv0
  have HL0 := Lib.hid hL0
  have HX := Lib.hid hx
  have HSZ := Lib.hid (And.intro hb0.size (by rw [hw0]; simp : w0.heap.size = w.heap.size + 1))
  have hch := hw0.symm
  clear hv hL hb0 hW0 hw0 hv0 hL0 hKK hD hD0 hx hl2
  by_cases h4 : K = 4
  · have h4' : (K == 4) = true := beq_iff_eq.2 h4
    have hDD := HD.out
    rw [if_pos h4] at hDD
    have HD4 := Lib.hid hDD
    clear hDD h4
    go_enter Try.func15, Try.ntmps15
    go_wp2_with (go_at_call 18; refine (Within_any _ _ 7 (by omega) (by omega)).mono ?_; rintro e w' ⟨rfl, rfl⟩; rw [HK.out])
    go_loopw [6] (fun i wr => ∃ k : Nat, i = .int .i64 k ∧ k ≤ a.l.length ∧ w0 = wr ∧ Hid (∀ (j : Nat) (x : List UInt8), j < k → a.l[j]? = some x → x.length ≤ 16384)) (fun i _ => a.l.length - (intOf i).toNat)
    case atStart => exact ⟨0, rfl, by omega, rfl, Lib.hid (fun j x hj _ => by omega)⟩
    case round =>
      obtain ⟨k, rfl, hk, rfl, HP⟩ := hrel
      by_cases hlt : k < a.l.length
      · have hlt' : (k : Int) < (a.l.length : Int) := by omega
        obtain ⟨x, hxk⟩ : ∃ x, a.l[k]? = some x := ⟨_, List.getElem?_eq_getElem hlt⟩
        obtain ⟨b, o, q, e1, _, c1⟩ := rd_strs HL0.out hxk hlt
        injection e1 with e1a _ e1b
        subst e1a e1b
        have hxl := HX.out x (List.mem_of_getElem? hxk)
        have HXK := Lib.hid hxk
        clear hxk
        by_cases hb : 16384 < x.length
        · have hb' : (16384 : Int) < (x.length : Int) := by omega
          have HE : Hid ((l, 1) = D) := Lib.hid (by have := HD4.out; rwa [if_pos ⟨x, List.mem_of_getElem? HXK.out, hb⟩] at this)
          clear hb
          go_wp2
          go_ret2
          rw [← HE.out]
          exact ⟨_, rfl, .inl ⟨rfl, rfl⟩, HB0.out⟩
        · have hb' : ¬ ((16384 : Int) < (x.length : Int)) := by omega
          have HP2 : Hid (∀ (j : Nat) (y : List UInt8), j < k + 1 → a.l[j]? = some y → y.length ≤ 16384) := Lib.hid (fun j y hj hy => by
            by_cases hjk : j = k
            · subst hjk
              rw [HXK.out] at hy
              injection hy with hy
              subst hy
              omega
            · exact HP.out j y (by omega) hy)
          clear hb
          go_wp2
          go_roundw
          case rel => exact ⟨k + 1, by go_num, by omega, trivial, HP2⟩
          case measure => simp [intOf]; omega
      · have hke : k = a.l.length := by omega
        have hno : ¬ ∃ x ∈ a.l, 16384 < x.length := fun ⟨x, hx, hb⟩ => by
          obtain ⟨j, hj⟩ := List.getElem?_of_mem hx
          have := HP.out j x (by rw [hke]; exact (List.getElem?_eq_some_iff.1 hj).1) hj
          omega
        have hDD := HD4.out
        rw [if_neg hno] at hDD
        have HD5 := Lib.hid hDD
        have HSI := Lib.hid (size_any w0 _ a.l _ HL0.out (by omega))
        obtain ⟨W, hWW⟩ : ∃ W, wtL a.l = W := ⟨_, rfl⟩
        rw [hWW] at HSI HD5 hwt
        clear hke hno hDD hWW
        by_cases hf : 65536 < W
        · have hf' : (65536 : Int) < (W : Int) := by omega
          have HE : Hid ((l, 5) = D) := Lib.hid (by have := HD5.out; rwa [if_pos hf] at this)
          clear hf
          go_wp2_with (go_at_call 31; refine HSI.out.mono ?_; rintro e w' ⟨rfl, rfl⟩)
          go_ret2
          rw [← HE.out]
          exact ⟨_, rfl, .inl ⟨rfl, rfl⟩, HB0.out⟩
        · have hf' : ¬ ((65536 : Int) < (W : Int)) := by omega
          have HE : Hid ((a.l, 0) = D) := Lib.hid (by have := HD5.out; rwa [if_neg hf] at this)
          have HCP := Lib.hid (CopyStrings_any w0 _ a.l _ HL0.out (by have := HSZ.out; omega) (by omega))
          clear hf
          go_wp2_with (go_at_call 31; refine HSI.out.mono ?_; rintro e w' ⟨rfl, rfl⟩)
          refine HCP.out.mono ?_
          rintro e w2 ⟨v2, rfl, hv2', hb2⟩
          obtain ⟨vo2, vc2, rfl, _, _⟩ := (Rd.of_own hv2').form
          have H2 := Lib.hid (And.intro hv2' hb2)
          clear hv2' hb2
          go_wp2
          go_ret2
          rw [← HE.out]
          exact ⟨_, rfl, .inr (own_base H2.out.1 (by have := HSZ.out; omega)), HB0.out.trans (H2.out.2.mono (by have := HSZ.out; omega))⟩
  · have h4' : (K == 4) = false := beq_eq_false_iff_ne.2 h4
    have hDD := HD.out
    rw [if_neg h4] at hDD
    by_cases h56 : K = 5 ∨ K = 6
    · rw [if_pos h56] at hDD
      have HE := Lib.hid hDD
      clear hDD h4
      rcases h56 with h5 | h6
      · have h5' : (K == 5) = true := beq_iff_eq.2 h5
        clear h5
        go_enter Try.func15, Try.ntmps15
        go_wp2_with (go_at_call 18; refine (Within_any _ _ 7 (by omega) (by omega)).mono ?_; rintro e w' ⟨rfl, rfl⟩; rw [HK.out])
        go_ret2
        rw [← HE.out]
        exact ⟨_, rfl, .inl ⟨rfl, rfl⟩, HB0.out⟩
      · have h5' : (K == 5) = false := beq_eq_false_iff_ne.2 (by omega)
        have h6' : (K == 6) = true := beq_iff_eq.2 h6
        clear h6
        go_enter Try.func15, Try.ntmps15
        go_wp2_with (go_at_call 18; refine (Within_any _ _ 7 (by omega) (by omega)).mono ?_; rintro e w' ⟨rfl, rfl⟩; rw [HK.out])
        go_ret2
        rw [← HE.out]
        exact ⟨_, rfl, .inl ⟨rfl, rfl⟩, HB0.out⟩
    · rw [if_neg h56] at hDD
      have h5' : (K == 5) = false := beq_eq_false_iff_ne.2 (fun h => h56 (.inl h))
      have h6' : (K == 6) = false := beq_eq_false_iff_ne.2 (fun h => h56 (.inr h))
      clear h4 h56
      by_cases hb : 16384 < a.s.length
      · have hb' : (16384 : Int) < (a.s.length : Int) := by omega
        rw [if_pos hb] at hDD
        have HE := Lib.hid hDD
        clear hDD hb
        go_enter Try.func15, Try.ntmps15
        go_wp2_with (go_at_call 18; refine (Within_any _ _ 7 (by omega) (by omega)).mono ?_; rintro e w' ⟨rfl, rfl⟩; rw [HK.out])
        go_ret2
        rw [← HE.out]
        exact ⟨_, rfl, .inl ⟨rfl, rfl⟩, HB0.out⟩
      · have hb' : ¬ ((16384 : Int) < (a.s.length : Int)) := by omega
        rw [if_neg hb] at hDD
        have HSI := Lib.hid (size_any w0.drew _ l w0.heap.size (HV0.out.more (by have := HSZ.out; omega)) (by omega))
        obtain ⟨W, hWW⟩ : ∃ W, wtL l = W := ⟨_, rfl⟩
        have HWW := Lib.hid hWW
        rw [hWW] at HSI hDD hw
        have hwr1 : IntKind.i64.wrap (65536 - (a.s.length : Int)) = 65536 - (a.s.length : Int) := IntWalk.i64_in _ ⟨by omega, by omega⟩
        have hwr2 : IntKind.i64.wrap (65536 - (a.s.length : Int) - 128) = 65536 - (a.s.length : Int) - 128 := IntWalk.i64_in _ ⟨by omega, by omega⟩
        by_cases hf : 65536 < a.s.length + 128 + W
        · have hf' : (65536 : Int) - (a.s.length : Int) - 128 < (W : Int) := by omega
          rw [if_pos hf] at hDD
          have HE := Lib.hid hDD
          clear hDD hb hf hWW
          go_enter Try.func15, Try.ntmps15
          go_upto_region 16 with (go_at_call 18; refine (Within_any _ _ 7 (by omega) (by omega)).mono ?_; rintro e w' ⟨rfl, rfl⟩; rw [HK.out])
          refine wp_region_held_drew (S := fun wx => wx.cell? ⟨w.heap.size, 1, none⟩ = some (.string ⟨a.s.toArray⟩)) (by kernel_rfl) b1 (fun hHeld => ?_)
          refine take_h 0 ⟨?_, ?_, ?_, by kernel_rfl, by kernel_rfl, by kernel_rfl, ?_, ?_, by assumption, ?_⟩
          rotate_left 2
          · (simp only [List.getElem?_toArray, List.getElem?_cons_zero]; exact rfl)
          · exact fun _ _ _ h => h
          · first
              | (refine Or.inr ⟨by rfl, ?_⟩; exact rfl)
              | (refine Or.inl ⟨by rfl, ?_⟩
                 intro w hSw
                 (try dsimp only at hSw)
                 (try go_split_ands)
                 go_simp
                 (first | done | with_reducible rfl))
          try simp only [Act.put, List.setIfInBounds_toArray, List.set_cons_zero, List.set_cons_succ]
          refine take_h 2 ⟨?_, ?_, ?_, by kernel_rfl, by kernel_rfl, by kernel_rfl, ?_, ?_, by assumption, ?_⟩
          rotate_left 2
          · (simp only [List.getElem?_toArray, List.getElem?_cons_succ, List.getElem?_cons_zero]; exact rfl)
          · exact fun _ _ _ h => h
          · first
              | (refine Or.inr ⟨by rfl, ?_⟩; exact rfl)
              | (refine Or.inl ⟨by rfl, ?_⟩
                 intro w hSw
                 (try dsimp only at hSw)
                 (try go_split_ands)
                 go_simp
                 (first | done | with_reducible rfl))
          try simp only [Act.put, List.setIfInBounds_toArray, List.set_cons_zero, List.set_cons_succ]
          refine take_h 3 ⟨?_, ?_, ?_, by kernel_rfl, by kernel_rfl, by kernel_rfl, ?_, ?_, by assumption, ?_⟩
          rotate_left 2
          · (simp only [List.getElem?_toArray, List.getElem?_cons_succ, List.getElem?_cons_zero]; exact rfl)
          · exact fun _ _ _ h => h
          · first
              | (refine Or.inr ⟨by rfl, ?_⟩; exact rfl)
              | (refine Or.inl ⟨by rfl, ?_⟩
                 intro w hSw
                 (try dsimp only at hSw)
                 (try go_split_ands)
                 go_simp
                 (first | done | with_reducible rfl))
          try simp only [Act.put, List.setIfInBounds_toArray, List.set_cons_zero, List.set_cons_succ]
          refine take_h 4 ⟨?_, ?_, ?_, by kernel_rfl, by kernel_rfl, by kernel_rfl, ?_, ?_, by assumption, ?_⟩
          rotate_left 2
          · (simp only [List.getElem?_toArray, List.getElem?_cons_succ, List.getElem?_cons_zero]; exact rfl)
          · exact fun _ _ _ h => h
          · first
              | (refine Or.inr ⟨by rfl, ?_⟩; exact rfl)
              | (refine Or.inl ⟨by rfl, ?_⟩
                 intro w hSw
                 (try dsimp only at hSw)
                 (try go_split_ands)
                 go_simp
                 (first | done | with_reducible rfl))
          try simp only [Act.put, List.setIfInBounds_toArray, List.set_cons_zero, List.set_cons_succ]
          refine take_h 5 ⟨?_, ?_, ?_, by kernel_rfl, by kernel_rfl, by kernel_rfl, ?_, ?_, by assumption, ?_⟩
          rotate_left 2
          · (simp only [List.getElem?_toArray, List.getElem?_cons_succ, List.getElem?_cons_zero]; exact rfl)
          · exact fun _ _ _ h => h
          · first
              | (refine Or.inr ⟨by rfl, ?_⟩; exact rfl)
              | (refine Or.inl ⟨by rfl, ?_⟩
                 intro w hSw
                 (try dsimp only at hSw)
                 (try go_split_ands)
                 go_simp
                 (first | done | with_reducible rfl))
          try simp only [Act.put, List.setIfInBounds_toArray, List.set_cons_zero, List.set_cons_succ]
          refine take_h 6 ⟨?_, ?_, ?_, by kernel_rfl, by kernel_rfl, by kernel_rfl, ?_, ?_, by assumption, ?_⟩
          rotate_left 2
          · (simp only [List.getElem?_toArray, List.getElem?_cons_succ, List.getElem?_cons_zero]; exact rfl)
          · exact fun _ _ _ h => h
          · first
              | (refine Or.inr ⟨by rfl, ?_⟩; exact rfl)
              | (refine Or.inl ⟨by rfl, ?_⟩
                 intro w hSw
                 (try dsimp only at hSw)
                 (try go_split_ands)
                 go_simp
                 (first | done | with_reducible rfl))
          try simp only [Act.put, List.setIfInBounds_toArray, List.set_cons_zero, List.set_cons_succ]
          refine wpAnyH_ready (rs := [1]) (by kernel_rfl) (by simp) ?_
          refine call_h 1 ⟨?_, ?_, fun K hK => ?_⟩
          rotate_left 1
          · (simp only [List.getElem?_toArray, List.getElem?_cons_succ, List.getElem?_cons_zero]; exact rfl)
          go_simp
          (go_at_call 31; refine HSI.out.mono ?_; rintro e w2 ⟨rfl, rfl⟩)
          go_wp2_with fail
          refine hK.out _ _ hHeld (fun hHeld => ?_)
          clear hK K
          (try simp only [Act.put, List.setIfInBounds_toArray, List.set_cons_zero, List.set_cons_succ])
          refine take_h 7 ⟨?_, ?_, ?_, by kernel_rfl, by kernel_rfl, by kernel_rfl, ?_, ?_, by assumption, ?_⟩
          rotate_left 2
          · (simp only [List.getElem?_toArray, List.getElem?_cons_succ, List.getElem?_cons_zero]; exact rfl)
          · exact fun _ _ _ h => h
          · first
              | (refine Or.inr ⟨by rfl, ?_⟩; exact rfl)
              | (refine Or.inl ⟨by rfl, ?_⟩
                 intro w hSw
                 (try dsimp only at hSw)
                 (try go_split_ands)
                 go_simp
                 (first | done | with_reducible rfl))
          try simp only [Act.put, List.setIfInBounds_toArray, List.set_cons_zero, List.set_cons_succ]
          refine wpAnyH_done (by kernel_rfl) ?_ _
          clear hHeld
          go_wp2
          go_ret2
          rw [← HE.out]
          exact ⟨_, rfl, .inl ⟨rfl, rfl⟩, HB0.out.drew⟩
        · have hf' : ¬ ((65536 : Int) - (a.s.length : Int) - 128 < (W : Int)) := by omega
          rw [if_neg hf] at hDD
          have HE := Lib.hid hDD
          clear hDD hb hf hWW
          go_enter Try.func15, Try.ntmps15
          go_upto_region 16 with (go_at_call 18; refine (Within_any _ _ 7 (by omega) (by omega)).mono ?_; rintro e w' ⟨rfl, rfl⟩; rw [HK.out])
          refine wp_region_held_drew (S := fun wx => wx.cell? ⟨w.heap.size, 1, none⟩ = some (.string ⟨a.s.toArray⟩)) (by kernel_rfl) b1 (fun hHeld => ?_)
          refine take_h 0 ⟨?_, ?_, ?_, by kernel_rfl, by kernel_rfl, by kernel_rfl, ?_, ?_, by assumption, ?_⟩
          rotate_left 2
          · (simp only [List.getElem?_toArray, List.getElem?_cons_zero]; exact rfl)
          · exact fun _ _ _ h => h
          · first
              | (refine Or.inr ⟨by rfl, ?_⟩; exact rfl)
              | (refine Or.inl ⟨by rfl, ?_⟩
                 intro w hSw
                 (try dsimp only at hSw)
                 (try go_split_ands)
                 go_simp
                 (first | done | with_reducible rfl))
          try simp only [Act.put, List.setIfInBounds_toArray, List.set_cons_zero, List.set_cons_succ]
          refine take_h 2 ⟨?_, ?_, ?_, by kernel_rfl, by kernel_rfl, by kernel_rfl, ?_, ?_, by assumption, ?_⟩
          rotate_left 2
          · (simp only [List.getElem?_toArray, List.getElem?_cons_succ, List.getElem?_cons_zero]; exact rfl)
          · exact fun _ _ _ h => h
          · first
              | (refine Or.inr ⟨by rfl, ?_⟩; exact rfl)
              | (refine Or.inl ⟨by rfl, ?_⟩
                 intro w hSw
                 (try dsimp only at hSw)
                 (try go_split_ands)
                 go_simp
                 (first | done | with_reducible rfl))
          try simp only [Act.put, List.setIfInBounds_toArray, List.set_cons_zero, List.set_cons_succ]
          refine take_h 3 ⟨?_, ?_, ?_, by kernel_rfl, by kernel_rfl, by kernel_rfl, ?_, ?_, by assumption, ?_⟩
          rotate_left 2
          · (simp only [List.getElem?_toArray, List.getElem?_cons_succ, List.getElem?_cons_zero]; exact rfl)
          · exact fun _ _ _ h => h
          · first
              | (refine Or.inr ⟨by rfl, ?_⟩; exact rfl)
              | (refine Or.inl ⟨by rfl, ?_⟩
                 intro w hSw
                 (try dsimp only at hSw)
                 (try go_split_ands)
                 go_simp
                 (first | done | with_reducible rfl))
          try simp only [Act.put, List.setIfInBounds_toArray, List.set_cons_zero, List.set_cons_succ]
          refine take_h 4 ⟨?_, ?_, ?_, by kernel_rfl, by kernel_rfl, by kernel_rfl, ?_, ?_, by assumption, ?_⟩
          rotate_left 2
          · (simp only [List.getElem?_toArray, List.getElem?_cons_succ, List.getElem?_cons_zero]; exact rfl)
          · exact fun _ _ _ h => h
          · first
              | (refine Or.inr ⟨by rfl, ?_⟩; exact rfl)
              | (refine Or.inl ⟨by rfl, ?_⟩
                 intro w hSw
                 (try dsimp only at hSw)
                 (try go_split_ands)
                 go_simp
                 (first | done | with_reducible rfl))
          try simp only [Act.put, List.setIfInBounds_toArray, List.set_cons_zero, List.set_cons_succ]
          refine take_h 5 ⟨?_, ?_, ?_, by kernel_rfl, by kernel_rfl, by kernel_rfl, ?_, ?_, by assumption, ?_⟩
          rotate_left 2
          · (simp only [List.getElem?_toArray, List.getElem?_cons_succ, List.getElem?_cons_zero]; exact rfl)
          · exact fun _ _ _ h => h
          · first
              | (refine Or.inr ⟨by rfl, ?_⟩; exact rfl)
              | (refine Or.inl ⟨by rfl, ?_⟩
                 intro w hSw
                 (try dsimp only at hSw)
                 (try go_split_ands)
                 go_simp
                 (first | done | with_reducible rfl))
          try simp only [Act.put, List.setIfInBounds_toArray, List.set_cons_zero, List.set_cons_succ]
          refine take_h 6 ⟨?_, ?_, ?_, by kernel_rfl, by kernel_rfl, by kernel_rfl, ?_, ?_, by assumption, ?_⟩
          rotate_left 2
          · (simp only [List.getElem?_toArray, List.getElem?_cons_succ, List.getElem?_cons_zero]; exact rfl)
          · exact fun _ _ _ h => h
          · first
              | (refine Or.inr ⟨by rfl, ?_⟩; exact rfl)
              | (refine Or.inl ⟨by rfl, ?_⟩
                 intro w hSw
                 (try dsimp only at hSw)
                 (try go_split_ands)
                 go_simp
                 (first | done | with_reducible rfl))
          try simp only [Act.put, List.setIfInBounds_toArray, List.set_cons_zero, List.set_cons_succ]
          refine wpAnyH_ready (rs := [1]) (by kernel_rfl) (by simp) ?_
          refine call_h 1 ⟨?_, ?_, fun K hK => ?_⟩
          rotate_left 1
          · (simp only [List.getElem?_toArray, List.getElem?_cons_succ, List.getElem?_cons_zero]; exact rfl)
          go_simp
          (go_at_call 31; refine HSI.out.mono ?_; rintro e w2 ⟨rfl, rfl⟩)
          go_wp2_with fail
          refine hK.out _ _ hHeld (fun hHeld => ?_)
          clear hK K
          (try simp only [Act.put, List.setIfInBounds_toArray, List.set_cons_zero, List.set_cons_succ])
          refine take_h 7 ⟨?_, ?_, ?_, by kernel_rfl, by kernel_rfl, by kernel_rfl, ?_, ?_, by assumption, ?_⟩
          rotate_left 2
          · (simp only [List.getElem?_toArray, List.getElem?_cons_succ, List.getElem?_cons_zero]; exact rfl)
          · exact fun _ _ _ h => h
          · first
              | (refine Or.inr ⟨by rfl, ?_⟩; exact rfl)
              | (refine Or.inl ⟨by rfl, ?_⟩
                 intro w hSw
                 (try dsimp only at hSw)
                 (try go_split_ands)
                 go_simp
                 (first | done | with_reducible rfl))
          try simp only [Act.put, List.setIfInBounds_toArray, List.set_cons_zero, List.set_cons_succ]
          refine wpAnyH_done (by kernel_rfl) ?_ _
          clear hHeld
          go_upto_region 18 with fail
          have HWL : Hid (128 * l.length ≤ 65536) := Lib.hid (by have := wtL_len l; rw [HWW.out] at this; omega)
          have HCPf : Hid (∀ wx, Below w0.heap.size w0 wx → Calls Try.prog 32 #[.slice vo l.length vc] wx fun e w' => ∃ v', e = .returned v' ∧ w'.ownsRow wx.heap.size 9 1 v' l.length (sts l) ∧ Below wx.heap.size wx w') := Lib.hid (fun wx hbx => CopyStrings_any wx _ l w.heap.size (HV0.out.below (hbx.mono (by have := HSZ.out; omega))) (by have := hbx.size; have := HSZ.out; omega) (by have := HWL.out; omega))
          have bb1 : w0.drew.drew.cell? ⟨w.heap.size, 1, none⟩ = some (.string ⟨a.s.toArray⟩) := b1
          obtain ⟨wq, hwq⟩ : ∃ wq, w0.drew.drew = wq := ⟨_, rfl⟩
          have hbq : Below w0.heap.size w0 wq := by rw [← hwq]; exact (Below.refl _ _).drew.drew
          have HBQ := Lib.hid hbq
          have HCQ := Lib.hid (HCPf.out wq hbq)
          have hbA : Below wq.heap.size wq (wq.alloc (.cells #[.string ⟨a.s.toArray⟩] 9)) := (Below.refl _ _).alloc (Nat.le_refl _) _
          have HCA := Lib.hid (HCPf.out (wq.alloc (.cells #[.string ⟨a.s.toArray⟩] 9)) (hbq.trans (hbA.mono hbq.size)))
          have HBA := Lib.hid hbA
          clear hbq hbA
          refine wp_region_held_drew (S := fun wx => wx.cell? ⟨w.heap.size, 1, none⟩ = some (.string ⟨a.s.toArray⟩)) (by kernel_rfl) bb1 (fun hHeld => ?_)
          rw [hwq] at hHeld ⊢
          clear bb1 hwq
          refine take_h 0 ⟨?_, ?_, ?_, by kernel_rfl, by kernel_rfl, by kernel_rfl, ?_, ?_, by assumption, ?_⟩
          rotate_left 2
          · (simp only [List.getElem?_toArray, List.getElem?_cons_zero]; exact rfl)
          · exact fun _ _ _ h => h
          · first
              | (refine Or.inr ⟨by rfl, ?_⟩; exact rfl)
              | (refine Or.inl ⟨by rfl, ?_⟩
                 intro w hSw
                 (try dsimp only at hSw)
                 (try go_split_ands)
                 go_simp
                 (first | done | with_reducible rfl))
          try simp only [Act.put, List.setIfInBounds_toArray, List.set_cons_zero, List.set_cons_succ]
          refine take_h 2 ⟨?_, ?_, ?_, by kernel_rfl, by kernel_rfl, by kernel_rfl, ?_, ?_, by assumption, ?_⟩
          rotate_left 2
          · (simp only [List.getElem?_toArray, List.getElem?_cons_succ, List.getElem?_cons_zero]; exact rfl)
          · exact fun _ _ _ h => h
          · first
              | (refine Or.inr ⟨by rfl, ?_⟩; exact rfl)
              | (refine Or.inl ⟨by rfl, ?_⟩
                 intro w hSw
                 (try dsimp only at hSw)
                 (try go_split_ands)
                 go_simp
                 (first | done | with_reducible rfl))
          try simp only [Act.put, List.setIfInBounds_toArray, List.set_cons_zero, List.set_cons_succ]
          refine take_h 3 ⟨?_, ?_, ?_, by kernel_rfl, by kernel_rfl, by kernel_rfl, ?_, ?_, by assumption, ?_⟩
          rotate_left 2
          · (simp only [List.getElem?_toArray, List.getElem?_cons_succ, List.getElem?_cons_zero]; exact rfl)
          · exact fun _ _ _ h => h
          · first
              | (refine Or.inr ⟨by rfl, ?_⟩; exact rfl)
              | (refine Or.inl ⟨by rfl, ?_⟩
                 intro w hSw
                 (try dsimp only at hSw)
                 (try go_split_ands)
                 go_simp
                 (first | done | with_reducible rfl))
          try simp only [Act.put, List.setIfInBounds_toArray, List.set_cons_zero, List.set_cons_succ]
          refine wpAnyH_ready (rs := [1, 4]) (by kernel_rfl) (by simp) ?_
          refine two_h 1 4 ⟨?_, ?_, fun K hK => ?_⟩ ⟨?_, ?_, fun K hK => ?_⟩
          rotate_left 1
          · (simp only [List.getElem?_toArray, List.getElem?_cons_succ, List.getElem?_cons_zero]; exact rfl)
          · go_simp
            go_at_call 32
            refine HCQ.out.mono ?_
            rintro e w2 ⟨v2, rfl, hv2', hb2⟩
            obtain ⟨vo2, vc2, rfl, _, _⟩ := (Rd.of_own hv2').form
            have HR2 := Lib.hid (own_base hv2' (show w.heap.size + 1 ≤ wq.heap.size by have := HBQ.out.size; have := HSZ.out; omega))
            have HB2 := Lib.hid (HBQ.out.trans (hb2.mono HBQ.out.size))
            have hc2 := cell_left' hHeld (Left.of_below hb2 []) (by simp)
            clear hv2' hb2
            go_wp2_with fail
            refine hK.out _ _ hc2 (fun hHeld => ?_)
            clear hK K
            (try simp only [Act.put, List.setIfInBounds_toArray, List.set_cons_zero, List.set_cons_succ])
            clear hc2
            refine wpAnyH_ready (rs := [4]) (by kernel_rfl) (by simp) ?_
            refine call_h 4 ⟨?_, ?_, fun K hK => ?_⟩
            rotate_left 1
            · (simp only [List.getElem?_toArray, List.getElem?_cons_succ, List.getElem?_cons_zero]; exact rfl)
            go_simp
            skip
            go_wp2_with fail
            have hA0 : Rd (w2.alloc (.cells #[.string ⟨a.s.toArray⟩] 9)) (w2.heap.size + 1) 1 (.slice (some ⟨w2.heap.size, 0, none⟩) 1 1) 1 [.string ⟨a.s.toArray⟩] := one_newS w2 _
            have hbA : Below w2.heap.size w2 (w2.alloc (.cells #[.string ⟨a.s.toArray⟩] 9)) := (Below.refl _ _).alloc (Nat.le_refl _) _
            generalize (w2.alloc (.cells #[.string ⟨a.s.toArray⟩] 9)) = wA at hA0 hbA ⊢
            have hcA := cell_left' hHeld (Left.of_below hbA []) (by simp)
            have HRA := Lib.hid (own_below HR2.out hbA)
            have HBAA := Lib.hid (HB2.out.trans (hbA.mono HB2.out.size))
            have HA0 := Lib.hid hA0
            clear hA0 hbA
            refine hK.out _ _ hcA (fun hHeld => ?_)
            clear hK K
            (try simp only [Act.put, List.setIfInBounds_toArray, List.set_cons_zero, List.set_cons_succ])
            clear hcA
            refine wpAnyH_ready (rs := [5]) (by kernel_rfl) (by simp) ?_
            refine call_h 5 ⟨?_, ?_, fun K hK => ?_⟩
            rotate_left 1
            · (simp only [List.getElem?_toArray, List.getElem?_cons_succ, List.getElem?_cons_zero]; exact rfl)
            rw [if_pos (by rfl)]
            (refine op_app (.tmp 54) (.tmp 57) 35 rfl (w.heap.size + 1) 9 (.string ⟨#[]⟩) 1 16 Try.underlying35 inf_Ts rfl (by omega) _ l.length (sts l) rfl HRA.out _ _ 1 [.string ⟨a.s.toArray⟩] rfl HA0.out (by simp [Value.oneCell']) ?_ ?_ ?_ ?_)
            · unfold maxLen; have := HWL.out; omega
            · have := HWL.out; omega
            · have := HBAA.out.size; have := HSZ.out; omega
            intro v7 w7 hrow hg hat7
            obtain ⟨vo7, vc7, rfl, _, _⟩ := (Rd.of_own hrow).form
            have hb7 : Below w.heap.size w w7 := (HB0.out.trans (HBAA.out.mono (by have := HSZ.out; omega))).grown hg (by have := HBAA.out.size; have := HSZ.out; omega) (fun k hk => by have := (HRA.out.lt k hk).1; omega)
            have H7 := Lib.hid (And.intro hrow hb7)
            have hc7 := cell_left' hHeld (left_of_grown hg) (fun hm => absurd (show w.heap.size + 1 ≤ w.heap.size from (HRA.out.lt _ (mem_ownL.1 hm)).1) (by omega))
            clear hrow hg hat7 hb7
            refine hK.out _ _ hc7 (fun hHeld => ?_)
            clear hK K
            (try simp only [Act.put, List.setIfInBounds_toArray, List.set_cons_zero, List.set_cons_succ])
            clear hc7
            refine take_h 6 ⟨?_, ?_, ?_, by kernel_rfl, by kernel_rfl, by kernel_rfl, ?_, ?_, by assumption, ?_⟩
            rotate_left 2
            · (simp only [List.getElem?_toArray, List.getElem?_cons_succ, List.getElem?_cons_zero]; exact rfl)
            · exact fun _ _ _ h => h
            · first
                | (refine Or.inr ⟨by rfl, ?_⟩; exact rfl)
                | (refine Or.inl ⟨by rfl, ?_⟩
                   intro w hSw
                   (try dsimp only at hSw)
                   (try go_split_ands)
                   go_simp
                   (first | done | with_reducible rfl))
            try simp only [Act.put, List.setIfInBounds_toArray, List.set_cons_zero, List.set_cons_succ]
            refine take_h 7 ⟨?_, ?_, ?_, by kernel_rfl, by kernel_rfl, by kernel_rfl, ?_, ?_, by assumption, ?_⟩
            rotate_left 2
            · (simp only [List.getElem?_toArray, List.getElem?_cons_succ, List.getElem?_cons_zero]; exact rfl)
            · exact fun _ _ _ h => h
            · first
                | (refine Or.inr ⟨by rfl, ?_⟩; exact rfl)
                | (refine Or.inl ⟨by rfl, ?_⟩
                   intro w hSw
                   (try dsimp only at hSw)
                   (try go_split_ands)
                   go_simp
                   (first | done | with_reducible rfl))
            try simp only [Act.put, List.setIfInBounds_toArray, List.set_cons_zero, List.set_cons_succ]
            refine wpAnyH_done (by kernel_rfl) ?_ _
            clear hHeld
            go_wp2
            go_ret2
            rw [← HE.out]
            exact ⟨_, rfl, .inr (own_base (by simpa [sts, strL] using H7.out.1) (Nat.le_succ _)), H7.out.2⟩
          rotate_left 1
          · (simp only [List.getElem?_toArray, List.getElem?_cons_succ, List.getElem?_cons_zero]; exact rfl)
          · go_simp
            go_wp2_with fail
            have hA0 : Rd (wq.alloc (.cells #[.string ⟨a.s.toArray⟩] 9)) (wq.heap.size + 1) 1 (.slice (some ⟨wq.heap.size, 0, none⟩) 1 1) 1 [.string ⟨a.s.toArray⟩] := one_newS wq _
            have hsA : (wq.alloc (.cells #[.string ⟨a.s.toArray⟩] 9)).heap.size = wq.heap.size + 1 := by simp
            generalize (wq.alloc (.cells #[.string ⟨a.s.toArray⟩] 9)) = wA at hA0 hsA HCA HBA ⊢
            have hcA := cell_left' hHeld (Left.of_below HBA.out []) (by simp)
            have HA0 := Lib.hid (And.intro hA0 hsA)
            clear hA0 hsA
            refine hK.out _ _ hcA (fun hHeld => ?_)
            clear hK K
            (try simp only [Act.put, List.setIfInBounds_toArray, List.set_cons_zero, List.set_cons_succ])
            clear hcA
            refine wpAnyH_ready (rs := [1]) (by kernel_rfl) (by simp) ?_
            refine call_h 1 ⟨?_, ?_, fun K hK => ?_⟩
            rotate_left 1
            · (simp only [List.getElem?_toArray, List.getElem?_cons_succ, List.getElem?_cons_zero]; exact rfl)
            go_simp
            (go_at_call 32; refine HCA.out.mono ?_; rintro e w3 ⟨v2, rfl, hv2', hb2⟩; obtain ⟨vo2, vc2, rfl, _, _⟩ := (Rd.of_own hv2').form)
            go_wp2_with fail
            have hc3 := cell_left' hHeld (Left.of_below hb2 []) (by simp)
            have HRA := Lib.hid (own_base hv2' (show w.heap.size + 1 ≤ wA.heap.size by have := HBQ.out.size; have := HSZ.out; have := HA0.out.2; omega))
            have HBAA := Lib.hid (((HBQ.out.trans (HBA.out.mono HBQ.out.size))).trans (hb2.mono (by have := HBQ.out.size; have := HBA.out.size; omega)))
            have HA1 := Lib.hid (HA0.out.1.below (hb2.mono (by have := HA0.out.2; omega)))
            clear hv2' hb2
            refine hK.out _ _ hc3 (fun hHeld => ?_)
            clear hK K
            (try simp only [Act.put, List.setIfInBounds_toArray, List.set_cons_zero, List.set_cons_succ])
            clear hc3
            refine wpAnyH_ready (rs := [5]) (by kernel_rfl) (by simp) ?_
            refine call_h 5 ⟨?_, ?_, fun K hK => ?_⟩
            rotate_left 1
            · (simp only [List.getElem?_toArray, List.getElem?_cons_succ, List.getElem?_cons_zero]; exact rfl)
            rw [if_pos (by rfl)]
            (refine op_app (.tmp 54) (.tmp 57) 35 rfl (w.heap.size + 1) 9 (.string ⟨#[]⟩) 1 16 Try.underlying35 inf_Ts rfl (by omega) _ l.length (sts l) rfl HRA.out _ _ 1 [.string ⟨a.s.toArray⟩] rfl HA1.out (by simp [Value.oneCell']) ?_ ?_ ?_ ?_)
            · unfold maxLen; have := HWL.out; omega
            · have := HWL.out; omega
            · have := HBAA.out.size; have := HSZ.out; omega
            intro v7 w7 hrow hg hat7
            obtain ⟨vo7, vc7, rfl, _, _⟩ := (Rd.of_own hrow).form
            have hb7 : Below w.heap.size w w7 := (HB0.out.trans (HBAA.out.mono (by have := HSZ.out; omega))).grown hg (by have := HBAA.out.size; have := HSZ.out; omega) (fun k hk => by have := (HRA.out.lt k hk).1; omega)
            have H7 := Lib.hid (And.intro hrow hb7)
            have hc7 := cell_left' hHeld (left_of_grown hg) (fun hm => absurd (show w.heap.size + 1 ≤ w.heap.size from (HRA.out.lt _ (mem_ownL.1 hm)).1) (by omega))
            clear hrow hg hat7 hb7
            refine hK.out _ _ hc7 (fun hHeld => ?_)
            clear hK K
            (try simp only [Act.put, List.setIfInBounds_toArray, List.set_cons_zero, List.set_cons_succ])
            clear hc7
            refine take_h 6 ⟨?_, ?_, ?_, by kernel_rfl, by kernel_rfl, by kernel_rfl, ?_, ?_, by assumption, ?_⟩
            rotate_left 2
            · (simp only [List.getElem?_toArray, List.getElem?_cons_succ, List.getElem?_cons_zero]; exact rfl)
            · exact fun _ _ _ h => h
            · first
                | (refine Or.inr ⟨by rfl, ?_⟩; exact rfl)
                | (refine Or.inl ⟨by rfl, ?_⟩
                   intro w hSw
                   (try dsimp only at hSw)
                   (try go_split_ands)
                   go_simp
                   (first | done | with_reducible rfl))
            try simp only [Act.put, List.setIfInBounds_toArray, List.set_cons_zero, List.set_cons_succ]
            refine take_h 7 ⟨?_, ?_, ?_, by kernel_rfl, by kernel_rfl, by kernel_rfl, ?_, ?_, by assumption, ?_⟩
            rotate_left 2
            · (simp only [List.getElem?_toArray, List.getElem?_cons_succ, List.getElem?_cons_zero]; exact rfl)
            · exact fun _ _ _ h => h
            · first
                | (refine Or.inr ⟨by rfl, ?_⟩; exact rfl)
                | (refine Or.inl ⟨by rfl, ?_⟩
                   intro w hSw
                   (try dsimp only at hSw)
                   (try go_split_ands)
                   go_simp
                   (first | done | with_reducible rfl))
            try simp only [Act.put, List.setIfInBounds_toArray, List.set_cons_zero, List.set_cons_succ]
            refine wpAnyH_done (by kernel_rfl) ?_ _
            clear hHeld
            go_wp2
            go_ret2
            rw [← HE.out]
            exact ⟨_, rfl, .inr (own_base (by simpa [sts, strL] using H7.out.1) (Nat.le_succ _)), H7.out.2⟩
end
section
open Go.RowKit
section
variable {w w' w1 : World} {base R RD : Nat} {X : List Nat} {sy : Bool} {ls l ls' l' : List (List UInt8)} {G N G' N' : Int}
theorem KG.mono (h : KG w base R RD X sy ls l G N) (hG : G ≤ G') (hN : N ≤ N') : KG w base R RD X sy ls l G' N' := by
  obtain ⟨L, h1, h2, h3⟩ := h
  exact ⟨L, h1, ⟨h2.ok, h2.ar, ⟨h2.g.1, Int.le_trans h2.g.2 hG⟩, ⟨h2.n.1, Int.le_trans h2.n.2 hN⟩⟩, h3⟩
theorem KP.mono (h : KP w base R RD X sy ls l G N w') (hG : G ≤ G') (hN : N ≤ N') : KP w base R RD X sy ls l G' N' w' := by
  obtain ⟨X', h1, h2⟩ := h
  exact ⟨X', h1.mono hG hN, h2⟩
theorem KP.pre (hb : Below w.heap.size w w1) (h : KP w1 base R RD X sy ls l G N w') : KP w base R RD X sy ls l G N w' := by
  obtain ⟨X', h1, h2, h3⟩ := h
  exact ⟨X', h1, (Left.of_below hb X).trans h2 (fun k hk => .inl hk), fun k hk => (h3 k hk).imp id (fun h => Nat.le_trans hb.size h)⟩
end
def DoP (w : World) (base R RD : Nat) (X : List Nat) (l : List (List UInt8)) (a : Act6) (G N : Int) (D : List (List UInt8) × Int) (e : Ending) (w' : World) : Prop :=
  e = .returned (.int .i64 D.2) ∧ ∃ sy ls', KP w base R RD X sy ls' D.1 (G + 1) (N + 10000) w' ∧ (within a.d 7 = 6 → sy = true)
section
variable {base R RD : Nat} {X : List Nat} {sy : Bool} {ls l : List (List UInt8)} {G N : Int}
set_option maxRecDepth 20000 in
set_option maxHeartbeats 8000000 in
theorem kdoes (w : World) (h : KG w base R RD X sy ls l G N) (hz : base ≤ w.heap.size) (hG : G ≤ 1000000) (hN : N ≤ 800000000) (a : Act6) (lv kv : Value) (hL : Rd w w.heap.size 1 lv a.l.length (sts a.l)) (hx : ∀ x ∈ a.l, x.length ≤ 100000) (hal : a.l.length ≤ 100000) (hs : a.s.length ≤ 100000) :
    Calls Try.prog 16 #[.pointer (some ⟨R, 0, none⟩), .agg #[.int .i64 a.d, .string ⟨a.s.toArray⟩, lv, kv]] w (DoP w base R RD X l a G N (nextD l a)) := by
  obtain ⟨lo, lc, rfl, hl1, hl2⟩ := hL.form
  obtain ⟨w0, hw0⟩ : ∃ w0, w0 = w.alloc (.cells #[.int .i64 a.d, .string ⟨a.s.toArray⟩, .slice lo a.l.length lc, kv] 42) := ⟨_, rfl⟩
  have hb0 : Below w.heap.size w w0 := by rw [hw0]; exact (Below.refl _ _).alloc (Nat.le_refl _) _
  have hW0 : Whole w0 w.heap.size 42 [.int .i64 a.d, .string ⟨a.s.toArray⟩, .slice lo a.l.length lc, kv] := by rw [hw0]; exact Whole.new w 42 _
  have b0 : w0.cell? ⟨w.heap.size, 0, none⟩ = some (.int .i64 a.d) := by rw [hW0.cell]; rfl
  have b1 : w0.cell? ⟨w.heap.size, 1, none⟩ = some (.string ⟨a.s.toArray⟩) := by rw [hW0.cell]; rfl
  have b2 : w0.cell? ⟨w.heap.size, 2, none⟩ = some (.slice lo a.l.length lc) := by rw [hW0.cell]; rfl
  have hL0 := hL.belowH hb0 (Nat.le_refl _)
  have hk0 := h.below hb0
  have hz0 : base ≤ w0.heap.size := Nat.le_trans hz hb0.size
  obtain ⟨K, hKK⟩ : ∃ K, within a.d 7 = K := ⟨_, rfl⟩
  obtain ⟨D, hD⟩ : ∃ D, nextD l a = D := ⟨_, rfl⟩
  have hD0 := hD
  unfold nextD at hD
  rw [hKK] at hD
  rw [hD0]
  have HK := Lib.hid hKK
  have HD := Lib.hid hD
  have HB0 := Lib.hid hb0
  have HL0 := Lib.hid hL0
  have HX := Lib.hid hx
  have HKG := Lib.hid hk0
  have HXlt := Lib.hid h.lt
  have HSZ := Lib.hid (And.intro hb0.size (And.intro (by rw [hw0]; simp : w0.heap.size = w.heap.size + 1) hz0))
  have HGN := Lib.hid (And.intro hG hN)
  have hch := hw0.symm
  clear h hL hb0 hW0 hw0 hL0 hKK hD hD0 hx hl2 hk0 hz hz0 hG hN
  by_cases h4 : K = 4
  · have h4' : (K == 4) = true := beq_iff_eq.2 h4
    have hDD := HD.out
    rw [if_pos h4] at hDD
    have HD4 := Lib.hid hDD
    have HK4 := Lib.hid h4
    have HCP := Lib.hid (CopyStrings_any w0 _ a.l _ HL0.out (by have := HSZ.out; omega) (by omega))
    clear hDD h4
    go_enter Try.func16, Try.ntmps16
    go_wp2_with (go_at_call 18; refine (Within_any _ _ 7 (by omega) (by omega)).mono ?_; rintro e w' ⟨rfl, rfl⟩; rw [HK.out])
    refine HCP.out.mono ?_
    rintro e w2 ⟨v2, rfl, hv2, hb2⟩
    obtain ⟨vo2, vc2, rfl, _, _⟩ := (Rd.of_own hv2).form
    have hk2 := HKG.out.below hb2
    have hX2 : ∀ k ∈ X, (Value.slice vo2 a.l.length vc2).ownBlock ≠ some k := fun k hk e => by
      have h1 := (hv2.lt k e).1
      have h2 := (HXlt.out k hk).2
      have := HSZ.out
      omega
    have hrd2 : ∀ w', Left X w2 w' → Rd w' w'.heap.size 1 (.slice vo2 a.l.length vc2) a.l.length (a.l.map strL) := fun w' hl => Rd.of_own (own_leftB hv2 hl hX2)
    have hz2 : base ≤ w2.heap.size := by have := hb2.size; have := HSZ.out; omega
    have HRS : Hid (Calls Try.prog 11 #[.pointer (some ⟨R, 0, none⟩), .slice vo2 a.l.length vc2] w2 fun e w' => e = .returned (.int .i64 D.2) ∧ ∃ sy ls', KP w2 base R RD X sy ls' D.1 (G + 1) (N + 10000) w') := Lib.hid (by
      have hDD := HD4.out
      by_cases hbig : ∃ x ∈ a.l, 16384 < x.length
      · rw [if_pos hbig] at hDD
        have hc := kreset_no hk2 hz2 HGN.out.1 HGN.out.2 _ a.l hrd2 (fun x hx => by have := HX.out x hx; omega) (.inl hbig)
        rw [if_pos hbig] at hc
        rw [← hDD]
        exact hc.mono fun e w' ⟨h1, h2⟩ => ⟨h1, _, _, h2.mono (by omega) (by omega)⟩
      · rw [if_neg hbig] at hDD
        by_cases hf : 65536 < wtL a.l
        · rw [if_pos hf] at hDD
          have hc := kreset_no hk2 hz2 HGN.out.1 HGN.out.2 _ a.l hrd2 (fun x hx => by have := HX.out x hx; omega) (.inr hf)
          rw [if_neg hbig] at hc
          rw [← hDD]
          exact hc.mono fun e w' ⟨h1, h2⟩ => ⟨h1, _, _, h2.mono (by omega) (by omega)⟩
        · rw [if_neg hf] at hDD
          have hc := kreset hk2 hz2 HGN.out.1 HGN.out.2 _ a.l hrd2 (fun x hx => by
            rcases Nat.lt_or_ge 16384 x.length with h | h
            · exact absurd ⟨x, hx, h⟩ hbig
            · exact h) (by omega)
          rw [← hDD]
          exact hc.mono fun e w' ⟨h1, h2⟩ => ⟨h1, _, _, h2⟩)
    have H2 := Lib.hid (And.intro hv2 hb2)
    clear hv2 hb2 hk2 hX2 hrd2 hz2
    go_wp2_with fail
    refine HRS.out.mono ?_
    rintro e w3 ⟨rfl, sy3, ls3, X3, hk3, hl3, hX3⟩
    have hv3 : w3.ownsRow w0.heap.size 9 1 (.slice vo2 a.l.length vc2) a.l.length (sts a.l) := own_leftB H2.out.1 hl3 (fun k hk e => by
      have h1 := (H2.out.1.lt k e).1
      have h2 := (HXlt.out k hk).2
      have := HSZ.out
      omega)
    have HSP := Lib.hid (Strings_left w3 w0.heap.size _ a.l hv3 (by have := hl3.size; have := H2.out.2.size; omega) (by omega))
    have H3 := Lib.hid (And.intro hk3 (And.intro hl3 hX3))
    clear hk3 hl3 hX3 hv3
    go_wp2_with (go_at_call 8; refine (knum _ _).mono ?_; rintro e w' ⟨rfl, rfl⟩)
    refine HSP.out.mono ?_
    rintro e w4 ⟨rfl, hl4⟩
    have HR : Hid (∃ sy ls', KP w base R RD X sy ls' D.1 (G + 1) (N + 10000) w4 ∧ (within a.d 7 = 6 → sy = true)) := Lib.hid (by
      have hge : ∀ k ∈ Value.ownL (.slice vo2 a.l.length vc2), w0.heap.size ≤ k ∧ k < w2.heap.size := fun k hk => H2.out.1.lt k (mem_ownL.1 hk)
      refine ⟨sy3, ls3, KP.pre HB0.out ⟨X3, H3.out.1.left hl4 (fun k hk hm => ?_), ((Left.of_below H2.out.2 X).trans H3.out.2.1 (fun k hk => .inl hk)).trans hl4 (fun k hk => .inr (hge k hk).1), fun k hk => (H3.out.2.2 k hk).imp id (fun h => Nat.le_trans H2.out.2.size h)⟩, fun h6 => ?_⟩
      · have h1 := hge k hk
        rcases H3.out.2.2 k hm with h | h
        · have := (HXlt.out k h).2; have := HSZ.out; omega
        · omega
      · rw [HK.out, HK4.out] at h6; omega)
    clear hl4
    go_wp2
    go_ret
    exact ⟨rfl, HR.out⟩
  · have h4' : (K == 4) = false := beq_eq_false_iff_ne.2 h4
    have hDD := HD.out
    rw [if_neg h4] at hDD
    by_cases h56 : K = 5 ∨ K = 6
    · rw [if_pos h56] at hDD
      have HE := Lib.hid hDD
      have HSY := Lib.hid (ksync HKG.out HSZ.out.2.2 (by have := HGN.out.2; omega))
      have HR : Hid (∀ w4, KP w0 base R RD X true l l G (N + 1) w4 → ∃ sy ls', KP w base R RD X sy ls' D.1 (G + 1) (N + 10000) w4 ∧ (within a.d 7 = 6 → sy = true)) := Lib.hid (fun w4 hP => ⟨true, l, by rw [← HE.out]; exact KP.pre HB0.out (hP.mono (by omega) (by omega)), fun _ => rfl⟩)
      clear hDD h4
      rcases h56 with h5 | h6
      · have h5' : (K == 5) = true := beq_iff_eq.2 h5
        clear h5
        go_enter Try.func16, Try.ntmps16
        go_wp2_with (go_at_call 18; refine (Within_any _ _ 7 (by omega) (by omega)).mono ?_; rintro e w' ⟨rfl, rfl⟩; rw [HK.out])
        refine HSY.out.mono ?_
        rintro e w3 ⟨rfl, hP⟩
        have HP := Lib.hid (HR.out w3 hP)
        clear hP
        go_wp2_with (go_at_call 8; refine (knum _ _).mono ?_; rintro e w' ⟨rfl, rfl⟩)
        go_ret
        exact ⟨by rw [← HE.out]; rfl, HP.out⟩
      · have h5' : (K == 5) = false := beq_eq_false_iff_ne.2 (by omega)
        have h6' : (K == 6) = true := beq_iff_eq.2 h6
        clear h6
        go_enter Try.func16, Try.ntmps16
        go_wp2_with (go_at_call 18; refine (Within_any _ _ 7 (by omega) (by omega)).mono ?_; rintro e w' ⟨rfl, rfl⟩; rw [HK.out])
        refine HSY.out.mono ?_
        rintro e w3 ⟨rfl, hP⟩
        have HP := Lib.hid (HR.out w3 hP)
        clear hP
        go_wp2_with (go_at_call 8; refine (knum _ _).mono ?_; rintro e w' ⟨rfl, rfl⟩)
        go_ret
        exact ⟨by rw [← HE.out]; rfl, HP.out⟩
    · rw [if_neg h56] at hDD
      have h5' : (K == 5) = false := beq_eq_false_iff_ne.2 (fun h => h56 (.inl h))
      have h6' : (K == 6) = false := beq_eq_false_iff_ne.2 (fun h => h56 (.inr h))
      have hn6 : within a.d 7 ≠ 6 := by rw [HK.out]; exact fun h => h56 (.inr h)
      have HAP : Hid (Calls Try.prog 9 #[.pointer (some ⟨R, 0, none⟩), .string ⟨a.s.toArray⟩] w0 fun e w' => e = .returned (.int .i64 D.2) ∧ ∃ sy ls', KP w base R RD X sy ls' D.1 (G + 1) (N + 10000) w') := Lib.hid (by
        by_cases hb : 16384 < a.s.length
        · rw [if_pos hb] at hDD
          have hc := kappend_no HKG.out HSZ.out.2.2 (by have := HGN.out.2; omega) a.s (by omega) (.inl hb)
          rw [if_pos hb] at hc
          rw [← hDD]
          exact hc.mono fun e w' ⟨h1, h2⟩ => ⟨h1, _, _, KP.pre HB0.out (h2.mono (by omega) (by omega))⟩
        · rw [if_neg hb] at hDD
          by_cases hf : 65536 < a.s.length + 128 + wtL l
          · rw [if_pos hf] at hDD
            have hc := kappend_no HKG.out HSZ.out.2.2 (by have := HGN.out.2; omega) a.s (by omega) (.inr hf)
            rw [if_neg hb] at hc
            rw [← hDD]
            exact hc.mono fun e w' ⟨h1, h2⟩ => ⟨h1, _, _, KP.pre HB0.out (h2.mono (by omega) (by omega))⟩
          · rw [if_neg hf] at hDD
            have hc := kappend HKG.out HSZ.out.2.2 (by have := HGN.out.2; omega) a.s (by omega) (by omega)
            rw [← hDD]
            exact hc.mono fun e w' ⟨h1, h2⟩ => ⟨h1, _, _, KP.pre HB0.out (h2.mono (by omega) (by omega))⟩)
      have HN6 := Lib.hid hn6
      clear h4 h56 hn6 hDD
      go_enter Try.func16, Try.ntmps16
      go_wp2_with (go_at_call 18; refine (Within_any _ _ 7 (by omega) (by omega)).mono ?_; rintro e w' ⟨rfl, rfl⟩; rw [HK.out])
      refine HAP.out.mono ?_
      rintro e w3 ⟨rfl, sy3, ls3, hP⟩
      have HP := Lib.hid hP
      clear hP
      go_wp2_with (go_at_call 8; refine (knum _ _).mono ?_; rintro e w' ⟨rfl, rfl⟩)
      go_ret
      exact ⟨rfl, sy3, ls3, HP.out, fun h => absurd h HN6.out⟩
end
end
end
section
open Go.RowKit
theorem crash_len (s : DS) (picks : List Int) (h64 : ∀ p ∈ s.W, p.2.length = 64) (h : s.K.length = 262144) : (crashK s.W picks s.K).length = 262144 := by
  have := (crashGo_sec (W := s.W) (picks := picks) h64 (List.range (s.K.length / 64)) 0 s.K List.nodup_range (fun n hn => by
    have := List.mem_range.1 hn
    omega)).1
  unfold crashK
  rw [this, h]
theorem crash_img (s : DS) (picks : List Int) (h64 : ∀ p ∈ s.W, p.2.length = 64) (h : s.K.length = 262144) : Img (view s) (fun m => secN (crashK s.W picks s.K) m) := fun m hm => by
  have := (crashGo_sec (W := s.W) (picks := picks) h64 (List.range (s.K.length / 64)) 0 s.K List.nodup_range (fun n hn => by
    have := List.mem_range.1 hn
    omega)).2.2 m (List.mem_range.2 (by omega))
  obtain ⟨q, hq, e⟩ := this
  exact ⟨q, hq, e⟩
theorem same_sync {L : LS} {ls l : List (List UInt8)} {G N : Int} (h : LSafe L ls l G N) (hW : L.d.W = []) (picks : List Int) : Same cbL L.region L.gen l (fun m => secN (crashK L.d.W picks L.d.K) m) := by
  have hi := crash_img L.d picks h.ok.on.w64 h.ok.on.len
  have he : ∀ m, m < 4096 → (fun m => secN (crashK L.d.W picks L.d.K) m) m = (view L.d).2 m := fun m hm => hi.same hm (by
    show secN L.d.K m = secE L.d m
    unfold secE
    rw [hW]
    rfl)
  refine ⟨h.ok.live.opn.congr he, ?_, ?_⟩
  · rw [he 0 (by omega)]; exact h.ok.live.g0
  · rw [he 2048 (by omega)]; exact h.ok.live.g1
def AgP (w : World) (F : List Nat) (B : List UInt8) (e : Ending) (w' : World) : Prop :=
  ∃ R2 F2 base2, e = .returned (.pointer (some ⟨R2, 0, none⟩)) ∧ DkG w' base2 R2 F2 (newS B) ∧ Left F w w' ∧ w.heap.size ≤ base2 ∧ base2 ≤ w'.heap.size
set_option maxRecDepth 20000 in
set_option maxHeartbeats 2000000 in
theorem kagain {w : World} {base RD : Nat} {F : List Nat} {s : DS} (hd : DkG w base RD F s) (hz : base ≤ w.heap.size) (h64 : ∀ p ∈ s.W, p.2.length = 64) (hK : s.K.length = 262144) {pv : Value} {picks : List Int} {B0 : Nat} (hp : Rd w B0 1 pv picks.length (i64s picks)) (hB0 : B0 ≤ w.heap.size) (hpl : picks.length ≤ 1000000) (hpr : ∀ p ∈ picks, InR p) :
    Calls Try.prog 19 #[.pointer (some ⟨RD, 0, none⟩), pv] w (AgP w F (crashK s.W picks s.K)) := by
  have hlen := crash_len s picks h64 hK
  have HCR := Lib.hid (Crash_g hd hz hp hB0 hpl (fun p hp => hpr p hp))
  obtain ⟨B, hB⟩ : ∃ B, crashK s.W picks s.K = B := ⟨_, rfl⟩
  unfold CrashP at HCR
  rw [hB] at HCR hlen ⊢
  obtain ⟨po, pc, rfl, _, _⟩ := hp.form
  have HLN := Lib.hid (And.intro hlen hK)
  clear hd hz hp hpr hB hlen hK h64
  go_enter Try.func19, Try.ntmps19
  go_wp2_with fail
  refine HCR.out.mono ?_
  rintro e w1 ⟨v, rfl, hv, hd1, hl1⟩
  rw [HLN.out.2, ← HLN.out.1] at hv
  obtain ⟨vo, vc, rfl, _, _⟩ := (Rd.of_own hv).form
  have hNW := New_g w1 (B := B) (Rd.of_own hv) (by rw [HLN.out.1]; omega)
  have hm : mayD B.length := by rw [HLN.out.1]; unfold mayD; omega
  unfold NewP at hNW
  simp only [if_pos hm] at hNW
  have HNW := Lib.hid hNW
  have HL1 := Lib.hid hl1
  clear hv hd1 hl1 hNW hm
  go_wp2_with fail
  refine HNW.out.mono ?_
  rintro e w2 ⟨R2, F2, rfl, hd2, hl2⟩
  have HR : Hid (DkG w2 w1.heap.size R2 F2 (newS B) ∧ Left F w w2 ∧ w.heap.size ≤ w1.heap.size ∧ w1.heap.size ≤ w2.heap.size) := Lib.hid ⟨hd2, HL1.out.trans hl2 (by simp), HL1.out.size, hl2.size⟩
  clear hd2 hl2
  go_wp2_with (go_at_call 8; refine (knum _ _).mono ?_; rintro e w' ⟨rfl, rfl⟩)
  go_ret
  exact ⟨R2, F2, _, rfl, HR.out⟩
/-- Opened behind a crash of what was synced: the same. -/
theorem kagain_sync {w : World} {base R RD : Nat} {X : List Nat} {ls l : List (List UInt8)} {G N : Int} (h : KG w base R RD X true ls l G N) (hz : base ≤ w.heap.size) {pv : Value} {picks : List Int} {B0 : Nat} (hp : Rd w B0 1 pv picks.length (i64s picks)) (hB0 : B0 ≤ w.heap.size) (hpl : picks.length ≤ 1000000) (hpr : ∀ p ∈ picks, InR p) :
    Calls Try.prog 19 #[.pointer (some ⟨RD, 0, none⟩), pv] w fun e w' => ∃ B r g, B.length = 262144 ∧ Same cbL r g l (fun m => secN B m) ∧ 0 ≤ g ∧ g ≤ G ∧ AgP w X B e w' := by
  obtain ⟨L, ⟨F, lv, ha, hsub, _⟩, hs, hW⟩ := h
  have hc := kagain ha.disk hz hs.ok.on.w64 hs.ok.on.len hp hB0 hpl hpr
  refine hc.mono fun e w' ⟨R2, F2, base2, h1, h2, h3, h4⟩ => ⟨_, _, _, crash_len L.d picks hs.ok.on.w64 hs.ok.on.len, same_sync hs (hW rfl) picks, hs.g.1, hs.g.2, R2, F2, base2, h1, h2, h3.mono (fun k hk => hsub k (.inr (.inr hk))), h4⟩
end
end Go.Proofs.Ytcgdlmlolmfinaa
