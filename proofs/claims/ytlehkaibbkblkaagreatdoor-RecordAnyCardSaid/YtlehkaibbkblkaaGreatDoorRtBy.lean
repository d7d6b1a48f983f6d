/- Bytes copied and compared, of any row; what RecordTurned asks besides: num, Links of nothing. -/


import Derived.Test.YtlehkaibbkblkaaGreatDoorRcSes
namespace Go.Proofs.YtlehkaibbkblkaaGreatDoor
open Go.RowKit
theorem one_newU (w : World) (e : TypeId) (x : Value) : Rd (w.alloc (.cells #[x] e)) (w.heap.size + 1) 1 (.slice (some ⟨w.heap.size, 0, none⟩) 1 1) 1 [x] := by
  have h := Rd.of_whole (Whole.new w e [x]) (by simp [maxLen])
  simpa using h
theorem take_snoc' {α : Type} (L : List α) (k : Nat) (h : k < L.length) : L.take (k + 1) = L.take k ++ [L[k]] := List.take_succ_eq_append_getElem h

set_option maxHeartbeats 1000000 in
theorem CopyBytes_any (w : World) (v : Value) (L : List UInt8) (Bd : Nat) (h : Rd w Bd 1 v L.length (u8s L)) (hBd : Bd ≤ w.heap.size) (hn : L.length ≤ 140737488355328) :
    Calls Tryz.prog 4 #[v] w fun e w' => ∃ v', e = .returned v' ∧ w'.ownsRow w.heap.size 5 1 v' L.length (u8s L) ∧ Below w.heap.size w w' := by
  obtain ⟨ao, cap, rfl, hc, hm⟩ := h.form
  have hm' : cap ≤ 9223372036854775807 := by unfold maxLen at hm; omega
  have H := Lib.hid h
  clear h hm
  go_enter Tryz.func4, Tryz.ntmps4
  go_wp2
  go_loopw [3, 4] (fun v i wr => ∃ k : Nat, k ≤ L.length ∧ i = .int .i64 k ∧ wr.ownsRow w.heap.size 5 1 v k (u8s (L.take k)) ∧ Below w.heap.size w wr) (fun _ i _ => L.length - (intOf i).toNat)
  case atStart => exact ⟨0, by omega, rfl, by simpa [u8s] using World.ownsRow_nil _ _ _ _, Below.refl _ _⟩
  case round =>
    obtain ⟨k, hk, rfl, hown, hb⟩ := hrel
    by_cases hlt : k < L.length
    · obtain ⟨b, o, u, rfl, hbb, hu, hcell⟩ := (H.out.below (hb.mono hBd)).at_ (k := k) (by omega)
      rw [u8s_at L k hlt] at hu
      injection hu with hu
      subst hu
      obtain ⟨z, hz⟩ : ∃ z, z = L[k] := ⟨_, rfl⟩
      rw [← hz] at hcell
      have HZ := Lib.hid hz
      clear hz
      have HO := Lib.hid hown
      have hzs := hb.size
      clear hown
      go_wp2_with (at_builtin; with_reducible refine wpList_app _ rfl (.tmp 11) (.tmp 16) _ rfl w.heap.size 5 (.int .u8 0) 1 1 Tryz.underlying23 inf_u8 rfl (by omega) _ k (u8s (L.take k)) rfl (HO.out.alloc _) _ _ 1 [.int .u8 z.toNat] rfl (one_newU _ _ _) (by simp [Value.oneCell']) ?_ ?_ ?_ ?_)
      · unfold maxLen; omega
      · omega
      · simp; omega
      intro v1 w1 hown1 hg1 _
      have hb1 := (hb.alloc hzs _).grown hg1 (by simp; omega) (fun g hg => (HO.out.lt g hg).1)
      have hs : u8s (L.take k) ++ [.int .u8 (z.toNat : Int)] = u8s (L.take (k + 1)) := by rw [take_snoc' L k hlt, HZ.out, u8s, u8s, List.map_append]; rfl
      rw [hs] at hown1
      have HO1 := Lib.hid hown1
      clear hown1 hs hg1
      go_wp2
      go_roundw
      case rel => exact ⟨k + 1, by omega, by go_num, HO1.out, hb1⟩
      case measure => simp [intOf]; omega
    · have : k = L.length := by omega
      subst this
      go_wp2
      go_ret
      exact ⟨_, rfl, by simpa using hown, hb⟩

set_option maxHeartbeats 1000000 in
theorem EqBytes_any (w : World) (v1 v2 : Value) (A B : List UInt8) (B1 B2 : Nat) (h1 : Rd w B1 1 v1 A.length (u8s A)) (h2 : Rd w B2 1 v2 B.length (u8s B)) :
    Calls Tryz.prog 6 #[v1, v2] w fun e w' => e = .returned (.bool (decide (A = B))) ∧ Below w.heap.size w w' := by
  obtain ⟨ao, cap, rfl, hc, hm⟩ := h1.form
  obtain ⟨bo, cap2, rfl, hc2, hm2⟩ := h2.form
  have hm' : cap ≤ 9223372036854775807 := by unfold maxLen at hm; omega
  have hm2' : cap2 ≤ 9223372036854775807 := by unfold maxLen at hm2; omega
  have H1 := Lib.hid h1
  have H2 := Lib.hid h2
  clear h1 h2 hm hm2
  by_cases hl : A.length = B.length
  · have HL := Lib.hid hl
    have hne : ((A.length : Int) != (B.length : Int)) = false := by rw [hl]; simp
    have hl1 : A.length ≤ B.length := by omega
    have hl2 : B.length ≤ A.length := by omega
    clear hl
    go_enter Tryz.func6, Tryz.ntmps6
    go_wp2
    go_loopw [5] (fun i wr => ∃ k : Nat, k ≤ A.length ∧ i = .int .i64 k ∧ Hid (A.take k = B.take k) ∧ ∃ nd, wr = w.drewN nd) (fun i _ => A.length - (intOf i).toNat)
    case atStart => exact ⟨0, by omega, rfl, Lib.hid rfl, 0, rfl⟩
    case round =>
      obtain ⟨k, hk, rfl, hpre, nd, rfl⟩ := hrel
      by_cases hlt : k < A.length
      · obtain ⟨b, o, u, rfl, _, hu, hcell⟩ := H1.out.at_ (k := k) (by omega)
        obtain ⟨b2, o2, u2, rfl, _, hu2, hcell2⟩ := H2.out.at_ (k := k) (by omega)
        rw [u8s_at A k hlt] at hu
        rw [u8s_at B k (by omega)] at hu2
        injection hu with hu
        injection hu2 with hu2
        subst hu hu2
        obtain ⟨z, hz⟩ : ∃ z, z = A[k] := ⟨_, rfl⟩
        obtain ⟨z2, hz2⟩ : ∃ z, z = B[k] := ⟨_, rfl⟩
        rw [← hz] at hcell
        rw [← hz2] at hcell2
        have HZ := Lib.hid hz
        have HZ2 := Lib.hid hz2
        clear hz hz2
        by_cases he : z = z2
        · have hb0 : ((z.toNat : Int) != (z2.toNat : Int)) = false := by rw [he]; simp
          have HE := Lib.hid he
          clear he
          go_wp2
          go_quiet (fail)
          go_wp2
          go_roundw
          case rel => exact ⟨k + 1, by omega, by go_num, Lib.hid (by rw [take_snoc' A k hlt, take_snoc' B k (by omega), hpre.out, ← HZ.out, ← HZ2.out, HE.out]), _, rfl⟩
          case measure => simp [intOf]; omega
        · have hzz : z.toNat ≠ z2.toNat := fun h => he (UInt8.toNat_inj.1 h)
          have hb0 : ((z.toNat : Int) != (z2.toNat : Int)) = true := bne_iff_ne.2 (by omega)
          clear hzz
          have hAB : Hid (decide (A = B) = false) := Lib.hid (by
            rw [decide_eq_false_iff_not]
            intro e
            subst e
            exact he (HZ.out.trans HZ2.out.symm))
          clear he
          go_wp2
          go_quiet (fail)
          go_wp2
          go_ret
          exact ⟨by rw [hAB.out]; rfl, below_drewN (below_drewN (Below.refl _ _) _) _⟩
      · have hke : k = A.length := by omega
        subst hke
        have hAB : Hid (decide (A = B) = true) := Lib.hid (by
          rw [decide_eq_true_iff]
          have := hpre.out
          rw [List.take_length, HL.out, List.take_length] at this
          exact this)
        go_wp2
        go_ret
        exact ⟨by rw [hAB.out]; rfl, below_drewN (Below.refl _ _) _⟩
  · have hne : ((A.length : Int) != (B.length : Int)) = true := bne_iff_ne.2 (by omega)
    have hAB : Hid (decide (A = B) = false) := Lib.hid (by
      rw [decide_eq_false_iff_not]
      intro e
      exact hl (by rw [e]))
    clear hl
    go_enter Tryz.func6, Tryz.ntmps6
    go_wp2
    go_ret
    exact ⟨by rw [hAB.out]; rfl, Below.refl _ _⟩

theorem num_any (n : Int) (w : World) : Calls Tryz.prog 7 #[.int .i64 n] w fun e w' => e = .returned (.int .i64 n) ∧ w = w' := by
  go_enter Tryz.func7, Tryz.ntmps7
  go_wp2
  go_ret
  exact ⟨rfl, rfl⟩
end Go.Proofs.YtlehkaibbkblkaaGreatDoor
