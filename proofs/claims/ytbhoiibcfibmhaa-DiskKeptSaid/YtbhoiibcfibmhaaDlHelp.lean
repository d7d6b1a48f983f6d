/- The contracts of what the disk's statements share: CopyNumbers, EqNumbers, Numbers, Bytes (what it leaves). -/

import Derived.Test.YtbhoiibcfibmhaaDkEdge
namespace Go.Proofs.Ytbhoiibcfibmhaa
open Go.RowKit
def i64s (B : List Int) : List Value := B.map (Value.int .i64)
@[simp] theorem i64s_length (B : List Int) : (i64s B).length = B.length := by simp [i64s]
theorem i64s_at (B : List Int) (i : Nat) (h : i < B.length) : (i64s B)[i]? = some (.int .i64 B[i]) := by simp [i64s, h]
theorem i64s_set (B : List Int) (i : Nat) (b : Int) : (i64s B).set i (.int .i64 b) = i64s (B.set i b) := by simp [i64s, List.map_set]
set_option maxHeartbeats 1000000 in
theorem CopyNumbers_any (w : World) (v : Value) (L : List Int) (Bd : Nat) (h : Rd w Bd 1 v L.length (i64s L)) (hBd : Bd ≤ w.heap.size) (hn : L.length ≤ 1048576) :
    Calls Try.prog 25 #[v] w fun e w' => ∃ v', e = .returned v' ∧ w'.ownsRow w.heap.size 3 1 v' L.length (i64s L) ∧ Below w.heap.size w w' := by
  obtain ⟨ao, cap, rfl, hc, hm⟩ := h.form
  have hm' : cap ≤ 9223372036854775807 := by unfold maxLen at hm; omega
  have H := Lib.hid h
  clear h hm
  go_enter Try.func25, Try.ntmps25
  go_wp2
  go_loopw [3, 4] (fun v i wr => ∃ k : Nat, k ≤ L.length ∧ i = .int .i64 k ∧ wr.ownsRow w.heap.size 3 1 v k (i64s (L.take k)) ∧ Below w.heap.size w wr) (fun _ i _ => L.length - (intOf i).toNat)
  case atStart => exact ⟨0, by omega, rfl, by simpa [i64s] using World.ownsRow_nil _ _ _ _, Below.refl _ _⟩
  case round =>
    obtain ⟨k, hk, rfl, hown, hb⟩ := hrel
    by_cases hlt : k < L.length
    · obtain ⟨b, o, u, rfl, hbb, hu, hcell⟩ := (H.out.below (hb.mono hBd)).at_ (k := k) (by omega)
      rw [i64s_at L k hlt] at hu
      injection hu with hu
      subst hu
      obtain ⟨z, hz⟩ : ∃ z, z = L[k] := ⟨_, rfl⟩
      rw [← hz] at hcell
      have HZ := Lib.hid hz
      clear hz
      have HO := Lib.hid hown
      have hzs := hb.size
      clear hown
      go_wp2_with (at_builtin; with_reducible refine wpList_app _ rfl (.tmp 11) (.tmp 16) _ rfl w.heap.size 3 (.int .i64 0) 1 8 Try.underlying33 info_intD rfl (by omega) _ k (i64s (L.take k)) rfl (HO.out.alloc _) _ _ 1 [.int .i64 z] rfl (one_new _ _ _) (by simp [Value.oneCell']) ?_ ?_ ?_ ?_)
      · unfold maxLen; omega
      · omega
      · simp; omega
      intro v1 w1 hown1 hg1 _
      have hb1 := (hb.alloc hzs _).grown hg1 (by simp; omega) (fun g hg => (HO.out.lt g hg).1)
      have hs : i64s (L.take k) ++ [.int .i64 z] = i64s (L.take (k + 1)) := by rw [take_snoc' L k hlt, HZ.out, i64s, i64s, List.map_append]; rfl
      rw [hs] at hown1
      have HO1 := Lib.hid hown1
      clear hown1 hs hg1
      go_wp2
      go_roundw
      case rel => exact ⟨k + 1, by omega, by go_num, HO1.out, hb1⟩
      case measure => simp [intOf]; omega
    · have : k = L.length := by omega
      subst this
      go_wp2
      go_ret
      exact ⟨_, rfl, by simpa using hown, hb⟩

set_option maxHeartbeats 1000000 in
theorem EqNumbers_any (w : World) (v1 v2 : Value) (A B : List Int) (B1 B2 : Nat) (h1 : Rd w B1 1 v1 A.length (i64s A)) (h2 : Rd w B2 1 v2 B.length (i64s B)) :
    Calls Try.prog 29 #[v1, v2] w fun e w' => e = .returned (.bool (decide (A = B))) ∧ Below w.heap.size w w' := by
  obtain ⟨ao, cap, rfl, hc, hm⟩ := h1.form
  obtain ⟨bo, cap2, rfl, hc2, hm2⟩ := h2.form
  have hm' : cap ≤ 9223372036854775807 := by unfold maxLen at hm; omega
  have hm2' : cap2 ≤ 9223372036854775807 := by unfold maxLen at hm2; omega
  have H1 := Lib.hid h1
  have H2 := Lib.hid h2
  clear h1 h2 hm hm2
  by_cases hl : A.length = B.length
  · have HL := Lib.hid hl
    have hne : ((A.length : Int) != (B.length : Int)) = false := by rw [hl]; simp
    have hl1 : A.length ≤ B.length := by omega
    have hl2 : B.length ≤ A.length := by omega
    clear hl
    go_enter Try.func29, Try.ntmps29
    go_wp2
    go_loopw [5] (fun i wr => ∃ k : Nat, k ≤ A.length ∧ i = .int .i64 k ∧ Hid (A.take k = B.take k) ∧ ∃ nd, wr = w.drewN nd) (fun i _ => A.length - (intOf i).toNat)
    case atStart => exact ⟨0, by omega, rfl, Lib.hid rfl, 0, rfl⟩
    case round =>
      obtain ⟨k, hk, rfl, hpre, nd, rfl⟩ := hrel
      by_cases hlt : k < A.length
      · obtain ⟨b, o, u, rfl, _, hu, hcell⟩ := H1.out.at_ (k := k) (by omega)
        obtain ⟨b2, o2, u2, rfl, _, hu2, hcell2⟩ := H2.out.at_ (k := k) (by omega)
        rw [i64s_at A k hlt] at hu
        rw [i64s_at B k (by omega)] at hu2
        injection hu with hu
        injection hu2 with hu2
        subst hu hu2
        obtain ⟨z, hz⟩ : ∃ z, z = A[k] := ⟨_, rfl⟩
        obtain ⟨z2, hz2⟩ : ∃ z, z = B[k] := ⟨_, rfl⟩
        rw [← hz] at hcell
        rw [← hz2] at hcell2
        have HZ := Lib.hid hz
        have HZ2 := Lib.hid hz2
        clear hz hz2
        by_cases he : z = z2
        · have hb0 : (z != z2) = false := by rw [he]; simp
          have HE := Lib.hid he
          clear he
          go_wp2
          go_quiet (fail)
          go_wp2
          go_roundw
          case rel => exact ⟨k + 1, by omega, by go_num, Lib.hid (by rw [take_snoc' A k hlt, take_snoc' B k (by omega), hpre.out, ← HZ.out, ← HZ2.out, HE.out]), _, rfl⟩
          case measure => simp [intOf]; omega
        · have hzz : z ≠ z2 := he
          have hb0 : (z != z2) = true := bne_iff_ne.2 (by omega)
          clear hzz
          have hAB : Hid (decide (A = B) = false) := Lib.hid (by
            rw [decide_eq_false_iff_not]
            intro e
            subst e
            exact he (HZ.out.trans HZ2.out.symm))
          clear he
          go_wp2
          go_quiet (fail)
          go_wp2
          go_ret
          exact ⟨by rw [hAB.out]; rfl, below_drewN (below_drewN (Below.refl _ _) _) _⟩
      · have hke : k = A.length := by omega
        subst hke
        have hAB : Hid (decide (A = B) = true) := Lib.hid (by
          rw [decide_eq_true_iff]
          have := hpre.out
          rw [List.take_length, HL.out, List.take_length] at this
          exact this)
        go_wp2
        go_ret
        exact ⟨by rw [hAB.out]; rfl, below_drewN (Below.refl _ _) _⟩
  · have hne : ((A.length : Int) != (B.length : Int)) = true := bne_iff_ne.2 (by omega)
    have hAB : Hid (decide (A = B) = false) := Lib.hid (by
      rw [decide_eq_false_iff_not]
      intro e
      exact hl (by rw [e]))
    clear hl
    go_enter Try.func29, Try.ntmps29
    go_wp2
    go_ret
    exact ⟨by rw [hAB.out]; rfl, Below.refl _ _⟩

theorem ownsRow_stored_left {w : World} {B : Nat} {ao : Option Addr} {n cap k : Nat} {M : List Value} (h : w.ownsRow B 5 1 (.slice ao n cap) n M) {g : Nat} (hg : ao = some ⟨g, 0, none⟩) (u : Value) : Left (Value.ownL (.slice ao n cap)) w (w.setCell ⟨g, k, none⟩ u) :=
  (Left.refl _ _).setCell (Or.inl (by subst hg; simp [Value.ownL, Value.ownBlock])) _
set_option maxHeartbeats 1000000 in
theorem Bytes_left (w : World) (B : Nat) (v : Value) (L : List UInt8) (h : w.ownsRow B 5 1 v L.length (u8s L)) (hB : B ≤ w.heap.size) (hn : L.length ≤ 1048576) :
    Calls Try.prog 16 #[v] w fun e w' => e = .returned (.tuple #[]) ∧ Left (Value.ownL v) w w' := by
  obtain ⟨ao, cap, rfl, hc, hm⟩ := (Rd.of_own h).form
  have H := Lib.hid h
  clear h hm
  go_enter Try.func16, Try.ntmps16
  go_wp2
  go_loopw [2] (fun i wr => ∃ k : Nat, k ≤ L.length ∧ i = .int .i64 k ∧ (∃ M : List UInt8, M.length = L.length ∧ wr.ownsRow B 5 1 (.slice ao L.length cap) L.length (u8s M)) ∧ Left (Value.ownL (.slice ao L.length cap)) w wr) (fun i _ => L.length - (intOf i).toNat)
  case atStart => exact ⟨0, by omega, rfl, ⟨L, rfl, H.out⟩, Left.refl _ _⟩
  case round =>
    obtain ⟨k, hk, rfl, ⟨M, hM, hown⟩, hb⟩ := hrel
    by_cases hlt : k < L.length
    · obtain ⟨b, o, u, rfl, hbb, hu, hcell⟩ := (Rd.of_own hown).at_ (k := k) (by omega)
      obtain ⟨g, hg, hBg⟩ : ∃ g, (⟨b, o, none⟩ : Addr) = ⟨g, 0, none⟩ ∧ B ≤ g := by
        rcases hown.2 with ⟨h', _⟩ | ⟨g, cap', cur, hv, hBg, _⟩
        · cases h'
        · injection hv with hv
          injection hv with hv
          exact ⟨g, hv, hBg⟩
      injection hg with hg1 hg2
      subst hg1 hg2
      rw [u8s_at M k (by omega)] at hu
      injection hu with hu
      subst hu
      rw [Nat.zero_add] at hcell
      have hfr := hown.frozenAt k
      obtain ⟨z, hz⟩ : ∃ z, z = M[k] := ⟨_, rfl⟩
      rw [← hz] at hcell
      have HO := Lib.hid hown
      clear hown hz
      go_wp2
      go_roundw
      case rel => exact ⟨k + 1, by omega, by go_num, ⟨M.set k (z ^^^ 85), by simp [hM], by rw [xor_u8, ← u8s_set]; exact (HO.out.stored k _).1⟩, hb.trans (ownsRow_stored_left HO.out rfl _) (fun x hx => .inl hx)⟩
      case measure => simp [intOf]; omega
    · have hke : k = L.length := by omega
      subst hke
      have HO := Lib.hid hown
      have hzs := hb.size
      clear hown
      go_wp2_with (at_builtin; with_reducible refine wpList_app _ rfl (.tmp 17) (.tmp 18) _ rfl B 5 (.int .u8 0) 1 1 Try.underlying22 inf_u8 rfl (by omega) _ L.length (u8s M) rfl (HO.out.alloc _) _ _ 1 [.int .u8 5] rfl (one_new _ _ _) (by simp [Value.oneCell']) ?_ ?_ ?_ ?_)
      · unfold maxLen; omega
      · omega
      · simp; omega
      intro v1 w1 hown1 hg1 _
      have hb1 := (hb.alloc (.cells #[.int .u8 5] 5)).trans (left_of_grown hg1) (fun x hx => .inl hx)
      clear hown1 hg1
      go_wp2
      go_end0
      exact ⟨rfl, hb1⟩
theorem ownsRowI_stored_left {w : World} {B : Nat} {ao : Option Addr} {n cap k : Nat} {M : List Value} (h : w.ownsRow B 3 1 (.slice ao n cap) n M) {g : Nat} (hg : ao = some ⟨g, 0, none⟩) (u : Value) : Left (Value.ownL (.slice ao n cap)) w (w.setCell ⟨g, k, none⟩ u) :=
  (Left.refl _ _).setCell (Or.inl (by subst hg; simp [Value.ownL, Value.ownBlock])) _
set_option maxHeartbeats 1000000 in
theorem Numbers_left (w : World) (B : Nat) (v : Value) (L : List Int) (h : w.ownsRow B 3 1 v L.length (i64s L)) (hB : B ≤ w.heap.size) (hn : L.length ≤ 1048576) :
    Calls Try.prog 32 #[v] w fun e w' => e = .returned (.tuple #[]) ∧ Left (Value.ownL v) w w' := by
  obtain ⟨ao, cap, rfl, hc, hm⟩ := (Rd.of_own h).form
  have H := Lib.hid h
  clear h hm
  go_enter Try.func32, Try.ntmps32
  go_wp2
  go_loopw [2] (fun i wr => ∃ k : Nat, k ≤ L.length ∧ i = .int .i64 k ∧ (∃ M : List Int, M.length = L.length ∧ wr.ownsRow B 3 1 (.slice ao L.length cap) L.length (i64s M)) ∧ Left (Value.ownL (.slice ao L.length cap)) w wr) (fun i _ => L.length - (intOf i).toNat)
  case atStart => exact ⟨0, by omega, rfl, ⟨L, rfl, H.out⟩, Left.refl _ _⟩
  case round =>
    obtain ⟨k, hk, rfl, ⟨M, hM, hown⟩, hb⟩ := hrel
    by_cases hlt : k < L.length
    · obtain ⟨b, o, u, rfl, hbb, hu, hcell⟩ := (Rd.of_own hown).at_ (k := k) (by omega)
      obtain ⟨g, hg, hBg⟩ : ∃ g, (⟨b, o, none⟩ : Addr) = ⟨g, 0, none⟩ ∧ B ≤ g := by
        rcases hown.2 with ⟨h', _⟩ | ⟨g, cap', cur, hv, hBg, _⟩
        · cases h'
        · injection hv with hv
          injection hv with hv
          exact ⟨g, hv, hBg⟩
      injection hg with hg1 hg2
      subst hg1 hg2
      rw [i64s_at M k (by omega)] at hu
      injection hu with hu
      subst hu
      rw [Nat.zero_add] at hcell
      have hfr := hown.frozenAt k
      obtain ⟨z, hz⟩ : ∃ z, z = M[k] := ⟨_, rfl⟩
      rw [← hz] at hcell
      have HO := Lib.hid hown
      clear hown hz
      go_wp2
      go_roundw
      case rel => exact ⟨k + 1, by omega, by go_num, ⟨M.set k (-99), by simp [hM], by rw [← i64s_set]; exact (HO.out.stored k _).1⟩, hb.trans (ownsRowI_stored_left HO.out rfl _) (fun x hx => .inl hx)⟩
      case measure => simp [intOf]; omega
    · have hke : k = L.length := by omega
      subst hke
      have HO := Lib.hid hown
      have hzs := hb.size
      clear hown
      go_wp2_with (at_builtin; with_reducible refine wpList_app _ rfl (.tmp 12) (.tmp 13) _ rfl B 3 (.int .i64 0) 1 8 Try.underlying33 info_intD rfl (by omega) _ L.length (i64s M) rfl (HO.out.alloc _) _ _ 1 [.int .i64 5] rfl (one_new _ _ _) (by simp [Value.oneCell']) ?_ ?_ ?_ ?_)
      · unfold maxLen; omega
      · omega
      · simp; omega
      intro v1 w1 hown1 hg1 _
      have hb1 := (hb.alloc (.cells #[.int .i64 5] 3)).trans (left_of_grown hg1) (fun x hx => .inl hx)
      clear hown1 hg1
      go_wp2
      go_end0
      exact ⟨rfl, hb1⟩
end Go.Proofs.Ytbhoiibcfibmhaa
