/- Lists of pieces: held against each other, copied, asked by the page, written over. -/


import Derived.Test.YtfffehbipcikoaaRgRig
namespace Go.Proofs.Ytfffehbipcikoaa
open Go.RowKit

set_option maxHeartbeats 1000000 in
theorem EqBufs_any (w : World) (v1 v2 : Value) (A B : List Buf) (B1 B2 : Nat) (h1 : Rd w B1 3 v1 A.length (bufCells A)) (h2 : Rd w B2 3 v2 B.length (bufCells B)) (he : A = B) :
    Calls Try.prog 41 #[v1, v2] w fun e w' => e = .returned (.bool true) ∧ Left [] w w' := by
  subst he
  obtain ⟨ao, cap, rfl, hc, hm⟩ := h1.form
  obtain ⟨bo, cap2, rfl, hc2, hm2⟩ := h2.form
  have hm' : cap ≤ 9223372036854775807 := by unfold maxLen at hm; omega
  have hm2' : cap2 ≤ 9223372036854775807 := by unfold maxLen at hm2; omega
  have H1 := Lib.hid h1
  have H2 := Lib.hid h2
  clear h1 h2 hm hm2
  go_enter Try.func41, Try.ntmps41
  go_wp2
  go_loopw [5] (fun i wr => ∃ k : Nat, k ≤ A.length ∧ i = .int .i64 k ∧ Left [] w wr ∧ ∃ nd, wr = w.drewN nd) (fun i _ => A.length - (intOf i).toNat)
  case atStart => exact ⟨0, by omega, rfl, Left.refl _ _, 0, rfl⟩
  case round =>
    obtain ⟨k, hk, rfl, hb, nd, rfl⟩ := hrel
    by_cases hlt : k < A.length
    · obtain ⟨x, hx⟩ : ∃ x, A[k]? = some x := ⟨_, List.getElem?_eq_getElem hlt⟩
      obtain ⟨b, o, rfl, c0, c1, c2⟩ := bufs_cell H1.out hx
      obtain ⟨b2, o2, rfl, d0, d1, d2⟩ := bufs_cell H2.out hx
      clear hx
      go_wp2
      refine wp_region_held_drew (S := fun wx => wx.cell? ⟨b, o + k * 3, none⟩ = some (.int .i64 x.addr) ∧ wx.cell? ⟨b, o + k * 3 + 1, none⟩ = some (.int .i64 x.len) ∧ wx.cell? ⟨b, o + k * 3 + 2, none⟩ = some (.bool x.wr) ∧ wx.cell? ⟨b2, o2 + k * 3, none⟩ = some (.int .i64 x.addr) ∧ wx.cell? ⟨b2, o2 + k * 3 + 1, none⟩ = some (.int .i64 x.len) ∧ wx.cell? ⟨b2, o2 + k * 3 + 2, none⟩ = some (.bool x.wr)) (by kernel_rfl) ⟨c0, c1, c2, d0, d1, d2⟩ (fun hHeld => ?_)
      refine take_h 0 ⟨?_, ?_, ?_, by kernel_rfl, by kernel_rfl, by kernel_rfl, ?_, ?_, by assumption, ?_⟩
      rotate_left 2
      · (simp only [List.getElem?_toArray, List.getElem?_cons_zero]; exact rfl)
      · exact fun _ _ _ h => h
      · first
          | (refine Or.inr ⟨by rfl, ?_⟩; exact rfl)
          | (refine Or.inl ⟨by rfl, ?_⟩
             intro w hSw
             (try dsimp only at hSw)
             (try go_split_ands)
             go_simp
             (first | done | with_reducible rfl))
      try simp only [Act.put, List.setIfInBounds_toArray, List.set_cons_zero, List.set_cons_succ]
      refine take_h 1 ⟨?_, ?_, ?_, by kernel_rfl, by kernel_rfl, by kernel_rfl, ?_, ?_, by assumption, ?_⟩
      rotate_left 2
      · (simp only [List.getElem?_toArray, List.getElem?_cons_succ, List.getElem?_cons_zero]; exact rfl)
      · exact fun _ _ _ h => h
      · first
          | (refine Or.inr ⟨by rfl, ?_⟩; exact rfl)
          | (refine Or.inl ⟨by rfl, ?_⟩
             intro w hSw
             (try dsimp only at hSw)
             (try go_split_ands)
             go_simp
             (first | done | with_reducible rfl))
      try simp only [Act.put, List.setIfInBounds_toArray, List.set_cons_zero, List.set_cons_succ]
      refine take_h 2 ⟨?_, ?_, ?_, by kernel_rfl, by kernel_rfl, by kernel_rfl, ?_, ?_, by assumption, ?_⟩
      rotate_left 2
      · (simp only [List.getElem?_toArray, List.getElem?_cons_succ, List.getElem?_cons_zero]; exact rfl)
      · exact fun _ _ _ h => h
      · first
          | (refine Or.inr ⟨by rfl, ?_⟩; exact rfl)
          | (refine Or.inl ⟨by rfl, ?_⟩
             intro w hSw
             (try dsimp only at hSw)
             (try go_split_ands)
             go_simp
             (first | done | with_reducible rfl))
      try simp only [Act.put, List.setIfInBounds_toArray, List.set_cons_zero, List.set_cons_succ]
      refine take_h 3 ⟨?_, ?_, ?_, by kernel_rfl, by kernel_rfl, by kernel_rfl, ?_, ?_, by assumption, ?_⟩
      rotate_left 2
      · (simp only [List.getElem?_toArray, List.getElem?_cons_succ, List.getElem?_cons_zero]; exact rfl)
      · exact fun _ _ _ h => h
      · first
          | (refine Or.inr ⟨by rfl, ?_⟩; exact rfl)
          | (refine Or.inl ⟨by rfl, ?_⟩
             intro w hSw
             (try dsimp only at hSw)
             (try go_split_ands)
             go_simp
             (first | done | with_reducible rfl))
      try simp only [Act.put, List.setIfInBounds_toArray, List.set_cons_zero, List.set_cons_succ]
      refine take_h 4 ⟨?_, ?_, ?_, by kernel_rfl, by kernel_rfl, by kernel_rfl, ?_, ?_, by assumption, ?_⟩
      rotate_left 2
      · (simp only [List.getElem?_toArray, List.getElem?_cons_succ, List.getElem?_cons_zero]; exact rfl)
      · exact fun _ _ _ h => h
      · first
          | (refine Or.inr ⟨by rfl, ?_⟩; exact rfl)
          | (refine Or.inl ⟨by rfl, ?_⟩
             intro w hSw
             (try dsimp only at hSw)
             (try go_split_ands)
             go_simp
             (first | done | with_reducible rfl))
      try simp only [Act.put, List.setIfInBounds_toArray, List.set_cons_zero, List.set_cons_succ]
      refine take_h 5 ⟨?_, ?_, ?_, by kernel_rfl, by kernel_rfl, by kernel_rfl, ?_, ?_, by assumption, ?_⟩
      rotate_left 2
      · (simp only [List.getElem?_toArray, List.getElem?_cons_succ, List.getElem?_cons_zero]; exact rfl)
      · exact fun _ _ _ h => h
      · first
          | (refine Or.inr ⟨by rfl, ?_⟩; exact rfl)
          | (refine Or.inl ⟨by rfl, ?_⟩
             intro w hSw
             (try dsimp only at hSw)
             (try go_split_ands)
             go_simp
             (first | done | with_reducible rfl))
      try simp only [Act.put, List.setIfInBounds_toArray, List.set_cons_zero, List.set_cons_succ]
      refine take_h 6 ⟨?_, ?_, ?_, by kernel_rfl, by kernel_rfl, by kernel_rfl, ?_, ?_, by assumption, ?_⟩
      rotate_left 2
      · (simp only [List.getElem?_toArray, List.getElem?_cons_succ, List.getElem?_cons_zero]; exact rfl)
      · exact fun _ _ _ h => h
      · first
          | (refine Or.inr ⟨by rfl, ?_⟩; exact rfl)
          | (refine Or.inl ⟨by rfl, ?_⟩
             intro w hSw
             (try dsimp only at hSw)
             (try go_split_ands)
             go_simp
             (first | done | with_reducible rfl))
      try simp only [Act.put, List.setIfInBounds_toArray, List.set_cons_zero, List.set_cons_succ]
      refine take_h 7 ⟨?_, ?_, ?_, by kernel_rfl, by kernel_rfl, by kernel_rfl, ?_, ?_, by assumption, ?_⟩
      rotate_left 2
      · (simp only [List.getElem?_toArray, List.getElem?_cons_succ, List.getElem?_cons_zero]; exact rfl)
      · exact fun _ _ _ h => h
      · first
          | (refine Or.inr ⟨by rfl, ?_⟩; exact rfl)
          | (refine Or.inl ⟨by rfl, ?_⟩
             intro w hSw
             (try dsimp only at hSw)
             (try go_split_ands)
             go_simp
             (first | done | with_reducible rfl))
      try simp only [Act.put, List.setIfInBounds_toArray, List.set_cons_zero, List.set_cons_succ]
      refine take_h 8 ⟨?_, ?_, ?_, by kernel_rfl, by kernel_rfl, by kernel_rfl, ?_, ?_, by assumption, ?_⟩
      rotate_left 2
      · (simp only [List.getElem?_toArray, List.getElem?_cons_succ, List.getElem?_cons_zero]; exact rfl)
      · exact fun _ _ _ h => h
      · first
          | (refine Or.inr ⟨by rfl, ?_⟩; exact rfl)
          | (refine Or.inl ⟨by rfl, ?_⟩
             intro w hSw
             (try dsimp only at hSw)
             (try go_split_ands)
             go_simp
             (first | done | with_reducible rfl))
      try simp only [Act.put, List.setIfInBounds_toArray, List.set_cons_zero, List.set_cons_succ]
      refine wpAnyH_done (by kernel_rfl) ?_ _
      go_wp2
      go_roundw
      case rel => exact ⟨k + 1, by omega, by go_num, hb.drew, nd + 1, rfl⟩
      case measure => simp [intOf]; omega
    · have : k = A.length := by omega
      subst this
      go_wp2
      go_ret
      exact ⟨rfl, hb⟩

set_option maxHeartbeats 1000000 in
theorem CopyBufs_any (w : World) (v : Value) (L : List Buf) (Bd : Nat) (h : Rd w Bd 3 v L.length (bufCells L)) (hBd : Bd ≤ w.heap.size) (hn : L.length ≤ 5000000000000) :
    Calls Try.prog 46 #[v] w fun e w' => ∃ v', e = .returned v' ∧ w'.ownsRow w.heap.size 89 3 v' L.length (bufCells L) ∧ Below w.heap.size w w' := by
  obtain ⟨ao, cap, rfl, hc, hm⟩ := h.form
  have hm' : cap ≤ 9223372036854775807 := by unfold maxLen at hm; omega
  have H := Lib.hid h
  clear h hm
  go_enter Try.func46, Try.ntmps46
  go_wp2
  go_loopw [3, 4] (fun v i wr => ∃ k : Nat, k ≤ L.length ∧ i = .int .i64 k ∧ wr.ownsRow w.heap.size 89 3 v k (bufCells (L.take k)) ∧ Below w.heap.size w wr) (fun _ i _ => L.length - (intOf i).toNat)
  case atStart => exact ⟨0, by omega, rfl, by simpa [bufCells] using World.ownsRow_nil _ _ _ _, Below.refl _ _⟩
  case round =>
    obtain ⟨k, hk, rfl, hown, hb⟩ := hrel
    have HO := Lib.hid hown
    have hzs := hb.size
    clear hown
    by_cases hlt : k < L.length
    · obtain ⟨x, hx⟩ : ∃ x, L[k]? = some x := ⟨_, List.getElem?_eq_getElem hlt⟩
      obtain ⟨b, o, rfl, c0, c1, c2⟩ := bufs_cell (H.out.below (hb.mono hBd)) hx
      have HS : Hid (bufCells (L.take k) ++ x.cells = bufCells (L.take (k + 1))) := Lib.hid (by rw [bufCells_snoc, List.take_add_one, hx]; rfl)
      clear hx
      go_wp2_with (at_builtin; with_reducible refine wpList_app _ rfl (.tmp 11) (.tmp 16) _ rfl w.heap.size 89 bufZ 3 24 Try.underlying75 inf_buf rfl (by omega) _ k (bufCells (L.take k)) rfl (HO.out.alloc _) _ _ 1 x.cells rfl (one_newB _ x) (buf_one x) ?_ ?_ ?_ ?_)
      · unfold maxLen; omega
      · omega
      · simp; omega
      intro v1 w1 hown1 hg1 _
      have hb1 := (hb.alloc hzs _).grown hg1 (by simp; omega) (fun g hg => (HO.out.lt g hg).1)
      rw [HS.out] at hown1
      have HO1 := Lib.hid hown1
      clear hown1 hg1
      go_wp2
      go_roundw
      case rel => exact ⟨k + 1, by omega, by go_num, HO1.out, hb1⟩
      case measure => simp [intOf]; omega
    · have : k = L.length := by omega
      subst this
      go_wp2
      go_ret
      exact ⟨_, rfl, by simpa using HO.out, hb⟩

set_option maxHeartbeats 1000000 in
theorem rbuf_any (w : World) (b : Buf) :
    Calls Try.prog 73 #[.agg #[.int .i64 b.addr, .int .i64 b.len, .bool b.wr]] w fun e w' => e = .returned (.bool (bufB b)) ∧ Below w.heap.size w w' := by
  obtain ⟨a, l, x⟩ := b
  by_cases h1 : 0 ≤ a
  · by_cases h2 : a ≤ 4294967296
    · by_cases h3 : 1 ≤ l
      · by_cases h4 : l ≤ 65536
        · have HP : Hid (bufB ⟨a, l, x⟩ = true) := Lib.hid (by simp [bufB, h1, h2, h3, h4])
          go_enter Try.func73, Try.ntmps73
          go_wp2
          go_ret
          exact ⟨by rw [HP.out]; rfl, (Below.refl _ _).alloc (Nat.le_refl _) _⟩
        · have HP : Hid (bufB ⟨a, l, x⟩ = false) := Lib.hid (by simp [bufB, h4])
          have h4 : 65536 < l := by omega
          go_enter Try.func73, Try.ntmps73
          go_wp2
          go_ret
          exact ⟨by rw [HP.out]; rfl, (Below.refl _ _).alloc (Nat.le_refl _) _⟩
      · have HP : Hid (bufB ⟨a, l, x⟩ = false) := Lib.hid (by simp [bufB, h3])
        have h3 : l < 1 := by omega
        go_enter Try.func73, Try.ntmps73
        go_wp2
        go_ret
        exact ⟨by rw [HP.out]; rfl, (Below.refl _ _).alloc (Nat.le_refl _) _⟩
    · have HP : Hid (bufB ⟨a, l, x⟩ = false) := Lib.hid (by simp [bufB, h2])
      have h2 : 4294967296 < a := by omega
      go_enter Try.func73, Try.ntmps73
      go_wp2
      go_ret
      exact ⟨by rw [HP.out]; rfl, (Below.refl _ _).alloc (Nat.le_refl _) _⟩
  · have HP : Hid (bufB ⟨a, l, x⟩ = false) := Lib.hid (by simp [bufB, h1])
    have h1 : a < 0 := by omega
    go_enter Try.func73, Try.ntmps73
    go_wp2
    go_ret
    exact ⟨by rw [HP.out]; rfl, (Below.refl _ _).alloc (Nat.le_refl _) _⟩

set_option maxHeartbeats 4000000 in
theorem rBufs_any (w : World) (v : Value) (L : List Buf) (Bd : Nat) (h : Rd w Bd 3 v L.length (bufCells L)) (hBd : Bd ≤ w.heap.size) :
    Calls Try.prog 44 #[v] w fun e w' => e = .returned (.bool (bufsB L)) ∧ Below w.heap.size w w' := by
  obtain ⟨ao, cap, rfl, hc, hm⟩ := h.form
  have hm' : cap ≤ 9223372036854775807 := by unfold maxLen at hm; omega
  have H := Lib.hid h
  clear h hm
  by_cases h1 : L.length < 1
  · have HB : Hid (bufsB L = false) := Lib.hid (by simp [bufsB]; omega)
    go_enter Try.func44, Try.ntmps44
    go_wp2
    go_ret
    exact ⟨by rw [HB.out]; rfl, Below.refl _ _⟩
  · have h1 : 1 ≤ L.length := by omega
    by_cases h2 : 16 < L.length
    · have HB : Hid (bufsB L = false) := Lib.hid (by simp [bufsB]; omega)
      go_enter Try.func44, Try.ntmps44
      go_wp2
      go_ret
      exact ⟨by rw [HB.out]; rfl, Below.refl _ _⟩
    · have h2 : L.length ≤ 16 := by omega
      go_enter Try.func44, Try.ntmps44
      go_wp2
      go_loopw [3] (fun i wr => ∃ k : Nat, k ≤ L.length ∧ i = .int .i64 k ∧ Hid (preOk L k) ∧ Below w.heap.size w wr) (fun i _ => L.length - (intOf i).toNat)
      case atStart => exact ⟨0, by omega, rfl, Lib.hid (fun j hj => by omega), Below.refl _ _⟩
      case round =>
        obtain ⟨k, hk, rfl, hpre, hbx⟩ := hrel
        by_cases hlt : k < L.length
        · obtain ⟨b, hb⟩ : ∃ b, L[k]? = some b := ⟨_, List.getElem?_eq_getElem hlt⟩
          have HB := Lib.hid hb
          obtain ⟨bb, bo, rfl, z1, z2, z3⟩ := bufs_cell (H.out.below (hbx.mono hBd)) hb
          clear hb
          rcases Nat.eq_zero_or_pos k with hk0 | hk0
          · subst hk0
            rw [Nat.zero_mul, Nat.add_zero] at z1 z2 z3
            go_wp2_with fail
            refine (rbuf_any _ b).mono ?_
            rintro e w1 ⟨rfl, hb1⟩
            cases hp : bufB b
            · have HQ : Hid (bufsB L = false) := Lib.hid (preOk_bad hpre.out HB.out (by simp [pieceB, hp]))
              clear hp
              go_wp2
              go_ret
              exact ⟨by rw [HQ.out]; rfl, hbx.trans (hb1.mono hbx.size)⟩
            · have HS : Hid (preOk L (0 + 1)) := Lib.hid (preOk_step hpre.out HB.out (by simp [pieceB, hp, afterAt]))
              clear hp
              go_wp2
              go_roundw
              case rel => exact ⟨0 + 1, by omega, by go_num, Lib.hid HS.out, hbx.trans (hb1.mono hbx.size)⟩
              case measure => simp [intOf]; omega
          · obtain ⟨j, rfl⟩ : ∃ j, k = j + 1 := ⟨k - 1, by omega⟩
            obtain ⟨c, hcj⟩ : ∃ c, L[j]? = some c := ⟨_, List.getElem?_eq_getElem (by omega)⟩
            obtain ⟨bb', bo', he, _, _, y3⟩ := bufs_cell (H.out.below (hbx.mono hBd)) hcj
            injection he with he
            injection he with he1 he2
            subst he1 he2
            have HA : Hid (afterAt L (j + 1) = c.wr) := Lib.hid (by simp [afterAt, hcj])
            clear hcj
            have hjc : (((j + 1 : Nat) : Int)) = (j : Int) + 1 := by omega
            have htn : ((j : Int) + 1 - 1).toNat = j := by omega
            go_wp2_with fail
            refine (rbuf_any _ b).mono ?_
            rintro e w1 ⟨rfl, hb1⟩
            have x3 := cell_bel z3 hb1
            have x4 := cell_bel y3 hb1
            cases hp : bufB b
            · have HQ : Hid (bufsB L = false) := Lib.hid (preOk_bad hpre.out HB.out (by simp [pieceB, hp]))
              clear hp
              go_wp2
              go_ret
              exact ⟨by rw [HQ.out]; rfl, hbx.trans (hb1.mono hbx.size)⟩
            · have HP := Lib.hid hp
              clear hp
              cases hcw : c.wr
              · have HS : Hid (preOk L (j + 1 + 1)) := Lib.hid (preOk_step hpre.out HB.out (by rw [HA.out, hcw]; simp [pieceB, HP.out]))
                rw [hcw] at x4
                go_wp2
                go_roundw
                case rel => exact ⟨j + 1 + 1, by omega, by go_num, Lib.hid HS.out, hbx.trans (hb1.mono hbx.size)⟩
                case measure => simp [intOf]; omega
              · cases hbw : b.wr
                · have HQ : Hid (bufsB L = false) := Lib.hid (preOk_bad hpre.out HB.out (by rw [HA.out, hcw]; simp [pieceB, hbw]))
                  rw [hcw] at x4
                  rw [hbw] at x3
                  go_wp2
                  go_ret
                  exact ⟨by rw [HQ.out]; rfl, hbx.trans (hb1.mono hbx.size)⟩
                · have HS : Hid (preOk L (j + 1 + 1)) := Lib.hid (preOk_step hpre.out HB.out (by rw [HA.out, hcw]; simp [pieceB, HP.out, hbw]))
                  rw [hcw] at x4
                  rw [hbw] at x3
                  go_wp2
                  go_roundw
                  case rel => exact ⟨j + 1 + 1, by omega, by go_num, Lib.hid HS.out, hbx.trans (hb1.mono hbx.size)⟩
                  case measure => simp [intOf]; omega
        · have hkl : k = L.length := by omega
          subst hkl
          have HB : Hid (bufsB L = true) := Lib.hid (preOk_all hpre.out h1 h2)
          go_wp2
          go_ret
          exact ⟨by rw [HB.out]; rfl, hbx⟩
end Go.Proofs.Ytfffehbipcikoaa
