/- The outbox's small functions: message, publish, Clone, Own, at. -/



import Derived.Test.YtndidkaoigjbiaaObP
import Derived.Test.YtndidkaoigjbiaaDraw
import Derived.Lib.Hide
import Derived.Handy
import Derived.Deep.DeepCutAuto
namespace Go.Proofs.Ytndidkaoigjbiaa
open Go.RowKit
theorem inf_M : (Try.prog.info? 34).map (fun i => (i.zero, i.size, i.bytes)) = some (some (.agg #[.string ⟨#[]⟩, .string ⟨#[]⟩, .int .i64 0, .bool false]), 4, 48) := by kernel_rfl
theorem inf_F : (Try.prog.info? 61).map (fun i => (i.zero, i.size, i.bytes)) = some (some (.agg #[.int .i64 0, .string ⟨#[]⟩, .string ⟨#[]⟩, .int .i64 0, .bool false, .bool false]), 6, 64) := by kernel_rfl
set_option maxHeartbeats 400000 in
theorem CloneF_any (w : World) (v : Value) (n : Nat) (xs : List Value) (h : Rd w w.heap.size 6 v n xs) (h1 : ∀ u ∈ xs, u.oneCell' = true) (hn : n ≤ 1048576) :
    Calls Try.prog 27 #[v] w fun e w' => ∃ v', e = .returned v' ∧ w'.ownsRow w.heap.size 61 6 v' n xs ∧ Below w.heap.size w w' := by
  obtain ⟨ao, cap, rfl, hc, hm⟩ := h.form
  clear hm
  rcases ao with _ | ad
  · obtain ⟨hl, ao', cap', e', h3, _, h5, _⟩ := h
    injection e' with e1 _ e3
    subst e1 e3
    have hc0 := h5 rfl
    subst hc0
    have hn0 : n = 0 := by omega
    subst hn0
    have hx : xs = [] := List.eq_nil_of_length_eq_zero (by omega)
    subst hx
    clear h5 hl hc h1 h3 hn
    have hnil := fun w => Lib.run_eql_slice_nil (P := Try.prog) w 22 61 none 0 0 0 0 Try.underlying22
    go_enter Try.func27, Try.ntmps27
    go_wp2
    go_ret
    exact ⟨_, rfl, World.ownsRow_nil _ _ _ _, Below.refl _ _⟩
  · have hnil := fun w => Lib.run_eql_slice_nil (P := Try.prog) w 22 61 (some ad) n cap 0 0 Try.underlying22
    have H := Lib.hid h
    have H1 := Lib.hid h1
    clear h h1
    go_enter Try.func27, Try.ntmps27
    go_wp2_with (at_builtin; refine wpList_app _ rfl (.tmp 5) (.tmp 6) _ rfl w.heap.size 61 (.agg #[.int .i64 0, .string ⟨#[]⟩, .string ⟨#[]⟩, .int .i64 0, .bool false, .bool false]) 6 64 Try.underlying22 inf_F rfl (by omega) (.slice (some ⟨w.heap.size, 0, none⟩) 0 0) 0 [] rfl (World.ownsRow_made w #[] 0 (Nat.le_refl _) (by unfold maxLen; omega) rfl) w.heap.size _ n xs rfl (H.out.below ((Below.refl _ _).alloc (Nat.le_refl _) _)) H1.out ?_ ?_ (by simp) ?_; unfold maxLen; omega; omega; intro v1 w1 hown hg hat; have hb1 := ((Below.refl w.heap.size w).alloc (Nat.le_refl _) (.cells #[] 61)).grown hg (by simp) (by simp [Value.ownBlock]))
    go_ret
    exact ⟨v1, rfl, by simpa using hown, hb1⟩
set_option maxHeartbeats 400000 in
theorem CloneM_any (w : World) (v : Value) (n : Nat) (xs : List Value) (h : Rd w w.heap.size 4 v n xs) (h1 : ∀ u ∈ xs, u.oneCell' = true) (hn : n ≤ 1048576) :
    Calls Try.prog 28 #[v] w fun e w' => ∃ v', e = .returned v' ∧ w'.ownsRow w.heap.size 34 4 v' n xs ∧ Below w.heap.size w w' := by
  obtain ⟨ao, cap, rfl, hc, hm⟩ := h.form
  clear hm
  rcases ao with _ | ad
  · obtain ⟨hl, ao', cap', e', h3, _, h5, _⟩ := h
    injection e' with e1 _ e3
    subst e1 e3
    have hc0 := h5 rfl
    subst hc0
    have hn0 : n = 0 := by omega
    subst hn0
    have hx : xs = [] := List.eq_nil_of_length_eq_zero (by omega)
    subst hx
    clear h5 hl hc h1 h3 hn
    have hnil := fun w => Lib.run_eql_slice_nil (P := Try.prog) w 23 34 none 0 0 0 0 Try.underlying23
    go_enter Try.func28, Try.ntmps28
    go_wp2
    go_ret
    exact ⟨_, rfl, World.ownsRow_nil _ _ _ _, Below.refl _ _⟩
  · have hnil := fun w => Lib.run_eql_slice_nil (P := Try.prog) w 23 34 (some ad) n cap 0 0 Try.underlying23
    have H := Lib.hid h
    have H1 := Lib.hid h1
    clear h h1
    go_enter Try.func28, Try.ntmps28
    go_wp2_with (at_builtin; refine wpList_app _ rfl (.tmp 5) (.tmp 6) _ rfl w.heap.size 34 (.agg #[.string ⟨#[]⟩, .string ⟨#[]⟩, .int .i64 0, .bool false]) 4 48 Try.underlying23 inf_M rfl (by omega) (.slice (some ⟨w.heap.size, 0, none⟩) 0 0) 0 [] rfl (World.ownsRow_made w #[] 0 (Nat.le_refl _) (by unfold maxLen; omega) rfl) w.heap.size _ n xs rfl (H.out.below ((Below.refl _ _).alloc (Nat.le_refl _) _)) H1.out ?_ ?_ (by simp) ?_; unfold maxLen; omega; omega; intro v1 w1 hown hg hat; have hb1 := ((Below.refl w.heap.size w).alloc (Nat.le_refl _) (.cells #[] 34)).grown hg (by simp) (by simp [Value.ownBlock]))
    go_ret
    exact ⟨v1, rfl, by simpa using hown, hb1⟩
set_option maxHeartbeats 1000000 in
theorem message_any (m : Msg) (w : World) (ht : m.t.size ≤ 1000000000) (hp : m.p.size ≤ 1000000000) : Calls Try.prog 16 #[msgV m] w fun e w' => e = .returned (.bool (okM m)) ∧ Below w.heap.size w w' := by
  obtain ⟨t, p, q, r⟩ := m
  unfold msgV
  simp only at ht hp ⊢
  have hb0 := (Below.refl w.heap.size w).alloc (Nat.le_refl _) (.cells #[.string t, .string p, .int .i64 q, .bool r] 34)
  by_cases h1 : 1 ≤ t.size
  · by_cases h2 : t.size ≤ 64
    · by_cases h3 : p.size ≤ 128
      · by_cases h4 : q = 1
        · subst h4
          go_enter Try.func16, Try.ntmps16
          go_wp2
          go_ret
          exact ⟨by simp [okM, h1, h2, h3], hb0⟩
        · have hq : (q == 1) = false := beq_eq_false_iff_ne.2 h4
          go_enter Try.func16, Try.ntmps16
          go_wp2
          go_ret
          exact ⟨by simp [okM, h1, h2, h3, h4]; rfl, hb0⟩
      · have h3' : ¬ ((p.size : Int) ≤ 128) := by omega
        go_enter Try.func16, Try.ntmps16
        go_wp2
        go_ret
        exact ⟨by simp [okM, h3], hb0⟩
    · have h2' : ¬ ((t.size : Int) ≤ 64) := by omega
      go_enter Try.func16, Try.ntmps16
      go_wp2
      go_ret
      exact ⟨by simp [okM, h2], hb0⟩
  · have h1' : ¬ ((1 : Int) ≤ (t.size : Int)) := by omega
    go_enter Try.func16, Try.ntmps16
    go_wp2
    go_ret
    exact ⟨by simp [okM, h1], hb0⟩
set_option maxHeartbeats 1000000 in
theorem rMsg_any (m : Msg) (w : World) (ht : m.t.size ≤ 1000000000) (hp : m.p.size ≤ 1000000000) : Calls Try.prog 23 #[msgV m] w fun e w' => e = .returned (.bool (okM m)) ∧ Below w.heap.size w w' := by
  obtain ⟨t, p, q, r⟩ := m
  unfold msgV
  simp only at ht hp ⊢
  have hb0 := (Below.refl w.heap.size w).alloc (Nat.le_refl _) (.cells #[.string t, .string p, .int .i64 q, .bool r] 34)
  by_cases h1 : 1 ≤ t.size
  · by_cases h2 : t.size ≤ 64
    · by_cases h3 : p.size ≤ 128
      · by_cases h4 : 1 ≤ q
        · by_cases h5 : q ≤ 2
          · have hd : Hid ((decide (q = 1) || decide (q = 2)) = true) := Lib.hid (by simp; omega)
            go_enter Try.func23, Try.ntmps23
            go_wp2
            go_ret
            exact ⟨by simp [okM, h1, h2, h3]; simpa using hd.out, hb0⟩
          · have hd : Hid ((decide (q = 1) || decide (q = 2)) = false) := Lib.hid (by simp; omega)
            go_enter Try.func23, Try.ntmps23
            go_wp2
            go_ret
            exact ⟨by simp only [okM, hd.out, Bool.and_false]; rfl, hb0⟩
        · have hd : Hid ((decide (q = 1) || decide (q = 2)) = false) := Lib.hid (by simp; omega)
          go_enter Try.func23, Try.ntmps23
          go_wp2
          go_ret
          exact ⟨by simp only [okM, hd.out, Bool.and_false]; rfl, hb0⟩
      · have h3' : ¬ ((p.size : Int) ≤ 128) := by omega
        go_enter Try.func23, Try.ntmps23
        go_wp2
        go_ret
        exact ⟨by simp [okM, h3], hb0⟩
    · have h2' : ¬ ((t.size : Int) ≤ 64) := by omega
      go_enter Try.func23, Try.ntmps23
      go_wp2
      go_ret
      exact ⟨by simp [okM, h2], hb0⟩
  · have h1' : ¬ ((1 : Int) ≤ (t.size : Int)) := by omega
    go_enter Try.func23, Try.ntmps23
    go_wp2
    go_ret
    exact ⟨by simp [okM, h1], hb0⟩
set_option maxHeartbeats 1000000 in
theorem publish_any (f : Fl) (d : Bool) (w : World) : Calls Try.prog 19 #[flV f, .bool d] w fun e w' => e = .returned (pkV (pub f d)) ∧ Below w.heap.size w w' := by
  obtain ⟨id, ⟨t, p, q, r⟩, rc⟩ := f
  unfold flV
  simp only
  obtain ⟨z, hz⟩ : ∃ z, z = pkC ⟨0, ⟨#[]⟩, ⟨#[]⟩, 0, false, 0, false⟩ := ⟨_, rfl⟩
  obtain ⟨ks, hks⟩ : ∃ ks, ks = pkC (pub ⟨id, ⟨t, p, q, r⟩, rc⟩ d) := ⟨_, rfl⟩
  have hzl : z.length = ks.length := by rw [hz, hks]; rfl
  have h1 : ∀ u ∈ ks, u.oneCell' = true := by rw [hks]; exact eP.one _
  go_enter Try.func19, Try.ntmps19
  go_upto_region 2 with fail
  obtain ⟨w2, hw2⟩ : ∃ w2, w2 = (((w.alloc (.cells #[.int .i64 id, .string t, .string p, .int .i64 q, .bool r, .bool rc] 61)).alloc (.cells z.toArray 50)).alloc (.cells #[.string t, .string p, .int .i64 q, .bool r] 34)) := ⟨_, rfl⟩
  have hb2 : Below w.heap.size w w2 := by rw [hw2]; go_grown
  have hA0 : Whole w2 w.heap.size 61 [.int .i64 id, .string t, .string p, .int .i64 q, .bool r, .bool rc] := by
    rw [hw2]
    exact ((Whole.new w 61 _).alloc _).alloc _
  have hA1 : Whole w2 (w.heap.size + 2) 34 [.string t, .string p, .int .i64 q, .bool r] := by
    rw [hw2]
    have := Whole.new ((w.alloc (.cells #[.int .i64 id, .string t, .string p, .int .i64 q, .bool r, .bool rc] 61)).alloc (.cells z.toArray 50)) 34 [.string t, .string p, .int .i64 q, .bool r]
    simpa using this
  have a0 := hA0.cell 0
  have a1 := hA1.cell 0
  have a2 := hA1.cell 1
  have a3 := hA1.cell 2
  have a4 := hA1.cell 3
  simp only [List.getElem?_cons_zero, List.getElem?_cons_succ] at a0 a1 a2 a3 a4
  have hW : Whole w2 (w.heap.size + 1) 50 z := by
    rw [hw2]
    have := Whole.new (w.alloc (.cells #[.int .i64 id, .string t, .string p, .int .i64 q, .bool r, .bool rc] 61)) 50 z
    exact (by simpa using this : Whole _ (w.heap.size + 1) 50 z).alloc _
  have hw2' : w2 = (((w.alloc (.cells #[.int .i64 id, .string t, .string p, .int .i64 q, .bool r, .bool rc] 61)).alloc (.cells (pkC ⟨0, ⟨#[]⟩, ⟨#[]⟩, 0, false, 0, false⟩).toArray 50)).alloc (.cells #[.string t, .string p, .int .i64 q, .bool r] 34)) := by rw [hw2, hz]
  have hch := hw2'.symm
  simp only [pkC] at hch
  obtain ⟨hW3, hl3⟩ := hW.setAll hzl
  have hth := hW.there
  rw [hzl] at hth
  have HW3 := Lib.hid hW3
  have HB3 := Lib.hid (hb2.trans (hl3.belowB (B := w.heap.size) hb2.size (by simp)))
  have HTH := Lib.hid hth
  have HKS := Lib.hid hks
  have H1 := Lib.hid h1
  rw [hch]
  clear hA0 hA1 hW hw2 hw2' hch hz hzl hW3 hl3 hth h1
  go_wp2_with (refine wpList_store_mid rfl _ _ _ rfl (w.heap.size + 1) 0 ks.toArray rfl (by rw [hks]; rfl) (by simpa using HTH.out) (by rw [hks]; kernel_rfl) (all_oneCell_toArray H1.out) ?_)
  clear hks
  (try simp only [Exit.inBlock, Exit.then])
  refine bodyPost_ret (results_cell_row (P := Try.prog) (p := 4) (ty := 50) rfl _ _ (w.heap.size + 1) 50 ks.toArray (0, 0) _ rfl HW3.out Try.underlying50 rfl (by rw [HKS.out]; kernel_rfl)) rfl ?_
  exact ⟨by rw [HKS.out]; rfl, HB3.out⟩
theorem fl_cells {w : World} {b o : Nat} {f : Fl} (h : w.rangeAt b o (eF.c f)) : w.cell? ⟨b, o, none⟩ = some (.int .i64 f.id) ∧ w.cell? ⟨b, o + 1, none⟩ = some (.string f.m.t) ∧ w.cell? ⟨b, o + 2, none⟩ = some (.string f.m.p) ∧ w.cell? ⟨b, o + 3, none⟩ = some (.int .i64 f.m.q) ∧ w.cell? ⟨b, o + 4, none⟩ = some (.bool f.m.r) ∧ w.cell? ⟨b, o + 5, none⟩ = some (.bool f.rc) :=
  ⟨h 0 _ rfl, h 1 _ rfl, h 2 _ rfl, h 3 _ rfl, h 4 _ rfl, h 5 _ rfl⟩
theorem msg_cells {w : World} {b o : Nat} {m : Msg} (h : w.rangeAt b o (eM.c m)) : w.cell? ⟨b, o, none⟩ = some (.string m.t) ∧ w.cell? ⟨b, o + 1, none⟩ = some (.string m.p) ∧ w.cell? ⟨b, o + 2, none⟩ = some (.int .i64 m.q) ∧ w.cell? ⟨b, o + 3, none⟩ = some (.bool m.r) :=
  ⟨h 0 _ rfl, h 1 _ rfl, h 2 _ rfl, h 3 _ rfl⟩
theorem at1_any (f : Fl) (b : Nat) (i : Int) (w : World) (hc : w.cell? ⟨b, 0, none⟩ = some (.int .i64 i)) : Calls Try.prog 30 #[flV f, .pointer (some ⟨b, 0, none⟩)] w fun e w' => e = .returned (.bool (f.id == i)) ∧ Below w.heap.size w w' := by
  obtain ⟨id, ⟨t, p, q, r⟩, rc⟩ := f
  unfold flV
  simp only
  have hlt := World.block_lt_of_cell? w _ hc
  have hc' : (w.alloc (.cells #[.int .i64 id, .string t, .string p, .int .i64 q, .bool r, .bool rc] 61)).cell? ⟨b, 0, none⟩ = some (.int .i64 i) := b_cell ((Below.refl w.heap.size w).alloc (Nat.le_refl _) _) hc
  have hb0 := (Below.refl w.heap.size w).alloc (Nat.le_refl _) (.cells #[.int .i64 id, .string t, .string p, .int .i64 q, .bool r, .bool rc] 61)
  go_enter Try.func30, Try.ntmps30
  go_wp2
  go_ret
  exact ⟨rfl, hb0⟩
set_option maxHeartbeats 1000000 in
/-- Where an identifier stands. -/
def posI (I : List Int) (i : Int) : Nat := I.findIdx (· == i)
theorem posI_is {I : List Int} {i : Int} {k : Nat} (hk : k < I.length) (h0 : ∀ j, j < k → I[j]? ≠ some i) (h1 : I[k]? = some i) : posI I i = k := by
  unfold posI
  rw [List.findIdx_eq (by omega)]
  rw [List.getElem?_eq_getElem hk] at h1
  refine ⟨by simpa using h1, fun j hj => ?_⟩
  have := h0 j hj
  rw [List.getElem?_eq_getElem (by omega)] at this
  simpa using this
theorem posI_none {I : List Int} {i : Int} (h0 : ∀ j, j < I.length → I[j]? ≠ some i) : posI I i = I.length := by
  unfold posI
  rw [List.findIdx_eq_length]
  intro x hx
  obtain ⟨j, hj⟩ := List.getElem?_of_mem hx
  have := h0 j (List.getElem?_eq_some_iff.1 hj).1
  rw [hj] at this
  simpa using this
def atI (I : List Int) (i : Int) : Int := if posI I i < I.length then posI I i else -1
theorem ids_at {F : List Fl} {k : Nat} {f : Fl} (h : F[k]? = some f) : (ids F)[k]? = some f.id := by simp [ids, h]
theorem ids_len (F : List Fl) : (ids F).length = F.length := by simp [ids]
set_option maxHeartbeats 1000000 in
theorem IndexF_any (w : World) (v : Value) (F : List Fl) (b : Nat) (i : Int) (Bd : Nat) (h : Rd w Bd 6 v F.length (eF.cells F)) (hB : Bd ≤ w.heap.size) (hc : w.cell? ⟨b, 0, none⟩ = some (.int .i64 i)) (hn : F.length ≤ 1000000) :
    Calls Try.prog 29 #[v, .func (.func 30) #[] #[.pointer (some ⟨b, 0, none⟩)]] w fun e w' => e = .returned (.int .i64 (atI (ids F) i)) ∧ Below w.heap.size w w' := by
  obtain ⟨ao, cap, rfl, hcc, hm⟩ := h.form
  have hm' : cap ≤ 9223372036854775807 := by unfold maxLen at hm; omega
  have H := Lib.hid h
  have HC := Lib.hid hc
  clear h hm hc
  go_enter Try.func29, Try.ntmps29
  go_wp2
  go_loopw [8] (fun s wr => ∃ k : Nat, s = .int .i64 k ∧ k ≤ F.length ∧ Below w.heap.size w wr ∧ Hid (∀ j, j < k → (ids F)[j]? ≠ some i)) (fun s _ => F.length - (intOf s).toNat)
  case atStart => exact ⟨0, rfl, by omega, Below.refl _ _, Lib.hid (fun j hj => by omega)⟩
  case round =>
    obtain ⟨k, rfl, hk, hb, HK⟩ := hrel
    by_cases hlt : k < F.length
    · obtain ⟨f, hf⟩ : ∃ f, F[k]? = some f := ⟨_, List.getElem?_eq_getElem hlt⟩
      obtain ⟨b2, o, rfl, hbl, hcs⟩ := Enc.rd_cell (E := eF) (H.out.below (hb.mono hB)) rfl hf
      have HF := Lib.hid hf
      have HA := Lib.hid (at1_any f b i wr (b_cell hb HC.out))
      obtain ⟨c0, c1, c2, c3, c4, c5⟩ := fl_cells (show wr.rangeAt b2 (o + k * 6) (eF.c f) from hcs)
      clear hcs hf
      go_wp2_with fail
      refine HA.out.mono ?_
      rintro e w1 ⟨rfl, hb1⟩
      have hb2 := b_tr hb hb1
      by_cases hi : f.id = i
      · have hib : (f.id == i) = true := beq_iff_eq.2 hi
        have HP : Hid (atI (ids F) i = k) := Lib.hid (by
          have : posI (ids F) i = k := posI_is (by rw [ids_len]; omega) HK.out (by rw [ids_at HF.out, hi])
          unfold atI
          rw [this, if_pos (by rw [ids_len]; omega)])
        clear hi
        go_wp2
        go_ret
        exact ⟨by rw [HP.out]; rfl, hb2⟩
      · have hib : (f.id == i) = false := beq_eq_false_iff_ne.2 hi
        have HK2 : Hid (∀ j, j < k + 1 → (ids F)[j]? ≠ some i) := Lib.hid (fun j hj => by
          by_cases e : j = k
          · subst e
            rw [ids_at HF.out]
            exact fun h => hi (Option.some.inj h)
          · exact HK.out j (by omega))
        clear hi
        go_wp2
        go_roundw
        case rel => exact ⟨k + 1, by go_num, by omega, hb2, HK2⟩
        case measure => simp [intOf]; omega
    · have e : k = F.length := by omega
      subst e
      have HP : Hid (atI (ids F) i = -1) := Lib.hid (by unfold atI; rw [posI_none (by rw [ids_len]; exact HK.out), if_neg (Nat.lt_irrefl _)])
      go_wp2
      go_ret
      exact ⟨by rw [HP.out]; rfl, hb⟩
end Go.Proofs.Ytndidkaoigjbiaa
