/- Driver.Used. -/

import Derived.Test.YtfffehbipcikoaaRing6
namespace Go.Proofs.Ytfffehbipcikoaa
open Go.RowKit Go.MapKept

def lookL (ls : List (Int × Int)) (k : Int) : Int := ((ls.find? (·.1 == k)).map (·.2)).getD 0
def lookW (wy : List (Int × List Nat)) (k : Int) : Option (List Nat) := (wy.find? (·.1 == k)).map (·.2)
def delL (ls : List (Int × Int)) (k : Int) : List (Int × Int) := ls.eraseP (·.1 == k)
def delW (wy : List (Int × List Nat)) (k : Int) : List (Int × List Nat) := wy.eraseP (·.1 == k)

theorem look_leastV (ls : List (Int × Int)) (k : Int) : (look (leastV ls) k).getD (.int .i64 0) = .int .i64 (lookL ls k) := by
  induction ls with
  | nil => rfl
  | cons p r ih =>
    by_cases h : p.1 = k
    · simp [look, lookL, leastV, h]
    · have h' : (p.1 == k) = false := by simpa using h
      simp only [look, lookL, leastV, List.map_cons, List.find?_cons, h'] at ih ⊢
      exact ih
theorem del_leastV (ls : List (Int × Int)) (k : Int) : del (leastV ls) k = leastV (delL ls k) := by
  induction ls with
  | nil => rfl
  | cons p r ih =>
    by_cases h : p.1 = k
    · simp [del, delL, leastV, h]
    · have h' : (p.1 == k) = false := by simpa using h
      simp only [del, delL, leastV, List.map_cons, List.eraseP_cons, h'] at ih ⊢
      simp [ih]
theorem way_look {w : World} {k : Int} : ∀ {W : List (Int × Value)} {wy : List (Int × List Nat)}, WayAt w W wy →
    (lookW wy k = none → look W k = none) ∧ ∀ own, lookW wy k = some own → ∃ v, look W k = some v ∧ OwnI w v own
  | [], [], _ => ⟨fun _ => rfl, fun own h => by simp [lookW] at h⟩
  | a :: W, b :: wy, ⟨h1, h2, h3⟩ => by
    have ih := way_look (k := k) h3
    by_cases h : b.1 = k
    · have h' : a.1 = k := h1.trans h
      refine ⟨fun e => ?_, fun own e => ?_⟩
      · simp [lookW, h] at e
      · simp [lookW, h] at e
        subst e
        exact ⟨a.2, by simp [look, h'], h2⟩
    · have hb : (b.1 == k) = false := by simpa using h
      have ha : (a.1 == k) = false := by rw [h1]; exact hb
      simp only [lookW, look, List.find?_cons, hb, ha] at ih ⊢
      exact ih
theorem way_del {w : World} {k : Int} : ∀ {W : List (Int × Value)} {wy : List (Int × List Nat)}, WayAt w W wy → WayAt w (del W k) (delW wy k)
  | [], [], _ => trivial
  | a :: W, b :: wy, ⟨h1, h2, h3⟩ => by
    have ih := way_del (k := k) h3
    by_cases h : b.1 = k
    · have h' : a.1 = k := h1.trans h
      simp [del, delW, h, h']
      exact h3
    · have hb : (b.1 == k) = false := by simpa using h
      have ha : (a.1 == k) = false := by rw [h1]; exact hb
      simp only [del, delW, List.eraseP_cons, hb, ha] at ih ⊢
      exact ⟨h1, h2, ih⟩
theorem way_length {w : World} : ∀ {W : List (Int × Value)} {wy : List (Int × List Nat)}, WayAt w W wy → W.length = wy.length
  | [], [], _ => rfl
  | _ :: _, _ :: _, ⟨_, _, h⟩ => by simp [way_length h]
theorem run_del {P : Program} {w : World} {t kt et b : Nat} {L : List (Int × Value)} (h : IMap w b L) (ht : P.underlying t = some (.map kt et)) (hk : P.underlying kt = some (.int .i64)) (k : Int) :
    ∃ w', (∀ ty, (Builtin.delete_ #[t, kt] ty #[.map (some b), .int .i64 k]).run P w = .ok (.tuple #[]) w') ∧ IMap w' b (del L k) ∧ Left [b] w w' := by
  obtain ⟨w', h1, h2, h3⟩ := run_delete h ht hk k 0
  exact ⟨w', fun ty => h1, h2, h3⟩
theorem cell_left' {w w' : World} {p : Addr} {v : Value} {S : List Nat} (h : w.cell? p = some v) (hl : Left S w w') (hp : p.block ∉ S) : w'.cell? p = some v := by
  have hb := hl.block p.block (World.block_lt_of_cell? w _ h) hp
  rw [← h]
  unfold World.cell?
  rw [hb]

/-- Where the next one that comes back is said. -/
def usedPos (q : Int) (rd : Nat) : Int := usedAt q + 4 + 8 * ((rd % q.toNat : Nat) : Int)

set_option maxHeartbeats 1000000 in
theorem Used_broken (w : World) (D : Nat) (q : Int) (m : Nat) (wr rd : Nat) (r : List Value) (hH : Whole w D 123 (halfCells q m true wr rd ++ r)) :
    Calls Try.prog 43 #[.pointer (some ⟨D, 0, none⟩)] w fun e w' => e = .returned (.tuple #[.int .i64 0, .int .i64 0, .bool false, .int .i64 6]) ∧ w' = w := by
  have c5 : w.cell? ⟨D, 5, none⟩ = some (.bool true) := by rw [hH.cell]; rfl
  clear hH
  go_enter Try.func43, Try.ntmps43
  go_wp2
  ((try simp only [Exit.inBlock, Exit.then]); refine bodyPost_ret (results_tmp4 rfl _ _ _) rfl ?_)
  exact ⟨rfl, rfl⟩

set_option maxHeartbeats 1000000 in
theorem Used_none (w : World) (D : Nat) (q : Int) (m d : Nat) (wr rd : Nat) (r : List Value) (B : List UInt8) (hH : Whole w D 123 (halfCells q m false wr rd ++ r)) (hM : MemAt 114 w m d B) (hB : B.length ≤ 65536) (hr : rd ≤ 65535) (hq : 1 ≤ q ∧ q ≤ 64) (ha : aheadV B (usedAt q + 2) rd = 0) :
    Calls Try.prog 43 #[.pointer (some ⟨D, 0, none⟩)] w fun e w' => e = .returned (.tuple #[.int .i64 0, .int .i64 0, .bool false, .int .i64 0]) ∧ ∃ n, w' = w.drewN n := by
  have HA := Lib.hid ha
  clear ha
  obtain ⟨u, hu⟩ : ∃ u, usedAt q = u := ⟨_, rfl⟩
  have hu1 : 0 ≤ u ∧ u ≤ 2000 := by rw [← hu]; unfold usedAt; omega
  have HU := Lib.hid hu
  have c2 : w.cell? ⟨D, 2, none⟩ = some (.int .i64 u) := by rw [hH.cell, ← hu]; rfl
  have c0 : w.cell? ⟨D, 0, none⟩ = some (.int .i64 q) := by rw [hH.cell]; rfl
  have c5 : w.cell? ⟨D, 5, none⟩ = some (.bool false) := by rw [hH.cell]; rfl
  have c7 : w.cell? ⟨D, 7, none⟩ = some (.int .i64 rd) := by rw [hH.cell]; rfl
  have HW := Lib.hid hH
  have HH := Lib.hid (HalfC.of_whole hH)
  have HM := Lib.hid hM
  clear hH hM hu
  go_enter Try.func43, Try.ntmps43
  go_wp2_with fail
  have hwu : IntKind.i64.wrap (u + 2) = u + 2 := IntWalk.i64_in _ ⟨by omega, by omega⟩
  go_quiet ((go_at_call 68; exact Calls.quiet_of (hahead_any _ D q m d false wr rd B (u + 2) (HH.out.drewN _) (HM.out.drewN _) hB hr)))
  clear hwu
  rw [show aheadV B (u + 2) rd = 0 by rw [← HU.out]; exact HA.out]
  go_wp2
  ((try simp only [Exit.inBlock, Exit.then]); refine bodyPost_ret (results_tmp4 rfl _ _ _) rfl ?_)
  exact ⟨rfl, _, rfl⟩

theorem rem_pos (n rd : Nat) (hn : 1 ≤ n) : ((rd : Int)).tmod (n : Int) = ((rd % n : Nat) : Int) := rfl
/-- What the driver reads of the next one that comes back: its head, its length. -/
def usedHead (B : List UInt8) (q : Int) (rd : Nat) : Int := getV B (usedPos q rd) 4
def usedLen (B : List UInt8) (q : Int) (rd : Nat) : Int := getV B (usedPos q rd + 4) 4

set_option maxRecDepth 20000 in
set_option maxHeartbeats 2000000 in
theorem Used_bad (w : World) (D bs bw bl : Nat) (m d : Nat) (wr rd : Nat) (bz : List Bool) (wy : List (Int × List Nat)) (ls : List (Int × Int)) (B : List UInt8) (hd nn k : Int) (hD : DrvAt w D bs bw bl m (bz.length : Nat) false wr rd bz wy ls) (hM : MemAt 114 w m d B) (hB : B.length ≤ 65536) (hr : rd ≤ 65535) (hq1 : 1 ≤ bz.length) (hq2 : bz.length ≤ 64)
    (hk : aheadV B (usedAt (bz.length : Nat) + 2) rd = k) (hk0 : k ≠ 0) (hhd : usedHead B (bz.length : Nat) rd = hd) (hnn : usedLen B (bz.length : Nat) rd = nn)
    (hbad : (wy.length : Int) < k ∨ lookW wy hd = none ∨ lookL ls hd < nn) :
    Calls Try.prog 43 #[.pointer (some ⟨D, 0, none⟩)] w fun e w' => e = .returned (.tuple #[.int .i64 0, .int .i64 0, .bool false, .int .i64 1]) ∧ DrvAt w' D bs bw bl m (bz.length : Nat) true wr rd bz wy ls ∧ Left [D] w w' := by
  have HBad := Lib.hid hbad
  clear hbad
  obtain ⟨w0, hw0⟩ : ∃ w0, w0 = w := ⟨_, rfl⟩
  obtain ⟨u, hu⟩ : ∃ u, usedAt (bz.length : Nat) = u := ⟨_, rfl⟩
  have hu1 : 0 ≤ u ∧ u ≤ 2000 := by rw [← hu]; unfold usedAt; omega
  have HU := Lib.hid hu
  have hH := hD.head
  have c2 : w.cell? ⟨D, 2, none⟩ = some (.int .i64 u) := by rw [hH.cell, ← hu]; rfl
  have c0 : w.cell? ⟨D, 0, none⟩ = some (.int .i64 (bz.length : Nat)) := by rw [hH.cell]; rfl
  have c5 : w.cell? ⟨D, 5, none⟩ = some (.bool false) := by rw [hH.cell]; rfl
  have c7 : w.cell? ⟨D, 7, none⟩ = some (.int .i64 rd) := by rw [hH.cell]; rfl
  have c9 : w.cell? ⟨D, 9, none⟩ = some (.map (some bw)) := by rw [hH.cell]; rfl
  have c10 : w.cell? ⟨D, 10, none⟩ = some (.map (some bl)) := by rw [hH.cell]; rfl
  have HW := Lib.hid hH
  have HH := Lib.hid (HalfC.of_whole hH)
  have HM := Lib.hid hM
  have HDr := Lib.hid hD
  obtain ⟨W, hWI, hWA⟩ := hD.way
  have hlen := way_length hWA
  have HWI0 := Lib.hid hWI
  have HLe : Hid (Left [] w0 w) := Lib.hid (hw0 ▸ Left.refl _ _)
  have HWI := Lib.hid hWI
  have HWA := Lib.hid hWA
  have HLS := Lib.hid hD.least
  obtain ⟨rr, hrr⟩ : ∃ rr : Nat, rd % bz.length = rr := ⟨_, rfl⟩
  have hrr2 : rr ≤ 63 := by have := Nat.mod_lt rd hq1; omega
  have htm : ((rd : Int)).tmod (bz.length : Int) = (rr : Int) := by rw [← hrr]; rfl
  have hbn : ¬ bz = [] := fun e => by rw [e] at hq1; simp at hq1
  have hpos : usedPos (bz.length : Nat) rd = u + 4 + 8 * (rr : Int) := by unfold usedPos; rw [hu]; simp [hrr]
  unfold usedHead at hhd
  unfold usedLen at hnn
  rw [hpos] at hhd hnn
  rw [hu] at hk
  have HHD := Lib.hid hhd
  have HNN := Lib.hid hnn
  have HK := Lib.hid hk
  have hg1 := getV_lt B (u + 4 + 8 * (rr : Int)) 4
  have hg2 := getV_lt B (u + 4 + 8 * (rr : Int) + 4) 4
  rw [hhd] at hg1
  rw [hnn] at hg2
  have hd1 : 0 ≤ hd := hg1.1
  have hd2 : hd ≤ 4294967295 := hg1.2.1 (by omega)
  have hn1 : 0 ≤ nn := hg2.1
  have hn2 : nn ≤ 4294967295 := hg2.2.1 (by omega)
  have hkb : 0 ≤ k ∧ k < 65536 := by rw [← hk]; unfold aheadV; omega
  obtain ⟨hkb1, hkb2⟩ := hkb
  clear hH hM hu hD hWI hWA hrr hpos hhd hnn hk hg1 hg2
  go_enter Try.func43, Try.ntmps43
  go_wp2_with fail
  have hwu : IntKind.i64.wrap (u + 2) = u + 2 := IntWalk.i64_in _ ⟨by omega, by omega⟩
  go_quiet ((go_at_call 68; exact Calls.quiet_of (hahead_any _ D _ m d false wr rd B (u + 2) (HH.out.drewN _) (HM.out.drewN _) hB hr)))
  clear hwu
  replace c0 : (w.drewN nq).cell? ⟨D, 0, none⟩ = some (.int .i64 (bz.length : Nat)) := c0
  replace c2 : (w.drewN nq).cell? ⟨D, 2, none⟩ = some (.int .i64 u) := c2
  replace c7 : (w.drewN nq).cell? ⟨D, 7, none⟩ = some (.int .i64 rd) := c7
  replace c9 : (w.drewN nq).cell? ⟨D, 9, none⟩ = some (.map (some bw)) := c9
  replace c10 : (w.drewN nq).cell? ⟨D, 10, none⟩ = some (.map (some bl)) := c10
  replace HH : Hid (HalfC (w.drewN nq) D (bz.length : Nat) m false wr rd) := Lib.hid (HH.out.drewN nq)
  replace HM : Hid (MemAt 114 (w.drewN nq) m d B) := Lib.hid (HM.out.drewN nq)
  replace HDr : Hid (DrvAt (w.drewN nq) D bs bw bl m (bz.length : Nat) false wr rd bz wy ls) := Lib.hid (HDr.out.left ((Left.refl [] w).drewN nq) (by simp) (by simp) (by simp) (by simp) (by simp))
  replace HWI : Hid (IMap (w.drewN nq) bw W) := Lib.hid (HWI.out.left ((Left.refl [] w).drewN nq) (by simp))
  replace HWA : Hid (WayAt (w.drewN nq) W wy) := Lib.hid (HWA.out.left ((Left.refl [] w).drewN nq) (by simp))
  replace HLS : Hid (IMap (w.drewN nq) bl (leastV ls)) := Lib.hid (HLS.out.left ((Left.refl [] w).drewN nq) (by simp))
  replace HLe : Hid (Left [] w0 (w.drewN nq)) := Lib.hid (HLe.out.drewN nq)
  clear c5
  generalize w.drewN nq = w1 at c0 c2 c7 c9 c10 HH HM HDr HWI HWA HLS HLe ⊢
  have c5 : True := trivial
  rw [HK.out]
  have hk0' : (k == 0) = false := beq_eq_false_iff_ne.2 hk0
  have hw2 : IntKind.i64.wrap (8 * (rr : Int)) = 8 * (rr : Int) := IntWalk.i64_in _ ⟨by omega, by omega⟩
  have hw1 : IntKind.i64.wrap (u + 4) = u + 4 := IntWalk.i64_in _ ⟨by omega, by omega⟩
  have hw3 : IntKind.i64.wrap (u + 4 + 8 * (rr : Int)) = u + 4 + 8 * (rr : Int) := IntWalk.i64_in _ ⟨by omega, by omega⟩
  go_wp2_with fail
  go_quiet (fail)
  clear hw1 hw2 hw3 htm
  replace c0 : (w1.drewN nq).cell? ⟨D, 0, none⟩ = some (.int .i64 (bz.length : Nat)) := c0
  replace c2 : (w1.drewN nq).cell? ⟨D, 2, none⟩ = some (.int .i64 u) := c2
  replace c7 : (w1.drewN nq).cell? ⟨D, 7, none⟩ = some (.int .i64 rd) := c7
  replace c9 : (w1.drewN nq).cell? ⟨D, 9, none⟩ = some (.map (some bw)) := c9
  replace c10 : (w1.drewN nq).cell? ⟨D, 10, none⟩ = some (.map (some bl)) := c10
  replace HH : Hid (HalfC (w1.drewN nq) D (bz.length : Nat) m false wr rd) := Lib.hid (HH.out.drewN nq)
  replace HM : Hid (MemAt 114 (w1.drewN nq) m d B) := Lib.hid (HM.out.drewN nq)
  replace HDr : Hid (DrvAt (w1.drewN nq) D bs bw bl m (bz.length : Nat) false wr rd bz wy ls) := Lib.hid (HDr.out.left ((Left.refl [] w1).drewN nq) (by simp) (by simp) (by simp) (by simp) (by simp))
  replace HWI : Hid (IMap (w1.drewN nq) bw W) := Lib.hid (HWI.out.left ((Left.refl [] w1).drewN nq) (by simp))
  replace HWA : Hid (WayAt (w1.drewN nq) W wy) := Lib.hid (HWA.out.left ((Left.refl [] w1).drewN nq) (by simp))
  replace HLS : Hid (IMap (w1.drewN nq) bl (leastV ls)) := Lib.hid (HLS.out.left ((Left.refl [] w1).drewN nq) (by simp))
  replace HLe : Hid (Left [] w0 (w1.drewN nq)) := Lib.hid (HLe.out.drewN nq)
  clear c5
  generalize w1.drewN nq = w2 at c0 c2 c7 c9 c10 HH HM HDr HWI HWA HLS HLe ⊢
  have c5 : True := trivial
  have hw4 : IntKind.i64.wrap (u + 4 + 8 * (rr : Int) + 4) = u + 4 + 8 * (rr : Int) + 4 := IntWalk.i64_in _ ⟨by omega, by omega⟩
  go_wp2_with fail
  go_quiet ((go_at_call 69; exact Calls.quiet_of_same (hget_q _ D _ m d false wr rd B _ 4 (HH.out.drewN _) (HM.out.drewN _) hB (by omega))))
  clear hw4
  replace c0 : (w2.drewN nq).cell? ⟨D, 0, none⟩ = some (.int .i64 (bz.length : Nat)) := c0
  replace c2 : (w2.drewN nq).cell? ⟨D, 2, none⟩ = some (.int .i64 u) := c2
  replace c7 : (w2.drewN nq).cell? ⟨D, 7, none⟩ = some (.int .i64 rd) := c7
  replace c9 : (w2.drewN nq).cell? ⟨D, 9, none⟩ = some (.map (some bw)) := c9
  replace c10 : (w2.drewN nq).cell? ⟨D, 10, none⟩ = some (.map (some bl)) := c10
  replace HH : Hid (HalfC (w2.drewN nq) D (bz.length : Nat) m false wr rd) := Lib.hid (HH.out.drewN nq)
  replace HM : Hid (MemAt 114 (w2.drewN nq) m d B) := Lib.hid (HM.out.drewN nq)
  replace HDr : Hid (DrvAt (w2.drewN nq) D bs bw bl m (bz.length : Nat) false wr rd bz wy ls) := Lib.hid (HDr.out.left ((Left.refl [] w2).drewN nq) (by simp) (by simp) (by simp) (by simp) (by simp))
  replace HWI : Hid (IMap (w2.drewN nq) bw W) := Lib.hid (HWI.out.left ((Left.refl [] w2).drewN nq) (by simp))
  replace HWA : Hid (WayAt (w2.drewN nq) W wy) := Lib.hid (HWA.out.left ((Left.refl [] w2).drewN nq) (by simp))
  replace HLS : Hid (IMap (w2.drewN nq) bl (leastV ls)) := Lib.hid (HLS.out.left ((Left.refl [] w2).drewN nq) (by simp))
  replace HLe : Hid (Left [] w0 (w2.drewN nq)) := Lib.hid (HLe.out.drewN nq)
  clear c5
  generalize w2.drewN nq = w3 at c0 c2 c7 c9 c10 HH HM HDr HWI HWA HLS HLe ⊢
  have c5 : True := trivial
  rw [HHD.out, HNN.out]
  have hlk := run_look_ok (P := Try.prog) (t := 120) (kt := 3) (et := 22) (w := w3) (L := W) (z := .slice none 0 0) HWI.out (by kernel_rfl) (by kernel_rfl) (by kernel_rfl) hd
  have hml := run_maplen (P := Try.prog) (t := 120) (kt := 3) (et := 22) HWI.out (by kernel_rfl) 3
  have hl2 := run_look (P := Try.prog) (t := 121) (kt := 3) (et := 3) (w := w3) (L := leastV ls) (z := .int .i64 0) HLS.out (by kernel_rfl) (by kernel_rfl) (by kernel_rfl) hd
  rw [look_leastV] at hl2
  have hwl := way_look (k := hd) HWA.out
  have HWL := Lib.hid hwl
  have hbn1 := hlen
  obtain ⟨nw, hnw⟩ : ∃ nw : Nat, W.length = nw := ⟨_, rfl⟩
  rw [hnw] at hml hlen
  have HLEN := Lib.hid hlen
  clear hwl hbn1 hnw hlen
  have hwW := HW
  by_cases hgt : (nw : Int) < k
  · go_wp2_with fail
    refine (breaks_any w3 D 123 _ m false wr rd _ HDr.out.head).mono ?_
    rintro e w4 ⟨rfl, hW4, hL4⟩
    go_wp2
    ((try simp only [Exit.inBlock, Exit.then]); refine bodyPost_ret (results_tmp4 rfl _ _ _) rfl ?_)
    refine ⟨rfl, ?_, ?_⟩
    · have h0 := HDr.out
      obtain ⟨W', hW'1, hW'2⟩ := h0.way
      have n1 := h0.head.ne h0.busy (by decide)
      have n2 : D ≠ bw := by
        intro e
        obtain ⟨es, ck, hh, _⟩ := hW'1.size
        have := h0.head
        unfold Whole at this
        rw [e, hh] at this
        injection this with this
        cases this
      have n3 : D ≠ bl := by
        intro e
        obtain ⟨es, ck, hh, _⟩ := h0.least.size
        have := h0.head
        unfold Whole at this
        rw [e, hh] at this
        injection this with this
        cases this
      exact ⟨hW4, h0.busy.left hL4 (by simp [n1.symm]), ⟨W', hW'1.left hL4 (by simp [n2.symm]), hW'2.left hL4 (by simp; exact NoInt.of_whole h0.head (by decide))⟩, h0.least.left hL4 (by simp [n3.symm]), h0.ne, h0.len⟩
    · have := (HLe.out.mono (T := [D]) (by simp)).trans (T := [D]) hL4 (by simp)
      rwa [hw0] at this
  · cases hlw : lookW wy hd with
    | none =>
      rw [HWL.out.1 hlw] at hlk
      clear hlw
      go_wp2_with fail
      refine (breaks_any w3 D 123 _ m false wr rd _ HDr.out.head).mono ?_
      rintro e w4 ⟨rfl, hW4, hL4⟩
      go_wp2
      ((try simp only [Exit.inBlock, Exit.then]); refine bodyPost_ret (results_tmp4 rfl _ _ _) rfl ?_)
      refine ⟨rfl, ?_, ?_⟩
      · have h0 := HDr.out
        obtain ⟨W', hW'1, hW'2⟩ := h0.way
        have n1 := h0.head.ne h0.busy (by decide)
        have n2 : D ≠ bw := by
          intro e
          obtain ⟨es, ck, hh, _⟩ := hW'1.size
          have := h0.head
          unfold Whole at this
          rw [e, hh] at this
          injection this with this
          cases this
        have n3 : D ≠ bl := by
          intro e
          obtain ⟨es, ck, hh, _⟩ := h0.least.size
          have := h0.head
          unfold Whole at this
          rw [e, hh] at this
          injection this with this
          cases this
        exact ⟨hW4, h0.busy.left hL4 (by simp [n1.symm]), ⟨W', hW'1.left hL4 (by simp [n2.symm]), hW'2.left hL4 (by simp; exact NoInt.of_whole h0.head (by decide))⟩, h0.least.left hL4 (by simp [n3.symm]), h0.ne, h0.len⟩
      · have := (HLe.out.mono (T := [D]) (by simp)).trans (T := [D]) hL4 (by simp)
        rwa [hw0] at this
    | some own =>
      obtain ⟨sv, hsv, _⟩ := HWL.out.2 own hlw
      rw [hsv] at hlk
      obtain ⟨lv, hlv⟩ : ∃ lv, lookL ls hd = lv := ⟨_, rfl⟩
      have hb3 : lv < nn := by
        rw [← hlv]
        rcases HBad.out with h | h | h
        · have := HLEN.out; omega
        · rw [h] at hlw; cases hlw
        · exact h
      rw [hlv] at hl2
      clear hlw hsv hlv
      go_wp2_with fail
      refine (breaks_any w3 D 123 _ m false wr rd _ HDr.out.head).mono ?_
      rintro e w4 ⟨rfl, hW4, hL4⟩
      go_wp2
      ((try simp only [Exit.inBlock, Exit.then]); refine bodyPost_ret (results_tmp4 rfl _ _ _) rfl ?_)
      refine ⟨rfl, ?_, ?_⟩
      · have h0 := HDr.out
        obtain ⟨W', hW'1, hW'2⟩ := h0.way
        have n1 := h0.head.ne h0.busy (by decide)
        have n2 : D ≠ bw := by
          intro e
          obtain ⟨es, ck, hh, _⟩ := hW'1.size
          have := h0.head
          unfold Whole at this
          rw [e, hh] at this
          injection this with this
          cases this
        have n3 : D ≠ bl := by
          intro e
          obtain ⟨es, ck, hh, _⟩ := h0.least.size
          have := h0.head
          unfold Whole at this
          rw [e, hh] at this
          injection this with this
          cases this
        exact ⟨hW4, h0.busy.left hL4 (by simp [n1.symm]), ⟨W', hW'1.left hL4 (by simp [n2.symm]), hW'2.left hL4 (by simp; exact NoInt.of_whole h0.head (by decide))⟩, h0.least.left hL4 (by simp [n3.symm]), h0.ne, h0.len⟩
      · have := (HLe.out.mono (T := [D]) (by simp)).trans (T := [D]) hL4 (by simp)
        rwa [hw0] at this

theorem own_form' {w : World} {base : Nat} {e : TypeId} {size : Nat} {v : Value} {n : Nat} {xs : List Value} (h : w.ownsRow base e size v n xs) (hn : 0 < n) : ∃ g cap, v = .slice (some ⟨g, 0, none⟩) n cap ∧ base ≤ g ∧ g < w.heap.size := by
  rcases h.2 with ⟨_, h0⟩ | ⟨g, cap, cur, hv, hb, hg, _⟩
  · omega
  · exact ⟨g, cap, hv, hb, (Array.getElem?_eq_some_iff.1 hg).1⟩
theorem whole_imap_ne {w : World} {D b : Nat} {t : TypeId} {cs : List Value} {L : List (Int × Value)} (h : Whole w D t cs) (hm : IMap w b L) : D ≠ b := by
  intro e
  obtain ⟨es, ck, hh, _⟩ := hm.size
  unfold Whole at h
  rw [e, hh] at h
  injection h with h
  cases h

set_option maxRecDepth 20000 in
set_option maxHeartbeats 4000000 in
theorem Used_ok (w : World) (D bs bw bl : Nat) (m d : Nat) (wr rd : Nat) (bz : List Bool) (wy : List (Int × List Nat)) (ls : List (Int × Int)) (B : List UInt8) (hd nn k : Int) (own : List Nat) (hD : DrvAt w D bs bw bl m (bz.length : Nat) false wr rd bz wy ls) (hM : MemAt 114 w m d B) (hB : B.length ≤ 65536) (hr : rd ≤ 65535) (hq1 : 1 ≤ bz.length) (hq2 : bz.length ≤ 64)
    (hk : aheadV B (usedAt (bz.length : Nat) + 2) rd = k) (hk0 : k ≠ 0) (hhd : usedHead B (bz.length : Nat) rd = hd) (hnn : usedLen B (bz.length : Nat) rd = nn)
    (hg : k ≤ (wy.length : Int)) (hown : lookW wy hd = some own) (hls : nn ≤ lookL ls hd) (hox : ∀ x ∈ own, x < bz.length) :
    Calls Try.prog 43 #[.pointer (some ⟨D, 0, none⟩)] w fun e w' => e = .returned (.tuple #[.int .i64 hd, .int .i64 nn, .bool true, .int .i64 0]) ∧
      DrvAt w' D bs bw bl m (bz.length : Nat) false wr ((rd + 1) % 65536) (setAll bz own false) (delW wy hd) (delL ls hd) ∧ Left [D, bs, bw, bl] w w' ∧ ∀ k, NoRow w bw k → NoRow w' bw k := by
  have HOX := Lib.hid hox
  have HOWN := Lib.hid hown
  have HG := Lib.hid hg
  have HL0 := Lib.hid hls
  clear hox hown hg hls
  obtain ⟨w0, hw0⟩ : ∃ w0, w0 = w := ⟨_, rfl⟩
  obtain ⟨u, hu⟩ : ∃ u, usedAt (bz.length : Nat) = u := ⟨_, rfl⟩
  have hu1 : 0 ≤ u ∧ u ≤ 2000 := by rw [← hu]; unfold usedAt; omega
  have HU := Lib.hid hu
  have hH := hD.head
  have c2 : w.cell? ⟨D, 2, none⟩ = some (.int .i64 u) := by rw [hH.cell, ← hu]; rfl
  have c0 : w.cell? ⟨D, 0, none⟩ = some (.int .i64 (bz.length : Nat)) := by rw [hH.cell]; rfl
  have c5 : w.cell? ⟨D, 5, none⟩ = some (.bool false) := by rw [hH.cell]; rfl
  have c7 : w.cell? ⟨D, 7, none⟩ = some (.int .i64 rd) := by rw [hH.cell]; rfl
  have c9 : w.cell? ⟨D, 9, none⟩ = some (.map (some bw)) := by rw [hH.cell]; rfl
  have c10 : w.cell? ⟨D, 10, none⟩ = some (.map (some bl)) := by rw [hH.cell]; rfl
  have HW := Lib.hid hH
  have HH := Lib.hid (HalfC.of_whole hH)
  have HM := Lib.hid hM
  have HDr := Lib.hid hD
  obtain ⟨W, hWI, hWA⟩ := hD.way
  have hlen := way_length hWA
  have HWI0 := Lib.hid hWI
  have HLe : Hid (Left [] w0 w) := Lib.hid (hw0 ▸ Left.refl _ _)
  have HWI := Lib.hid hWI
  have HWA := Lib.hid hWA
  have HLS := Lib.hid hD.least
  obtain ⟨rr, hrr⟩ : ∃ rr : Nat, rd % bz.length = rr := ⟨_, rfl⟩
  have hrr2 : rr ≤ 63 := by have := Nat.mod_lt rd hq1; omega
  have htm : ((rd : Int)).tmod (bz.length : Int) = (rr : Int) := by rw [← hrr]; rfl
  have hbn : ¬ bz = [] := fun e => by rw [e] at hq1; simp at hq1
  have hpos : usedPos (bz.length : Nat) rd = u + 4 + 8 * (rr : Int) := by unfold usedPos; rw [hu]; simp [hrr]
  unfold usedHead at hhd
  unfold usedLen at hnn
  rw [hpos] at hhd hnn
  rw [hu] at hk
  have HHD := Lib.hid hhd
  have HNN := Lib.hid hnn
  have HK := Lib.hid hk
  have hg1 := getV_lt B (u + 4 + 8 * (rr : Int)) 4
  have hg2 := getV_lt B (u + 4 + 8 * (rr : Int) + 4) 4
  rw [hhd] at hg1
  rw [hnn] at hg2
  have hd1 : 0 ≤ hd := hg1.1
  have hd2 : hd ≤ 4294967295 := hg1.2.1 (by omega)
  have hn1 : 0 ≤ nn := hg2.1
  have hn2 : nn ≤ 4294967295 := hg2.2.1 (by omega)
  have hkb : 0 ≤ k ∧ k < 65536 := by rw [← hk]; unfold aheadV; omega
  obtain ⟨hkb1, hkb2⟩ := hkb
  clear hH hM hu hD hWI hWA hrr hpos hhd hnn hk hg1 hg2
  go_enter Try.func43, Try.ntmps43
  go_wp2_with fail
  have hwu : IntKind.i64.wrap (u + 2) = u + 2 := IntWalk.i64_in _ ⟨by omega, by omega⟩
  go_quiet ((go_at_call 68; exact Calls.quiet_of (hahead_any _ D _ m d false wr rd B (u + 2) (HH.out.drewN _) (HM.out.drewN _) hB hr)))
  clear hwu
  replace c0 : (w.drewN nq).cell? ⟨D, 0, none⟩ = some (.int .i64 (bz.length : Nat)) := c0
  replace c2 : (w.drewN nq).cell? ⟨D, 2, none⟩ = some (.int .i64 u) := c2
  replace c7 : (w.drewN nq).cell? ⟨D, 7, none⟩ = some (.int .i64 rd) := c7
  replace c9 : (w.drewN nq).cell? ⟨D, 9, none⟩ = some (.map (some bw)) := c9
  replace c10 : (w.drewN nq).cell? ⟨D, 10, none⟩ = some (.map (some bl)) := c10
  replace HH : Hid (HalfC (w.drewN nq) D (bz.length : Nat) m false wr rd) := Lib.hid (HH.out.drewN nq)
  replace HM : Hid (MemAt 114 (w.drewN nq) m d B) := Lib.hid (HM.out.drewN nq)
  replace HDr : Hid (DrvAt (w.drewN nq) D bs bw bl m (bz.length : Nat) false wr rd bz wy ls) := Lib.hid (HDr.out.left ((Left.refl [] w).drewN nq) (by simp) (by simp) (by simp) (by simp) (by simp))
  replace HWI : Hid (IMap (w.drewN nq) bw W) := Lib.hid (HWI.out.left ((Left.refl [] w).drewN nq) (by simp))
  replace HWA : Hid (WayAt (w.drewN nq) W wy) := Lib.hid (HWA.out.left ((Left.refl [] w).drewN nq) (by simp))
  replace HLS : Hid (IMap (w.drewN nq) bl (leastV ls)) := Lib.hid (HLS.out.left ((Left.refl [] w).drewN nq) (by simp))
  replace HLe : Hid (Left [] w0 (w.drewN nq)) := Lib.hid (HLe.out.drewN nq)
  clear c5
  generalize w.drewN nq = w1 at c0 c2 c7 c9 c10 HH HM HDr HWI HWA HLS HLe ⊢
  have c5 : True := trivial
  rw [HK.out]
  have hk0' : (k == 0) = false := beq_eq_false_iff_ne.2 hk0
  have hw2 : IntKind.i64.wrap (8 * (rr : Int)) = 8 * (rr : Int) := IntWalk.i64_in _ ⟨by omega, by omega⟩
  have hw1 : IntKind.i64.wrap (u + 4) = u + 4 := IntWalk.i64_in _ ⟨by omega, by omega⟩
  have hw3 : IntKind.i64.wrap (u + 4 + 8 * (rr : Int)) = u + 4 + 8 * (rr : Int) := IntWalk.i64_in _ ⟨by omega, by omega⟩
  go_wp2_with fail
  go_quiet (fail)
  clear hw1 hw2 hw3 htm
  replace c0 : (w1.drewN nq).cell? ⟨D, 0, none⟩ = some (.int .i64 (bz.length : Nat)) := c0
  replace c2 : (w1.drewN nq).cell? ⟨D, 2, none⟩ = some (.int .i64 u) := c2
  replace c7 : (w1.drewN nq).cell? ⟨D, 7, none⟩ = some (.int .i64 rd) := c7
  replace c9 : (w1.drewN nq).cell? ⟨D, 9, none⟩ = some (.map (some bw)) := c9
  replace c10 : (w1.drewN nq).cell? ⟨D, 10, none⟩ = some (.map (some bl)) := c10
  replace HH : Hid (HalfC (w1.drewN nq) D (bz.length : Nat) m false wr rd) := Lib.hid (HH.out.drewN nq)
  replace HM : Hid (MemAt 114 (w1.drewN nq) m d B) := Lib.hid (HM.out.drewN nq)
  replace HDr : Hid (DrvAt (w1.drewN nq) D bs bw bl m (bz.length : Nat) false wr rd bz wy ls) := Lib.hid (HDr.out.left ((Left.refl [] w1).drewN nq) (by simp) (by simp) (by simp) (by simp) (by simp))
  replace HWI : Hid (IMap (w1.drewN nq) bw W) := Lib.hid (HWI.out.left ((Left.refl [] w1).drewN nq) (by simp))
  replace HWA : Hid (WayAt (w1.drewN nq) W wy) := Lib.hid (HWA.out.left ((Left.refl [] w1).drewN nq) (by simp))
  replace HLS : Hid (IMap (w1.drewN nq) bl (leastV ls)) := Lib.hid (HLS.out.left ((Left.refl [] w1).drewN nq) (by simp))
  replace HLe : Hid (Left [] w0 (w1.drewN nq)) := Lib.hid (HLe.out.drewN nq)
  clear c5
  generalize w1.drewN nq = w2 at c0 c2 c7 c9 c10 HH HM HDr HWI HWA HLS HLe ⊢
  have c5 : True := trivial
  have hw4 : IntKind.i64.wrap (u + 4 + 8 * (rr : Int) + 4) = u + 4 + 8 * (rr : Int) + 4 := IntWalk.i64_in _ ⟨by omega, by omega⟩
  go_wp2_with fail
  go_quiet ((go_at_call 69; exact Calls.quiet_of_same (hget_q _ D _ m d false wr rd B _ 4 (HH.out.drewN _) (HM.out.drewN _) hB (by omega))))
  clear hw4
  replace c0 : (w2.drewN nq).cell? ⟨D, 0, none⟩ = some (.int .i64 (bz.length : Nat)) := c0
  replace c2 : (w2.drewN nq).cell? ⟨D, 2, none⟩ = some (.int .i64 u) := c2
  replace c7 : (w2.drewN nq).cell? ⟨D, 7, none⟩ = some (.int .i64 rd) := c7
  replace c9 : (w2.drewN nq).cell? ⟨D, 9, none⟩ = some (.map (some bw)) := c9
  replace c10 : (w2.drewN nq).cell? ⟨D, 10, none⟩ = some (.map (some bl)) := c10
  replace HH : Hid (HalfC (w2.drewN nq) D (bz.length : Nat) m false wr rd) := Lib.hid (HH.out.drewN nq)
  replace HM : Hid (MemAt 114 (w2.drewN nq) m d B) := Lib.hid (HM.out.drewN nq)
  replace HDr : Hid (DrvAt (w2.drewN nq) D bs bw bl m (bz.length : Nat) false wr rd bz wy ls) := Lib.hid (HDr.out.left ((Left.refl [] w2).drewN nq) (by simp) (by simp) (by simp) (by simp) (by simp))
  replace HWI : Hid (IMap (w2.drewN nq) bw W) := Lib.hid (HWI.out.left ((Left.refl [] w2).drewN nq) (by simp))
  replace HWA : Hid (WayAt (w2.drewN nq) W wy) := Lib.hid (HWA.out.left ((Left.refl [] w2).drewN nq) (by simp))
  replace HLS : Hid (IMap (w2.drewN nq) bl (leastV ls)) := Lib.hid (HLS.out.left ((Left.refl [] w2).drewN nq) (by simp))
  replace HLe : Hid (Left [] w0 (w2.drewN nq)) := Lib.hid (HLe.out.drewN nq)
  clear c5
  generalize w2.drewN nq = w3 at c0 c2 c7 c9 c10 HH HM HDr HWI HWA HLS HLe ⊢
  have c5 : True := trivial
  rw [HHD.out, HNN.out]
  have hlk := run_look_ok (P := Try.prog) (t := 120) (kt := 3) (et := 22) (w := w3) (L := W) (z := .slice none 0 0) HWI.out (by kernel_rfl) (by kernel_rfl) (by kernel_rfl) hd
  have hml := run_maplen (P := Try.prog) (t := 120) (kt := 3) (et := 22) HWI.out (by kernel_rfl) 3
  have hl2 := run_look (P := Try.prog) (t := 121) (kt := 3) (et := 3) (w := w3) (L := leastV ls) (z := .int .i64 0) HLS.out (by kernel_rfl) (by kernel_rfl) (by kernel_rfl) hd
  rw [look_leastV] at hl2
  have HWL := Lib.hid (way_look (k := hd) HWA.out)
  obtain ⟨nw, hnw⟩ : ∃ nw : Nat, W.length = nw := ⟨_, rfl⟩
  rw [hnw] at hml hlen
  have hgt : k ≤ (nw : Int) := by have := HG.out; omega
  clear hnw hlen
  obtain ⟨sv, hsv, hO⟩ := HWL.out.2 own HOWN.out
  rw [hsv] at hlk
  obtain ⟨lv, hlv⟩ : ∃ lv, lookL ls hd = lv := ⟨_, rfl⟩
  have hb3 : nn ≤ lv := by rw [← hlv]; exact HL0.out
  rw [hlv] at hl2
  have HSV := Lib.hid hsv
  have HO := Lib.hid hO
  obtain ⟨ao, cap, rfl, hcp, hmx⟩ := (Rd.of_own hO).form
  have hmx' : own.length ≤ 9223372036854775807 := by unfold maxLen at hmx; omega
  have hDb := HDr.out.head.ne HDr.out.busy (by decide)
  have c8 : w3.cell? ⟨D, 8, none⟩ = some (.slice (some ⟨bs, 0, none⟩) bz.length bz.length) := by rw [HDr.out.head.cell]; rfl
  have hDb' := hDb.symm
  clear hlv hsv hO hcp hmx
  go_wp2
  go_loopw [11, 98] (fun _ i w' => ∃ j : Nat, j ≤ own.length ∧ i = .int .i64 j ∧ Whole w' bs 4 ((setAll bz (own.take j) false).map (.bool ·)) ∧ Left [bs] w3 w') (fun _ i _ => own.length - (intOf i).toNat)
  case atStart => exact ⟨0, by omega, rfl, HDr.out.busy, Left.refl _ _⟩
  case round =>
    obtain ⟨j, hj, rfl, hSj, hLj⟩ := hrel
    have HSj := Lib.hid hSj
    have HLj := Lib.hid hLj
    clear hSj hLj
    by_cases hjl : j < own.length
    · obtain ⟨x, hxj⟩ : ∃ x, own[j]? = some x := ⟨_, List.getElem?_eq_getElem hjl⟩
      have HX := Lib.hid hxj
      have hxb : x < bz.length := HOX.out x (List.mem_of_getElem? hxj)
      obtain ⟨g, cap', hv, hbg, hgl⟩ := own_form' HO.out (by omega)
      injection hv with hv1 hv2 hv3
      subst hv1
      have hgb : g ≠ bs := by
        intro e
        rcases HO.out.2 with ⟨hn, _⟩ | ⟨g', cap2, cur, hv, _, hgg, _⟩
        · cases hn
        · injection hv with hv
          injection hv with hv
          injection hv with hv
          subst hv
          exact NoInt.of_whole HDr.out.busy (by decide) _ _ (e ▸ hgg)
      have hgb' := hgb.symm
      have hcj : wr.cell? ⟨g, j, none⟩ = some (.int .i64 x) := by
        have h0 := HO.out.cellAt j (by omega)
        have : w3.cell? ⟨g, j, none⟩ = some (.int .i64 x) := by
          rw [h0, i64s, List.getElem?_map, hxj]
          rfl
        exact cell_left' this HLj.out (by simp [hgb])
      have hd8 : wr.cell? ⟨D, 8, none⟩ = some (.slice (some ⟨bs, 0, none⟩) bz.length bz.length) := cell_left' c8 HLj.out (by simp [hDb])
      have hfx := HSj.out.free x
      obtain ⟨bv, hcx⟩ : ∃ bv, wr.cell? ⟨bs, x, none⟩ = some (.bool bv) := by
        obtain ⟨bv, hbv⟩ : ∃ bv, (setAll bz (own.take j) false)[x]? = some bv := ⟨_, List.getElem?_eq_getElem (by rw [setAll_length]; exact hxb)⟩
        exact ⟨bv, by rw [HSj.out.cell, List.getElem?_map, hbv]; rfl⟩
      clear hxj hv2 hv3
      go_wp2
      go_roundw
      case rel =>
        refine ⟨j + 1, by omega, by go_num, ?_, HLj.out.setCell (Or.inl (by simp)) _⟩
        have e1 : own.take (j + 1) = own.take j ++ [x] := by rw [List.take_add_one, HX.out]; rfl
        rw [e1, setAll_snoc, List.map_set]
        exact HSj.out.put x (.bool false)
      case measure => simp [intOf]; omega
    · have hjL : j = own.length := by omega
      subst hjL
      rw [List.take_length] at HSj
      have hDw := whole_imap_ne HDr.out.head HWI.out
      have hDl := whole_imap_ne HDr.out.head HLS.out
      have hbw1 := whole_imap_ne HDr.out.busy HWI.out
      have hbl1 := whole_imap_ne HDr.out.busy HLS.out
      have hne := HDr.out.ne
      have k9 := cell_left' c9 HLj.out (by simp [hDb])
      have hIW := HWI.out.left HLj.out (by simp [hbw1.symm])
      obtain ⟨wa, hdel, hIW2, hLa⟩ := run_del (P := Try.prog) (t := 120) (kt := 3) (et := 22) hIW (by kernel_rfl) (by kernel_rfl) hd
      have HIW2 := Lib.hid hIW2
      have HLa := Lib.hid hLa
      have k10 := cell_left' (cell_left' c10 HLj.out (by simp [hDb])) hLa (by simp [hDw])
      have hIL := (HLS.out.left HLj.out (by simp [hbl1.symm])).left hLa (by simp [hne.symm])
      obtain ⟨wb, hdel2, hIL2, hLb⟩ := run_del (P := Try.prog) (t := 121) (kt := 3) (et := 3) hIL (by kernel_rfl) (by kernel_rfl) hd
      have HIL2 := Lib.hid hIL2
      have HLb := Lib.hid hLb
      have HW4 := Lib.hid (((HDr.out.head.left HLj.out (by simp [hDb])).left hLa (by simp [hDw])).left hLb (by simp [hDl]))
      have k7 : wb.cell? ⟨D, 7, none⟩ = some (.int .i64 rd) := by rw [HW4.out.cell]; rfl
      have f7 := HW4.out.free 7
      clear hIW hIW2 hLa hIL hIL2 hLb
      go_wp2
      have hwt : ((rd : Int) + 1) % 65536 = (((rd + 1) % 65536 : Nat) : Int) := by omega
      rw [hwt]
      ((try simp only [Exit.inBlock, Exit.then]); refine bodyPost_ret (results_tmp4 rfl _ _ _) rfl ?_)
      have hne2 : bl ≠ bw := hne.symm
      have hL5 : Left [D] wb (wb.setCell ⟨D, 7, none⟩ (.int .i64 ((rd + 1) % 65536 : Nat))) := (Left.refl _ _).setCell (Or.inl (by simp)) _
      have hLall : Left [D, bs, bw, bl] w3 (wb.setCell ⟨D, 7, none⟩ (.int .i64 ((rd + 1) % 65536 : Nat))) :=
        (((HLj.out.mono (T := [D, bs, bw, bl]) (by simp)).trans (T := [bw]) HLa.out (by simp)).trans (T := [bl]) HLb.out (by simp)).trans (T := [D]) hL5 (by simp)
      have hNI : ∀ k ∈ [D, bs, bw, bl], NoInt w3 k := by
        intro k hk
        simp only [List.mem_cons, List.mem_nil_iff, or_false] at hk
        rcases hk with rfl | rfl | rfl | rfl
        · exact NoInt.of_whole HDr.out.head (by decide)
        · exact NoInt.of_whole HDr.out.busy (by decide)
        · exact NoInt.of_imap HWI.out
        · exact NoInt.of_imap HLS.out
      have hMap := (HIW2.out.left HLb.out (by simp [hne])).left hL5 (by simp [hDw.symm])
      refine ⟨rfl, ⟨?_, ?_, ⟨del W hd, ?_, ?_⟩, ?_, hne, ?_⟩, ?_, ?_⟩
      · rw [setAll_length]
        exact HW4.out.put 7 (.int .i64 ((rd + 1) % 65536 : Nat))
      · exact ((HSj.out.left HLa.out (by simp [hbw1])).left HLb.out (by simp [hbl1])).left hL5 (by simp [hDb.symm])
      · exact hMap
      · exact (way_del HWA.out).left hLall hNI
      · rw [← del_leastV]
        exact HIL2.out.left hL5 (by simp [hDl.symm])
      · rw [setAll_length]
      · have := (HLe.out.mono (T := [D, bs, bw, bl]) (by simp)).trans (T := [D, bs, bw, bl]) hLall (by simp)
        rwa [hw0] at this
      · intro k hno W' hW' p hp
        rw [imap_uniq hW' hMap] at hp
        exact hno W HWI0.out p (List.mem_of_mem_eraseP hp)
end Go.Proofs.Ytfffehbipcikoaa
