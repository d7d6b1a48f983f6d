/- Device.chain, Pop, Push. -/


import Derived.Test.YtfffehbipcikoaaRing8
import Derived.Test.YtfffehbipcikoaaDraw
import Derived.Test.YtfffehbipcikoaaTpScope
namespace Go.Proofs.Ytfffehbipcikoaa
open Go.RowKit Go.MapKept

def bufZ : Value := .agg #[.int .i64 0, .int .i64 0, .bool false]
theorem inf_buf : (Try.prog.info? 89).map (fun i => (i.zero, i.size, i.bytes)) = some (some bufZ, 3, 24) := by kernel_rfl
theorem buf_one (b : Buf) : ∀ u ∈ b.cells, u.oneCell' = true := by simp [Buf.cells, Value.oneCell']
theorem one_newB (w : World) (b : Buf) : Rd (w.alloc (.cells #[.int .i64 b.addr, .int .i64 b.len, .bool b.wr] 89)) (w.heap.size + 1) 3 (.slice (some ⟨w.heap.size, 0, none⟩) 1 1) 1 b.cells := by
  refine ⟨rfl, _, _, rfl, by omega, by unfold maxLen; omega, (fun e => by cases e), fun _ => ⟨_, _, rfl, by omega, fun j u hu => ?_⟩⟩
  have : j = 0 ∨ j = 1 ∨ j = 2 := by
    have := (List.getElem?_eq_some_iff.1 hu).1
    simp [Buf.cells] at this
    omega
  rcases this with rfl | rfl | rfl
  · simp [Buf.cells] at hu; subst hu; simp
  · simp [Buf.cells] at hu; subst hu; simp
  · simp [Buf.cells] at hu; subst hu; simp
theorem bufCells_snoc (L : List Buf) (b : Buf) : bufCells L ++ b.cells = bufCells (L ++ [b]) := by simp [bufCells, List.flatMap_append]

/-- The descriptor number i. -/
def flagsAt (B : List UInt8) (i : Int) : Int := getV B (16 * i + 12) 2
def descAt (B : List UInt8) (i : Int) : Buf := ⟨getV B (16 * i) 8, getV B (16 * i + 8) 4, flagsAt B i == 2 || flagsAt B i == 3⟩
def nextAt (B : List UInt8) (i : Int) : Int := getV B (16 * i + 14) 2
/-- A chain's pieces; none: a value may not be. -/
def chainV (B : List UInt8) (q : Nat) : Nat → Int → Bool → List Buf → Option (List Buf)
  | 0, _, _, _ => none
  | f + 1, i, after, l =>
    if (q : Int) ≤ i ∨ l.length = q ∨ l.length = 16 then none
    else if 4294967296 < (descAt B i).addr ∨ 3 < flagsAt B i then none
    else if pieceB (descAt B i) after = false then none
    else if flagsAt B i = 1 ∨ flagsAt B i = 3 then chainV B q f (nextAt B i) (descAt B i).wr (l ++ [descAt B i])
    else some (l ++ [descAt B i])

theorem frame_any {a : Act} {T : (Nat → Value) → Act} (h : a = T (fun n => a.tmps.getD n undef)) : ∃ u, a = T u := ⟨_, h⟩
def JN (B : List UInt8) (q : Nat) (R : Option (List Buf)) (D gb : Nat) (w : World) (a' : Act) (w' : World) : Prop :=
  ∃ (f i : Nat) (after : Bool) (l : List Buf) (lv : Value) (n : Nat), n = l.length ∧ i ≤ 65535 ∧ f + n = 17 ∧ n ≤ 16 ∧ chainV B q f i after l = R ∧ w'.ownsRow (w.heap.size + 1) 89 3 lv n (bufCells l) ∧ Below w.heap.size w w' ∧ (∃ x y z, Whole w' gb 89 [x, y, z]) ∧
    ∃ u : Nat → Value, a' = { tmps := #[.pointer (some ⟨D, 0, none⟩), u 1, u 2, u 3, lv, .bool false, .bool after, .int .i64 i, .pointer (some ⟨gb, 0, none⟩), u 9, u 10, u 11, u 12, u 13, u 14, u 15, u 16, u 17, u 18, u 19, u 20, u 21, u 22, u 23, u 24, u 25, u 26, u 27, u 28, u 29, u 30, u 31, u 32, u 33, u 34, u 35, u 36, u 37, u 38, u 39, u 40, u 41, u 42, u 43, u 44, u 45, u 46, u 47, u 48, u 49, u 50, u 51, u 52, u 53, u 54, u 55, u 56, u 57, u 58, u 59, u 60, u 61, u 62, u 63, u 64, u 65, u 66, u 67, u 68, u 69, u 70, u 71, u 72, u 73, u 74, u 75, u 76, u 77, u 78, u 79, u 80, u 81, u 82, u 83, u 84, u 85, u 86, u 87, u 88, u 89, u 90, u 91, u 92, u 93], defers := [] }
def JB (R : Option (List Buf)) (w : World) (a' : Act) (w' : World) : Prop := R = none ∧ Below w.heap.size w w' ∧ ∃ u : Nat → Value, a' = { tmps := #[u 0, u 1, u 2, u 3, u 4, u 5, u 6, u 7, u 8, u 9, u 10, u 11, u 12, u 13, u 14, u 15, u 16, u 17, u 18, u 19, u 20, u 21, u 22, u 23, u 24, u 25, u 26, u 27, u 28, u 29, u 30, u 31, u 32, u 33, u 34, u 35, u 36, u 37, u 38, u 39, u 40, u 41, u 42, u 43, u 44, u 45, u 46, u 47, u 48, u 49, u 50, u 51, u 52, u 53, u 54, u 55, u 56, u 57, u 58, u 59, u 60, u 61, u 62, u 63, u 64, u 65, u 66, u 67, u 68, u 69, u 70, u 71, u 72, u 73, u 74, u 75, u 76, u 77, u 78, u 79, u 80, u 81, u 82, u 83, u 84, u 85, u 86, u 87, u 88, u 89, u 90, u 91, u 92, u 93], defers := [] }

def lenS : Value → Nat
  | .slice _ n _ => n
  | _ => 0
theorem chainV_c1 {B : List UInt8} {q f : Nat} {i : Int} {after : Bool} {L : List Buf} (h : (q : Int) ≤ i ∨ L.length = q ∨ L.length = 16) : chainV B q (f + 1) i after L = none := by rw [chainV, if_pos h]
theorem chainV_c2 {B : List UInt8} {q f : Nat} {i : Int} {after : Bool} {L : List Buf} (h0 : ¬ ((q : Int) ≤ i ∨ L.length = q ∨ L.length = 16)) (h : 4294967296 < (descAt B i).addr ∨ 3 < flagsAt B i) : chainV B q (f + 1) i after L = none := by rw [chainV, if_neg h0, if_pos h]
theorem chainV_c3 {B : List UInt8} {q f : Nat} {i : Int} {after : Bool} {L : List Buf} (h0 : ¬ ((q : Int) ≤ i ∨ L.length = q ∨ L.length = 16)) (h1 : ¬ (4294967296 < (descAt B i).addr ∨ 3 < flagsAt B i)) (h : pieceB (descAt B i) after = false) : chainV B q (f + 1) i after L = none := by rw [chainV, if_neg h0, if_neg h1, if_pos h]
theorem chainV_c4 {B : List UInt8} {q f : Nat} {i : Int} {after : Bool} {L : List Buf} (h0 : ¬ ((q : Int) ≤ i ∨ L.length = q ∨ L.length = 16)) (h1 : ¬ (4294967296 < (descAt B i).addr ∨ 3 < flagsAt B i)) (h : pieceB (descAt B i) after = true) (h3 : flagsAt B i = 1 ∨ flagsAt B i = 3) : chainV B q (f + 1) i after L = chainV B q f (nextAt B i) (descAt B i).wr (L ++ [descAt B i]) := by rw [chainV, if_neg h0, if_neg h1, if_neg (by simp [h]), if_pos h3]
theorem chainV_c5 {B : List UInt8} {q f : Nat} {i : Int} {after : Bool} {L : List Buf} (h0 : ¬ ((q : Int) ≤ i ∨ L.length = q ∨ L.length = 16)) (h1 : ¬ (4294967296 < (descAt B i).addr ∨ 3 < flagsAt B i)) (h : pieceB (descAt B i) after = true) (h3 : ¬ (flagsAt B i = 1 ∨ flagsAt B i = 3)) : chainV B q (f + 1) i after L = some (L ++ [descAt B i]) := by rw [chainV, if_neg h0, if_neg h1, if_neg (by simp [h]), if_neg h3]

set_option maxRecDepth 20000 in
set_option maxHeartbeats 4000000 in
theorem chain_any (w : World) (D : Nat) (q : Nat) (m d : Nat) (br : Bool) (wrt rd : Nat) (B : List UInt8) (hd : Nat) (h : HalfC w D q m br wrt rd) (hM : MemAt 114 w m d B) (hB : B.length ≤ 65536) (hq : 1 ≤ q ∧ q ≤ 64) (hhd : hd ≤ 65535) :
    Calls Try.prog 70 #[.pointer (some ⟨D, 0, none⟩), .int .i64 hd] w fun e w' => ∃ lv, e = .returned (.tuple #[lv, .bool (chainV B q 17 hd false []).isSome]) ∧ w'.ownsRow w.heap.size 89 3 lv ((chainV B q 17 hd false []).getD []).length (bufCells ((chainV B q 17 hd false []).getD [])) ∧ Below w.heap.size w w' := by
  obtain ⟨R, hR⟩ : ∃ R, chainV B q 17 hd false [] = R := ⟨_, rfl⟩
  rw [hR]
  have HR := Lib.hid hR
  have HH := Lib.hid h
  have HM := Lib.hid hM
  clear hR h hM
  go_enter Try.func70, Try.ntmps70
  go_wp2
  refine wp_scope_falls (rest0 := ?r) 1 ?J ?μ ?hf ?p ?f
  case J => exact (fun l a' w' => (l = 1 ∧ JN B q R D w.heap.size w a' w') ∨ (l = 0 ∧ JB R w a' w'))
  case μ => exact (fun l a' _ => if l = 1 then 20 - lenS (a'.tmps.getD 4 undef) else 0)
  case hf => exact rfl
  · rintro lb a' w' (⟨rfl, f, i, after, L, lv, _, rfl, hi, hfl, hl16, hch0, hown, hbe, ⟨x, y, z, hWg⟩, u, rfl⟩ | ⟨rfl, hRn, hbe, u, rfl⟩)
    · refine ⟨_, rfl, ?_⟩
      obtain ⟨f, rfl⟩ : ∃ f', f = f' + 1 := ⟨f - 1, by omega⟩
      have hch := Lib.hid hch0
      have HHw := HH.out.below hbe
      have HMw := Lib.hid (HM.out.belowH hbe)
      have c0 : w'.cell? ⟨D, 0, none⟩ = some (.int .i64 (q : Nat)) := HHw 0 _ rfl
      have c4 : w'.cell? ⟨D, 4, none⟩ = some (.pointer (some ⟨m, 0, none⟩)) := HHw 4 _ rfl
      have HHW := Lib.hid HHw
      obtain ⟨ao, cap, rfl, hcp, hmx⟩ := (Rd.of_own hown).form
      have hmx' : cap ≤ 9223372036854775807 := by unfold maxLen at hmx; omega
      have HO := Lib.hid hown
      have HWG := Lib.hid hWg
      clear hch0 HHw hown hWg hmx
      by_cases hiq : (q : Int) ≤ i
      · have HRN : Hid (R = none) := Lib.hid (hch.out ▸ (chainV_c1 (Or.inl hiq)).symm ▸ rfl)
        clear hch
        go_wp2
        go_step3
        exact ⟨Or.inr ⟨rfl, HRN.out, hbe, frame_any rfl⟩, by simp [lenS]; omega⟩
      · have hiq' : (i : Int) < q := by omega
        by_cases hlq : L.length = q
        · have hne : ((L.length : Int) == (q : Int)) = true := by simp [hlq]
          have HRN : Hid (R = none) := Lib.hid (hch.out ▸ (chainV_c1 (Or.inr (Or.inl hlq))).symm ▸ rfl)
          clear hch
          go_wp2
          go_step3
          exact ⟨Or.inr ⟨rfl, HRN.out, hbe, frame_any rfl⟩, by simp [lenS]; omega⟩
        · have hne : ((L.length : Int) == (q : Int)) = false := beq_eq_false_iff_ne.2 (by omega)
          by_cases hls : L.length = 16
          · have hne2 : ((L.length : Int) == 16) = true := by simp [hls]
            have HRN : Hid (R = none) := Lib.hid (hch.out ▸ (chainV_c1 (Or.inr (Or.inr hls))).symm ▸ rfl)
            clear hch
            go_wp2
            go_step3
            exact ⟨Or.inr ⟨rfl, HRN.out, hbe, frame_any rfl⟩, by simp [lenS]; omega⟩
          · have hne2 : ((L.length : Int) == 16) = false := beq_eq_false_iff_ne.2 (by omega)
            have h0 := Lib.hid (show ¬ ((q : Int) ≤ i ∨ L.length = q ∨ L.length = 16) by omega)
            have hw1 : IntKind.i64.wrap (16 * (i : Int)) = 16 * (i : Int) := IntWalk.i64_in _ ⟨by omega, by omega⟩
            have hw2 : IntKind.i64.wrap (16 * (i : Int) + 12) = 16 * (i : Int) + 12 := IntWalk.i64_in _ ⟨by omega, by omega⟩
            have hw3 : IntKind.i64.wrap (16 * (i : Int) + 8) = 16 * (i : Int) + 8 := IntWalk.i64_in _ ⟨by omega, by omega⟩
            have hw4 : IntKind.i64.wrap (16 * (i : Int) + 14) = 16 * (i : Int) + 14 := IntWalk.i64_in _ ⟨by omega, by omega⟩
            have hl15 : L.length ≤ 15 := by omega
            clear hlq hls hiq
            go_wp2_with fail
            refine (Get_any w' m d B (16 * (i : Int)) 8 HMw.out hB).mono ?_
            rintro e wx ⟨rfl, rfl⟩
            obtain ⟨ad, had⟩ : ∃ ad, getV B (16 * (i : Int)) 8 = ad := ⟨_, rfl⟩
            have hg := getV_lt B (16 * (i : Int)) 8
            rw [had] at hg ⊢
            have ha0 := hg.1
            have HAD := Lib.hid had
            clear had hg hw1
            have hw1 : IntKind.i64.wrap (16 * (i : Int)) = 16 * (i : Int) := IntWalk.i64_in _ ⟨by omega, by omega⟩
            go_wp2_with fail
            refine (hget_small _ D _ m d br wrt rd B (16 * (i : Int) + 12) 2 HHW.out HMw.out hB (by omega)).mono ?_
            rintro e wx ⟨rfl, rfl⟩
            obtain ⟨fl, hfl0⟩ : ∃ fl, getV B (16 * (i : Int) + 12) 2 = fl := ⟨_, rfl⟩
            have hg := getV_lt B (16 * (i : Int) + 12) 2
            rw [hfl0] at hg ⊢
            have hf0 := hg.1
            have HFL := Lib.hid hfl0
            clear hfl0 hg
            by_cases had1 : 4294967296 < ad
            · have HRN : Hid (R = none) := Lib.hid (hch.out ▸ (chainV_c2 h0.out (Or.inl (by show 4294967296 < getV B (16 * (i : Int)) 8; rw [HAD.out]; exact had1))).symm ▸ rfl)
              clear hch
              go_wp2
              go_step3
              exact ⟨Or.inr ⟨rfl, HRN.out, hbe, frame_any rfl⟩, by simp [lenS]; omega⟩
            · have had2 : ad ≤ 4294967296 := by omega
              by_cases hfl1 : 3 < fl
              · have HRN : Hid (R = none) := Lib.hid (hch.out ▸ (chainV_c2 h0.out (Or.inr (by show 3 < getV B (16 * (i : Int) + 12) 2; rw [HFL.out]; exact hfl1))).symm ▸ rfl)
                clear hch
                go_wp2
                go_step3
                exact ⟨Or.inr ⟨rfl, HRN.out, hbe, frame_any rfl⟩, by simp [lenS]; omega⟩
              · have hfl2 : fl ≤ 3 := by omega
                have h1 := Lib.hid (show ¬ (4294967296 < (descAt B i).addr ∨ 3 < flagsAt B i) by
                  show ¬ (4294967296 < getV B (16 * (i : Int)) 8 ∨ 3 < getV B (16 * (i : Int) + 12) 2)
                  rw [HAD.out, HFL.out]
                  omega)
                have hwa : IntKind.i64.wrap ad = ad := IntWalk.i64_in _ ⟨by omega, by omega⟩
                have hflc : fl = 0 ∨ fl = 1 ∨ fl = 2 ∨ fl = 3 := by omega
                clear hfl1 had1 hf0 hfl2
                rcases hflc with rfl | rfl | rfl | rfl
                · have hbw : (bits BinOp.and IntKind.i64 0 2 != 0) = false := by decide
                  have hbm : (bits BinOp.and IntKind.i64 0 1 != 0) = false := by decide
                  go_wp2_with fail
                  refine (hget_small _ D _ m d br wrt rd B (16 * (i : Int) + 8) 4 HHW.out HMw.out hB (by omega)).mono ?_
                  rintro e wx ⟨rfl, rfl⟩
                  obtain ⟨ln, hln0⟩ : ∃ ln, getV B (16 * (i : Int) + 8) 4 = ln := ⟨_, rfl⟩
                  have hg := getV_lt B (16 * (i : Int) + 8) 4
                  rw [hln0] at hg ⊢
                  have hf0 := hg.1
                  have hf1 := hg.2.1 (by omega)
                  have HLN := Lib.hid hln0
                  have HDE := Lib.hid (show descAt B i = ⟨ad, ln, false⟩ by
                    show (⟨getV B (16 * (i : Int)) 8, getV B (16 * (i : Int) + 8) 4, getV B (16 * (i : Int) + 12) 2 == 2 || getV B (16 * (i : Int) + 12) 2 == 3⟩ : Buf) = _
                    rw [HAD.out, HLN.out, HFL.out]
                    rfl)
                  clear hln0 hg
                  have q0 := HWG.out.cell 0
                  have q1 := HWG.out.cell 1
                  have q2 := HWG.out.cell 2
                  simp only [List.getElem?_cons_zero, List.getElem?_cons_succ] at q0 q1 q2
                  have z0 := HWG.out.free 0
                  have z1 := HWG.out.free 1
                  have z2 := HWG.out.free 2
                  go_wp2_with fail
                  obtain ⟨wS, hwS⟩ : ∃ wS, wS = (((w'.setCell ⟨w.heap.size, 0, none⟩ (.int .i64 ad)).setCell ⟨w.heap.size, 1, none⟩ (.int .i64 ln)).setCell ⟨w.heap.size, 2, none⟩ (.bool false)) := ⟨_, rfl⟩
                  rw [← hwS]
                  have hlS : Left [w.heap.size] w' wS := hwS ▸ ((((Left.refl _ _).setCell (Or.inl (by simp)) _).setCell (Or.inl (by simp)) _).setCell (Or.inl (by simp)) _)
                  have HWS : Hid (Whole wS w.heap.size 89 [.int .i64 ad, .int .i64 ln, .bool false]) := Lib.hid (hwS ▸ ((HWG.out.put 0 (.int .i64 ad)).put 1 (.int .i64 ln)).put 2 (.bool false))
                  have hbS : Below w.heap.size w wS := hbe.trans (hlS.belowB hbe.size (by simp))
                  have HOS := Lib.hid (own_left HO.out hlS (by simp))
                  clear hwS q0 q1 q2 z0 z1 z2 hbe
                  refine (piece_any wS ⟨ad, ln, false⟩ after).mono ?_
                  rintro e w5 ⟨rfl, hb5⟩
                  have hbe := hbS.trans (hb5.mono hbS.size)
                  have HO5 := Lib.hid (own_below HOS.out hb5)
                  have HW5 := Lib.hid (HWS.out.belowH hb5)
                  have hz5 := (HW5.out).lt
                  clear hlS hbS hb5
                  cases hp : pieceB ⟨ad, ln, false⟩ after
                  · have HP := Lib.hid hp
                    clear hp
                    have HRN : Hid (R = none) := Lib.hid (hch.out ▸ (chainV_c3 h0.out h1.out (by rw [HDE.out]; exact HP.out)).symm ▸ rfl)
                    clear hch
                    go_wp2
                    go_step3
                    exact ⟨Or.inr ⟨rfl, HRN.out, hbe, frame_any rfl⟩, by simp [lenS]; omega⟩
                  · have HP := Lib.hid hp
                    have q0 := HW5.out.cell 0
                    have q1 := HW5.out.cell 1
                    have q2 := HW5.out.cell 2
                    simp only [List.getElem?_cons_zero, List.getElem?_cons_succ] at q0 q1 q2
                    clear hp
                    go_wp2_with (at_builtin; with_reducible refine wpList_app _ rfl (.tmp 77) (.tmp 79) _ rfl (w.heap.size + 1) 89 bufZ 3 24 Try.underlying75 inf_buf rfl (by omega) _ L.length (bufCells L) rfl (HO5.out.alloc _) _ _ 1 (Buf.cells ⟨ad, ln, false⟩) rfl (one_newB _ ⟨ad, ln, false⟩) (buf_one _) ?_ ?_ ?_ ?_)
                    · unfold maxLen; omega
                    · omega
                    · simp; omega
                    intro v1 w6 hown1 hg1 _
                    have hb6 := (hbe.alloc (by omega) _).grown hg1 (by simp; omega) (fun g hg => by have := (HO5.out.lt g hg).1; omega)
                    have hs : bufCells L ++ Buf.cells ⟨ad, ln, false⟩ = bufCells (L ++ [descAt B i]) := by rw [HDE.out]; exact bufCells_snoc L _
                    have hn : L.length + 1 = (L ++ [descAt B i]).length := by simp
                    rw [hs] at hown1
                    have HO6 := Lib.hid hown1
                    have HW6 : Hid (Whole w6 w.heap.size 89 [.int .i64 ad, .int .i64 ln, .bool false]) := Lib.hid ((hg1.block w.heap.size (by simp; omega) (fun e => by have := (HO5.out.lt _ e.symm).1; omega)).trans (HW5.out.alloc _))
                    have r0 := HW6.out.cell 0
                    have r1 := HW6.out.cell 1
                    have r2 := HW6.out.cell 2
                    simp only [List.getElem?_cons_zero, List.getElem?_cons_succ] at r0 r1 r2
                    obtain ⟨ao6, cap6, rfl, _, _⟩ := (Rd.of_own hown1).form
                    clear hown1 hs hg1 q0 q1 q2 hbe
                    have HN := Lib.hid hn
                    clear hn
                    have h2 := chainV_c5 (f := f) h0.out h1.out (by rw [HDE.out]; exact HP.out) (fun h => by
                      have hf : flagsAt B i = 0 := HFL.out
                      omega)
                    have HRE : Hid (R = some (L ++ [descAt B i])) := Lib.hid (by rw [← hch.out]; exact h2)
                    clear h2
                    go_wp2
                    simp only [exitJumps]
                    go_ret2
                    exact ⟨_, by rw [HRE.out]; rfl, by rw [HRE.out]; show w6.ownsRow _ _ _ _ (L ++ [descAt B i]).length _; rw [← HN.out]; exact own_base HO6.out (by omega), hb6⟩
                · have hbw : (bits BinOp.and IntKind.i64 1 2 != 0) = false := by decide
                  have hbm : (bits BinOp.and IntKind.i64 1 1 != 0) = true := by decide
                  go_wp2_with fail
                  refine (hget_small _ D _ m d br wrt rd B (16 * (i : Int) + 8) 4 HHW.out HMw.out hB (by omega)).mono ?_
                  rintro e wx ⟨rfl, rfl⟩
                  obtain ⟨ln, hln0⟩ : ∃ ln, getV B (16 * (i : Int) + 8) 4 = ln := ⟨_, rfl⟩
                  have hg := getV_lt B (16 * (i : Int) + 8) 4
                  rw [hln0] at hg ⊢
                  have hf0 := hg.1
                  have hf1 := hg.2.1 (by omega)
                  have HLN := Lib.hid hln0
                  have HDE := Lib.hid (show descAt B i = ⟨ad, ln, false⟩ by
                    show (⟨getV B (16 * (i : Int)) 8, getV B (16 * (i : Int) + 8) 4, getV B (16 * (i : Int) + 12) 2 == 2 || getV B (16 * (i : Int) + 12) 2 == 3⟩ : Buf) = _
                    rw [HAD.out, HLN.out, HFL.out]
                    rfl)
                  clear hln0 hg
                  have q0 := HWG.out.cell 0
                  have q1 := HWG.out.cell 1
                  have q2 := HWG.out.cell 2
                  simp only [List.getElem?_cons_zero, List.getElem?_cons_succ] at q0 q1 q2
                  have z0 := HWG.out.free 0
                  have z1 := HWG.out.free 1
                  have z2 := HWG.out.free 2
                  go_wp2_with fail
                  obtain ⟨wS, hwS⟩ : ∃ wS, wS = (((w'.setCell ⟨w.heap.size, 0, none⟩ (.int .i64 ad)).setCell ⟨w.heap.size, 1, none⟩ (.int .i64 ln)).setCell ⟨w.heap.size, 2, none⟩ (.bool false)) := ⟨_, rfl⟩
                  rw [← hwS]
                  have hlS : Left [w.heap.size] w' wS := hwS ▸ ((((Left.refl _ _).setCell (Or.inl (by simp)) _).setCell (Or.inl (by simp)) _).setCell (Or.inl (by simp)) _)
                  have HWS : Hid (Whole wS w.heap.size 89 [.int .i64 ad, .int .i64 ln, .bool false]) := Lib.hid (hwS ▸ ((HWG.out.put 0 (.int .i64 ad)).put 1 (.int .i64 ln)).put 2 (.bool false))
                  have hbS : Below w.heap.size w wS := hbe.trans (hlS.belowB hbe.size (by simp))
                  have HOS := Lib.hid (own_left HO.out hlS (by simp))
                  clear hwS q0 q1 q2 z0 z1 z2 hbe
                  refine (piece_any wS ⟨ad, ln, false⟩ after).mono ?_
                  rintro e w5 ⟨rfl, hb5⟩
                  have hbe := hbS.trans (hb5.mono hbS.size)
                  have HO5 := Lib.hid (own_below HOS.out hb5)
                  have HW5 := Lib.hid (HWS.out.belowH hb5)
                  have hz5 := (HW5.out).lt
                  clear hlS hbS hb5
                  cases hp : pieceB ⟨ad, ln, false⟩ after
                  · have HP := Lib.hid hp
                    clear hp
                    have HRN : Hid (R = none) := Lib.hid (hch.out ▸ (chainV_c3 h0.out h1.out (by rw [HDE.out]; exact HP.out)).symm ▸ rfl)
                    clear hch
                    go_wp2
                    go_step3
                    exact ⟨Or.inr ⟨rfl, HRN.out, hbe, frame_any rfl⟩, by simp [lenS]; omega⟩
                  · have HP := Lib.hid hp
                    have q0 := HW5.out.cell 0
                    have q1 := HW5.out.cell 1
                    have q2 := HW5.out.cell 2
                    simp only [List.getElem?_cons_zero, List.getElem?_cons_succ] at q0 q1 q2
                    clear hp
                    go_wp2_with (at_builtin; with_reducible refine wpList_app _ rfl (.tmp 77) (.tmp 79) _ rfl (w.heap.size + 1) 89 bufZ 3 24 Try.underlying75 inf_buf rfl (by omega) _ L.length (bufCells L) rfl (HO5.out.alloc _) _ _ 1 (Buf.cells ⟨ad, ln, false⟩) rfl (one_newB _ ⟨ad, ln, false⟩) (buf_one _) ?_ ?_ ?_ ?_)
                    · unfold maxLen; omega
                    · omega
                    · simp; omega
                    intro v1 w6 hown1 hg1 _
                    have hb6 := (hbe.alloc (by omega) _).grown hg1 (by simp; omega) (fun g hg => by have := (HO5.out.lt g hg).1; omega)
                    have hs : bufCells L ++ Buf.cells ⟨ad, ln, false⟩ = bufCells (L ++ [descAt B i]) := by rw [HDE.out]; exact bufCells_snoc L _
                    have hn : L.length + 1 = (L ++ [descAt B i]).length := by simp
                    rw [hs] at hown1
                    have HO6 := Lib.hid hown1
                    have HW6 : Hid (Whole w6 w.heap.size 89 [.int .i64 ad, .int .i64 ln, .bool false]) := Lib.hid ((hg1.block w.heap.size (by simp; omega) (fun e => by have := (HO5.out.lt _ e.symm).1; omega)).trans (HW5.out.alloc _))
                    have r0 := HW6.out.cell 0
                    have r1 := HW6.out.cell 1
                    have r2 := HW6.out.cell 2
                    simp only [List.getElem?_cons_zero, List.getElem?_cons_succ] at r0 r1 r2
                    obtain ⟨ao6, cap6, rfl, _, _⟩ := (Rd.of_own hown1).form
                    clear hown1 hs hg1 q0 q1 q2 hbe
                    have HN := Lib.hid hn
                    clear hn
                    have HM6 := Lib.hid (HM.out.belowH hb6)
                    have HH6 := Lib.hid (HH.out.below hb6)
                    go_wp2_with fail
                    refine (hget_small _ D _ m d br wrt rd B (16 * (i : Int) + 14) 2 HH6.out HM6.out hB (by omega)).mono ?_
                    rintro e wx ⟨rfl, rfl⟩
                    have hg := getV_lt B (16 * (i : Int) + 14) 2
                    obtain ⟨nx, hnx⟩ : ∃ nx : Nat, getV B (16 * (i : Int) + 14) 2 = nx := ⟨(getV B (16 * (i : Int) + 14) 2).toNat, by omega⟩
                    rw [hnx] at hg ⊢
                    have hnx2 : nx ≤ 65535 := by have := hg.2.2 (by omega); omega
                    have HNX := Lib.hid hnx
                    clear hnx hg
                    go_wp2
                    go_step3
                    refine ⟨Or.inl ⟨rfl, f, nx, false, L ++ [descAt B i], _, L.length + 1, HN.out, hnx2, by omega, by omega, ?_, HO6.out, hb6, ⟨_, _, _, HW6.out⟩, frame_any rfl⟩, by simp [lenS]; omega⟩
                    have h2 := chainV_c4 (f := f) h0.out h1.out (by rw [HDE.out]; exact HP.out) (Or.inl (show getV B (16 * (i : Int) + 12) 2 = _ from HFL.out))
                    have hwd : (descAt B i).wr = false := by rw [HDE.out]
                    have hnd : nextAt B i = (nx : Int) := HNX.out
                    rw [hwd, hnd] at h2
                    rw [← h2]
                    exact hch.out
                · have hbw : (bits BinOp.and IntKind.i64 2 2 != 0) = true := by decide
                  have hbm : (bits BinOp.and IntKind.i64 2 1 != 0) = false := by decide
                  go_wp2_with fail
                  refine (hget_small _ D _ m d br wrt rd B (16 * (i : Int) + 8) 4 HHW.out HMw.out hB (by omega)).mono ?_
                  rintro e wx ⟨rfl, rfl⟩
                  obtain ⟨ln, hln0⟩ : ∃ ln, getV B (16 * (i : Int) + 8) 4 = ln := ⟨_, rfl⟩
                  have hg := getV_lt B (16 * (i : Int) + 8) 4
                  rw [hln0] at hg ⊢
                  have hf0 := hg.1
                  have hf1 := hg.2.1 (by omega)
                  have HLN := Lib.hid hln0
                  have HDE := Lib.hid (show descAt B i = ⟨ad, ln, true⟩ by
                    show (⟨getV B (16 * (i : Int)) 8, getV B (16 * (i : Int) + 8) 4, getV B (16 * (i : Int) + 12) 2 == 2 || getV B (16 * (i : Int) + 12) 2 == 3⟩ : Buf) = _
                    rw [HAD.out, HLN.out, HFL.out]
                    rfl)
                  clear hln0 hg
                  have q0 := HWG.out.cell 0
                  have q1 := HWG.out.cell 1
                  have q2 := HWG.out.cell 2
                  simp only [List.getElem?_cons_zero, List.getElem?_cons_succ] at q0 q1 q2
                  have z0 := HWG.out.free 0
                  have z1 := HWG.out.free 1
                  have z2 := HWG.out.free 2
                  go_wp2_with fail
                  obtain ⟨wS, hwS⟩ : ∃ wS, wS = (((w'.setCell ⟨w.heap.size, 0, none⟩ (.int .i64 ad)).setCell ⟨w.heap.size, 1, none⟩ (.int .i64 ln)).setCell ⟨w.heap.size, 2, none⟩ (.bool true)) := ⟨_, rfl⟩
                  rw [← hwS]
                  have hlS : Left [w.heap.size] w' wS := hwS ▸ ((((Left.refl _ _).setCell (Or.inl (by simp)) _).setCell (Or.inl (by simp)) _).setCell (Or.inl (by simp)) _)
                  have HWS : Hid (Whole wS w.heap.size 89 [.int .i64 ad, .int .i64 ln, .bool true]) := Lib.hid (hwS ▸ ((HWG.out.put 0 (.int .i64 ad)).put 1 (.int .i64 ln)).put 2 (.bool true))
                  have hbS : Below w.heap.size w wS := hbe.trans (hlS.belowB hbe.size (by simp))
                  have HOS := Lib.hid (own_left HO.out hlS (by simp))
                  clear hwS q0 q1 q2 z0 z1 z2 hbe
                  refine (piece_any wS ⟨ad, ln, true⟩ after).mono ?_
                  rintro e w5 ⟨rfl, hb5⟩
                  have hbe := hbS.trans (hb5.mono hbS.size)
                  have HO5 := Lib.hid (own_below HOS.out hb5)
                  have HW5 := Lib.hid (HWS.out.belowH hb5)
                  have hz5 := (HW5.out).lt
                  clear hlS hbS hb5
                  cases hp : pieceB ⟨ad, ln, true⟩ after
                  · have HP := Lib.hid hp
                    clear hp
                    have HRN : Hid (R = none) := Lib.hid (hch.out ▸ (chainV_c3 h0.out h1.out (by rw [HDE.out]; exact HP.out)).symm ▸ rfl)
                    clear hch
                    go_wp2
                    go_step3
                    exact ⟨Or.inr ⟨rfl, HRN.out, hbe, frame_any rfl⟩, by simp [lenS]; omega⟩
                  · have HP := Lib.hid hp
                    have q0 := HW5.out.cell 0
                    have q1 := HW5.out.cell 1
                    have q2 := HW5.out.cell 2
                    simp only [List.getElem?_cons_zero, List.getElem?_cons_succ] at q0 q1 q2
                    clear hp
                    go_wp2_with (at_builtin; with_reducible refine wpList_app _ rfl (.tmp 77) (.tmp 79) _ rfl (w.heap.size + 1) 89 bufZ 3 24 Try.underlying75 inf_buf rfl (by omega) _ L.length (bufCells L) rfl (HO5.out.alloc _) _ _ 1 (Buf.cells ⟨ad, ln, true⟩) rfl (one_newB _ ⟨ad, ln, true⟩) (buf_one _) ?_ ?_ ?_ ?_)
                    · unfold maxLen; omega
                    · omega
                    · simp; omega
                    intro v1 w6 hown1 hg1 _
                    have hb6 := (hbe.alloc (by omega) _).grown hg1 (by simp; omega) (fun g hg => by have := (HO5.out.lt g hg).1; omega)
                    have hs : bufCells L ++ Buf.cells ⟨ad, ln, true⟩ = bufCells (L ++ [descAt B i]) := by rw [HDE.out]; exact bufCells_snoc L _
                    have hn : L.length + 1 = (L ++ [descAt B i]).length := by simp
                    rw [hs] at hown1
                    have HO6 := Lib.hid hown1
                    have HW6 : Hid (Whole w6 w.heap.size 89 [.int .i64 ad, .int .i64 ln, .bool true]) := Lib.hid ((hg1.block w.heap.size (by simp; omega) (fun e => by have := (HO5.out.lt _ e.symm).1; omega)).trans (HW5.out.alloc _))
                    have r0 := HW6.out.cell 0
                    have r1 := HW6.out.cell 1
                    have r2 := HW6.out.cell 2
                    simp only [List.getElem?_cons_zero, List.getElem?_cons_succ] at r0 r1 r2
                    obtain ⟨ao6, cap6, rfl, _, _⟩ := (Rd.of_own hown1).form
                    clear hown1 hs hg1 q0 q1 q2 hbe
                    have HN := Lib.hid hn
                    clear hn
                    have h2 := chainV_c5 (f := f) h0.out h1.out (by rw [HDE.out]; exact HP.out) (fun h => by
                      have hf : flagsAt B i = 2 := HFL.out
                      omega)
                    have HRE : Hid (R = some (L ++ [descAt B i])) := Lib.hid (by rw [← hch.out]; exact h2)
                    clear h2
                    go_wp2
                    simp only [exitJumps]
                    go_ret2
                    exact ⟨_, by rw [HRE.out]; rfl, by rw [HRE.out]; show w6.ownsRow _ _ _ _ (L ++ [descAt B i]).length _; rw [← HN.out]; exact own_base HO6.out (by omega), hb6⟩
                · have hbw : (bits BinOp.and IntKind.i64 3 2 != 0) = true := by decide
                  have hbm : (bits BinOp.and IntKind.i64 3 1 != 0) = true := by decide
                  go_wp2_with fail
                  refine (hget_small _ D _ m d br wrt rd B (16 * (i : Int) + 8) 4 HHW.out HMw.out hB (by omega)).mono ?_
                  rintro e wx ⟨rfl, rfl⟩
                  obtain ⟨ln, hln0⟩ : ∃ ln, getV B (16 * (i : Int) + 8) 4 = ln := ⟨_, rfl⟩
                  have hg := getV_lt B (16 * (i : Int) + 8) 4
                  rw [hln0] at hg ⊢
                  have hf0 := hg.1
                  have hf1 := hg.2.1 (by omega)
                  have HLN := Lib.hid hln0
                  have HDE := Lib.hid (show descAt B i = ⟨ad, ln, true⟩ by
                    show (⟨getV B (16 * (i : Int)) 8, getV B (16 * (i : Int) + 8) 4, getV B (16 * (i : Int) + 12) 2 == 2 || getV B (16 * (i : Int) + 12) 2 == 3⟩ : Buf) = _
                    rw [HAD.out, HLN.out, HFL.out]
                    rfl)
                  clear hln0 hg
                  have q0 := HWG.out.cell 0
                  have q1 := HWG.out.cell 1
                  have q2 := HWG.out.cell 2
                  simp only [List.getElem?_cons_zero, List.getElem?_cons_succ] at q0 q1 q2
                  have z0 := HWG.out.free 0
                  have z1 := HWG.out.free 1
                  have z2 := HWG.out.free 2
                  go_wp2_with fail
                  obtain ⟨wS, hwS⟩ : ∃ wS, wS = (((w'.setCell ⟨w.heap.size, 0, none⟩ (.int .i64 ad)).setCell ⟨w.heap.size, 1, none⟩ (.int .i64 ln)).setCell ⟨w.heap.size, 2, none⟩ (.bool true)) := ⟨_, rfl⟩
                  rw [← hwS]
                  have hlS : Left [w.heap.size] w' wS := hwS ▸ ((((Left.refl _ _).setCell (Or.inl (by simp)) _).setCell (Or.inl (by simp)) _).setCell (Or.inl (by simp)) _)
                  have HWS : Hid (Whole wS w.heap.size 89 [.int .i64 ad, .int .i64 ln, .bool true]) := Lib.hid (hwS ▸ ((HWG.out.put 0 (.int .i64 ad)).put 1 (.int .i64 ln)).put 2 (.bool true))
                  have hbS : Below w.heap.size w wS := hbe.trans (hlS.belowB hbe.size (by simp))
                  have HOS := Lib.hid (own_left HO.out hlS (by simp))
                  clear hwS q0 q1 q2 z0 z1 z2 hbe
                  refine (piece_any wS ⟨ad, ln, true⟩ after).mono ?_
                  rintro e w5 ⟨rfl, hb5⟩
                  have hbe := hbS.trans (hb5.mono hbS.size)
                  have HO5 := Lib.hid (own_below HOS.out hb5)
                  have HW5 := Lib.hid (HWS.out.belowH hb5)
                  have hz5 := (HW5.out).lt
                  clear hlS hbS hb5
                  cases hp : pieceB ⟨ad, ln, true⟩ after
                  · have HP := Lib.hid hp
                    clear hp
                    have HRN : Hid (R = none) := Lib.hid (hch.out ▸ (chainV_c3 h0.out h1.out (by rw [HDE.out]; exact HP.out)).symm ▸ rfl)
                    clear hch
                    go_wp2
                    go_step3
                    exact ⟨Or.inr ⟨rfl, HRN.out, hbe, frame_any rfl⟩, by simp [lenS]; omega⟩
                  · have HP := Lib.hid hp
                    have q0 := HW5.out.cell 0
                    have q1 := HW5.out.cell 1
                    have q2 := HW5.out.cell 2
                    simp only [List.getElem?_cons_zero, List.getElem?_cons_succ] at q0 q1 q2
                    clear hp
                    go_wp2_with (at_builtin; with_reducible refine wpList_app _ rfl (.tmp 77) (.tmp 79) _ rfl (w.heap.size + 1) 89 bufZ 3 24 Try.underlying75 inf_buf rfl (by omega) _ L.length (bufCells L) rfl (HO5.out.alloc _) _ _ 1 (Buf.cells ⟨ad, ln, true⟩) rfl (one_newB _ ⟨ad, ln, true⟩) (buf_one _) ?_ ?_ ?_ ?_)
                    · unfold maxLen; omega
                    · omega
                    · simp; omega
                    intro v1 w6 hown1 hg1 _
                    have hb6 := (hbe.alloc (by omega) _).grown hg1 (by simp; omega) (fun g hg => by have := (HO5.out.lt g hg).1; omega)
                    have hs : bufCells L ++ Buf.cells ⟨ad, ln, true⟩ = bufCells (L ++ [descAt B i]) := by rw [HDE.out]; exact bufCells_snoc L _
                    have hn : L.length + 1 = (L ++ [descAt B i]).length := by simp
                    rw [hs] at hown1
                    have HO6 := Lib.hid hown1
                    have HW6 : Hid (Whole w6 w.heap.size 89 [.int .i64 ad, .int .i64 ln, .bool true]) := Lib.hid ((hg1.block w.heap.size (by simp; omega) (fun e => by have := (HO5.out.lt _ e.symm).1; omega)).trans (HW5.out.alloc _))
                    have r0 := HW6.out.cell 0
                    have r1 := HW6.out.cell 1
                    have r2 := HW6.out.cell 2
                    simp only [List.getElem?_cons_zero, List.getElem?_cons_succ] at r0 r1 r2
                    obtain ⟨ao6, cap6, rfl, _, _⟩ := (Rd.of_own hown1).form
                    clear hown1 hs hg1 q0 q1 q2 hbe
                    have HN := Lib.hid hn
                    clear hn
                    have HM6 := Lib.hid (HM.out.belowH hb6)
                    have HH6 := Lib.hid (HH.out.below hb6)
                    go_wp2_with fail
                    refine (hget_small _ D _ m d br wrt rd B (16 * (i : Int) + 14) 2 HH6.out HM6.out hB (by omega)).mono ?_
                    rintro e wx ⟨rfl, rfl⟩
                    have hg := getV_lt B (16 * (i : Int) + 14) 2
                    obtain ⟨nx, hnx⟩ : ∃ nx : Nat, getV B (16 * (i : Int) + 14) 2 = nx := ⟨(getV B (16 * (i : Int) + 14) 2).toNat, by omega⟩
                    rw [hnx] at hg ⊢
                    have hnx2 : nx ≤ 65535 := by have := hg.2.2 (by omega); omega
                    have HNX := Lib.hid hnx
                    clear hnx hg
                    go_wp2
                    go_step3
                    refine ⟨Or.inl ⟨rfl, f, nx, true, L ++ [descAt B i], _, L.length + 1, HN.out, hnx2, by omega, by omega, ?_, HO6.out, hb6, ⟨_, _, _, HW6.out⟩, frame_any rfl⟩, by simp [lenS]; omega⟩
                    have h2 := chainV_c4 (f := f) h0.out h1.out (by rw [HDE.out]; exact HP.out) (Or.inr (show getV B (16 * (i : Int) + 12) 2 = _ from HFL.out))
                    have hwd : (descAt B i).wr = true := by rw [HDE.out]
                    have hnd : nextAt B i = (nx : Int) := HNX.out
                    rw [hwd, hnd] at h2
                    rw [← h2]
                    exact hch.out
    · refine ⟨_, rfl, ?_⟩
      have HQ := Lib.hid hRn
      clear hRn
      go_wp2
      simp only [exitJumps]
      go_ret2
      exact ⟨_, by rw [HQ.out]; rfl, by rw [HQ.out]; exact World.ownsRow_nil _ _ _ _, hbe⟩
  · intro hgo
    have HGO := Lib.hid hgo
    clear hgo
    go_wp2
    go_step3
    refine (by assumption : ∀ (a : Act) (w : World), Code.wp _ _ _ a w → _) _ _ ?_
    refine HGO.out _ _ (Or.inl ⟨by trivial, 17, hd, false, [], _, 0, rfl, hhd, rfl, by omega, HR.out, World.ownsRow_nil _ _ _ _, (Below.refl _ _).alloc (Nat.le_refl _) _, ⟨_, _, _, Whole.new w 89 [_, _, _]⟩, frame_any rfl⟩)
end Go.Proofs.Ytfffehbipcikoaa
