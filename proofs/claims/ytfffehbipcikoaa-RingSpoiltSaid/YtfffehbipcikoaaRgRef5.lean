/- The page's ring: walk. -/

import Derived.Test.YtfffehbipcikoaaRgRef4
import Derived.Test.YtfffehbipcikoaaRing9
namespace Go.Proofs.Ytfffehbipcikoaa
open Go.RowKit

theorem rgetN {w : World} {R bt bc bw m d q : Nat} {br : Bool} {added last : Nat} {tk : List Bool} {ch : List (List Nat)} {ws : List Int} {F : List Nat} {B : List UInt8} (h : RefAt w R bt bc bw m q br added last tk ch ws F) (hM : MemAt 52 w m d B) (hB : B.length ≤ 65536) (p n v : Int) (hn : n ≤ 4) (hv : getV B p n = v) :
    Calls Try.prog 91 #[.pointer (some ⟨R, 0, none⟩), .int .i64 p, .int .i64 n] w fun e w' => e = .returned (.int .i64 v) ∧ w = w' :=
  (rget_small w R m d B p n (by rw [h.head.cell]; rfl) hM hB hn).mono fun e w' ⟨h1, h2⟩ => ⟨by rw [h1, hv], h2.symm⟩
theorem rgetW {w : World} {R bt bc bw m d q : Nat} {br : Bool} {added last : Nat} {tk : List Bool} {ch : List (List Nat)} {ws : List Int} {F : List Nat} {B : List UInt8} (h : RefAt w R bt bc bw m q br added last tk ch ws F) (hM : MemAt 52 w m d B) (hB : B.length ≤ 65536) (p n v : Int) (hv : wrap64 (getV B p n) = v) :
    Calls Try.prog 91 #[.pointer (some ⟨R, 0, none⟩), .int .i64 p, .int .i64 n] w fun e w' => e = .returned (.int .i64 v) ∧ w = w' :=
  (rget_any w R m d B p n (by rw [h.head.cell]; rfl) hM hB).mono fun e w' ⟨h1, h2⟩ => ⟨by rw [h1, hv], h2.symm⟩
theorem RefAt.below {w w' : World} {R bt bc bw m q : Nat} {br : Bool} {added last : Nat} {tk : List Bool} {ch : List (List Nat)} {ws : List Int} {F : List Nat} (h : RefAt w R bt bc bw m q br added last tk ch ws F) (hb : Below w.heap.size w w') : RefAt w' R bt bc bw m q br added last tk ch ws F := h.left0 (Left.of_below hb [])

def rdescAt (B : List UInt8) (i : Int) : Buf := ⟨wrap64 (getV B (16 * i) 8), getV B (16 * i + 8) 4, flagsAt B i == 2 || flagsAt B i == 3⟩
/-- The pieces of a chain as the page walks it; none: a value may not be. -/
def walkV (B : List UInt8) (q : Nat) : Nat → Int → List Buf → Option (List Buf)
  | 0, _, _ => none
  | f + 1, i, l =>
    if (q : Int) ≤ i ∨ 16 ≤ l.length ∨ q ≤ l.length then none
    else if 3 < flagsAt B i then none
    else if flagsAt B i = 1 ∨ flagsAt B i = 3 then walkV B q f (nextAt B i) (l ++ [rdescAt B i])
    else some (l ++ [rdescAt B i])
theorem walkV_c1 {B : List UInt8} {q f : Nat} {i : Int} {L : List Buf} (h : (q : Int) ≤ i ∨ 16 ≤ L.length ∨ q ≤ L.length) : walkV B q (f + 1) i L = none := by rw [walkV, if_pos h]
theorem walkV_c2 {B : List UInt8} {q f : Nat} {i : Int} {L : List Buf} (h0 : ¬ ((q : Int) ≤ i ∨ 16 ≤ L.length ∨ q ≤ L.length)) (h : 3 < flagsAt B i) : walkV B q (f + 1) i L = none := by rw [walkV, if_neg h0, if_pos h]
theorem walkV_c4 {B : List UInt8} {q f : Nat} {i : Int} {L : List Buf} (h0 : ¬ ((q : Int) ≤ i ∨ 16 ≤ L.length ∨ q ≤ L.length)) (h1 : ¬ (3 < flagsAt B i)) (h3 : flagsAt B i = 1 ∨ flagsAt B i = 3) : walkV B q (f + 1) i L = walkV B q f (nextAt B i) (L ++ [rdescAt B i]) := by rw [walkV, if_neg h0, if_neg h1, if_pos h3]
theorem walkV_c5 {B : List UInt8} {q f : Nat} {i : Int} {L : List Buf} (h0 : ¬ ((q : Int) ≤ i ∨ 16 ≤ L.length ∨ q ≤ L.length)) (h1 : ¬ (3 < flagsAt B i)) (h3 : ¬ (flagsAt B i = 1 ∨ flagsAt B i = 3)) : walkV B q (f + 1) i L = some (L ++ [rdescAt B i]) := by rw [walkV, if_neg h0, if_neg h1, if_neg h3]

def WalkP (w : World) (R : Option (List Buf)) (e : Ending) (w' : World) : Prop :=
  ∃ lv, e = .returned (.tuple #[lv, .bool R.isSome]) ∧ w'.ownsRow w.heap.size 89 3 lv (R.getD []).length (bufCells (R.getD [])) ∧ Below w.heap.size w w'

set_option maxRecDepth 20000 in
set_option maxHeartbeats 4000000 in
theorem rwalk_any (w : World) (R bt bc bw m d q : Nat) (br : Bool) (added last : Nat) (tk : List Bool) (ch : List (List Nat)) (ws : List Int) (F : List Nat) (B : List UInt8) (hd : Nat) (h : RefAt w R bt bc bw m q br added last tk ch ws F) (hM : MemAt 52 w m d B) (hB : B.length ≤ 65536) (hq : 1 ≤ q ∧ q ≤ 64) (hhd : hd ≤ 65535) :
    Calls Try.prog 93 #[.pointer (some ⟨R, 0, none⟩), .int .i64 hd] w (WalkP w (walkV B q 17 hd [])) := by
  obtain ⟨Rr, hR⟩ : ∃ Rr, walkV B q 17 hd [] = Rr := ⟨_, rfl⟩
  rw [hR]
  have HRr := Lib.hid hR
  have HR := Lib.hid h
  have HM := Lib.hid hM
  clear hR h hM
  go_enter Try.func93, Try.ntmps93
  go_wp2
  go_loopw [1, 6] (fun dv lv wx => ∃ (f i : Nat) (L : List Buf), i ≤ 65535 ∧ f + L.length = 17 ∧ L.length ≤ 16 ∧ walkV B q f i L = Rr ∧ dv = .int .i64 i ∧ wx.ownsRow w.heap.size 89 3 lv L.length (bufCells L) ∧ Below w.heap.size w wx) (fun _ lv _ => 20 - lenS lv)
  case atStart => exact ⟨17, hd, [], hhd, rfl, by simp, HRr.out, rfl, World.ownsRow_nil _ _ _ _, Below.refl _ _⟩
  case round =>
    obtain ⟨f, i, L, hi, hfl, hl16, hch0, rfl, hown, hbe⟩ := hrel
    obtain ⟨f, rfl⟩ : ∃ f', f = f' + 1 := ⟨f - 1, by omega⟩
    have hch := Lib.hid hch0
    have HRw := Lib.hid (HR.out.below hbe)
    have HMw := Lib.hid (HM.out.belowH hbe)
    have c1 : wr.cell? ⟨R, 1, none⟩ = some (.int .i64 q) := by rw [HRw.out.head.cell]; rfl
    obtain ⟨ao, cap, rfl, hcp, hmx⟩ := (Rd.of_own hown).form
    have hmx' : cap ≤ 9223372036854775807 := by unfold maxLen at hmx; omega
    have HO := Lib.hid hown
    have hsz := hbe.size
    clear hch0 hown hmx
    by_cases hiq : q ≤ i
    · have HRN : Hid (Rr = none) := Lib.hid (hch.out ▸ (walkV_c1 (Or.inl (Int.ofNat_le.2 hiq))).symm ▸ rfl)
      clear hch
      go_wp2
      go_ret2
      exact ⟨_, by rw [HRN.out]; rfl, by rw [HRN.out]; exact World.ownsRow_nil _ _ _ _, hbe⟩
    · by_cases hls : 16 ≤ L.length
      · have HRN : Hid (Rr = none) := Lib.hid (hch.out ▸ (walkV_c1 (Or.inr (Or.inl hls))).symm ▸ rfl)
        clear hch
        go_wp2
        go_ret2
        exact ⟨_, by rw [HRN.out]; rfl, by rw [HRN.out]; exact World.ownsRow_nil _ _ _ _, hbe⟩
      · by_cases hlq : q ≤ L.length
        · have HRN : Hid (Rr = none) := Lib.hid (hch.out ▸ (walkV_c1 (Or.inr (Or.inr hlq))).symm ▸ rfl)
          clear hch
          go_wp2
          go_ret2
          exact ⟨_, by rw [HRN.out]; rfl, by rw [HRN.out]; exact World.ownsRow_nil _ _ _ _, hbe⟩
        · have h0 := Lib.hid (show ¬ ((q : Int) ≤ i ∨ 16 ≤ L.length ∨ q ≤ L.length) by omega)
          have hw1 : IntKind.i64.wrap (16 * (i : Int)) = 16 * (i : Int) := IntWalk.i64_in _ ⟨by omega, by omega⟩
          have hw2 : IntKind.i64.wrap (16 * (i : Int) + 12) = 16 * (i : Int) + 12 := IntWalk.i64_in _ ⟨by omega, by omega⟩
          have hw3 : IntKind.i64.wrap (16 * (i : Int) + 8) = 16 * (i : Int) + 8 := IntWalk.i64_in _ ⟨by omega, by omega⟩
          have hw4 : IntKind.i64.wrap (16 * (i : Int) + 14) = 16 * (i : Int) + 14 := IntWalk.i64_in _ ⟨by omega, by omega⟩
          obtain ⟨fl, hfl0⟩ : ∃ fl, getV B (16 * (i : Int) + 12) 2 = fl := ⟨_, rfl⟩
          obtain ⟨ad, had0⟩ : ∃ ad, wrap64 (getV B (16 * (i : Int)) 8) = ad := ⟨_, rfl⟩
          obtain ⟨ln, hln0⟩ : ∃ ln, getV B (16 * (i : Int) + 8) 4 = ln := ⟨_, rfl⟩
          have hg := getV_lt B (16 * (i : Int) + 12) 2
          rw [hfl0] at hg
          have hf0 := hg.1
          have hg2 := getV_lt B (16 * (i : Int) + 14) 2
          obtain ⟨nx, hnx0⟩ : ∃ nx : Nat, getV B (16 * (i : Int) + 14) 2 = nx := ⟨(getV B (16 * (i : Int) + 14) 2).toNat, by omega⟩
          rw [hnx0] at hg2
          have hnx2 : nx ≤ 65535 := by have := hg2.2.2 (by omega); omega
          have HFL := Lib.hid hfl0
          have HAD := Lib.hid had0
          have HLN := Lib.hid hln0
          have HNX := Lib.hid hnx0
          have G1 := Lib.hid (rgetN HRw.out HMw.out hB (16 * (i : Int) + 12) 2 fl (by omega) hfl0)
          have G2 := Lib.hid (rgetW HRw.out HMw.out hB (16 * (i : Int)) 8 ad had0)
          have G3 := Lib.hid (rgetN HRw.out HMw.out hB (16 * (i : Int) + 8) 4 ln (by omega) hln0)
          clear hfl0 had0 hln0 hnx0 hg hg2
          go_wp2_with fail
          refine G1.out.mono ?_
          rintro e wx ⟨rfl, rfl⟩
          by_cases hfl1 : 3 < fl
          · have HRN : Hid (Rr = none) := Lib.hid (hch.out ▸ (walkV_c2 h0.out (by show 3 < getV B (16 * (i : Int) + 12) 2; rw [HFL.out]; exact hfl1)).symm ▸ rfl)
            clear hch
            go_wp2
            go_ret2
            exact ⟨_, by rw [HRN.out]; rfl, by rw [HRN.out]; exact World.ownsRow_nil _ _ _ _, hbe⟩
          · have h1 := Lib.hid (show flagsAt B i ≤ 3 by
              show getV B (16 * (i : Int) + 12) 2 ≤ 3
              rw [HFL.out]
              omega)
            have hflc : fl = 0 ∨ fl = 1 ∨ fl = 2 ∨ fl = 3 := by omega
            obtain ⟨wb, hwb⟩ : ∃ wb, (bits BinOp.and IntKind.i64 fl 2 != 0) = wb := ⟨_, rfl⟩
            have hwb2 : wb = (fl == 2 || fl == 3) := by rw [← hwb]; rcases hflc with rfl | rfl | rfl | rfl <;> decide
            have HDE := Lib.hid (show rdescAt B i = ⟨ad, ln, wb⟩ by
              show (⟨wrap64 (getV B (16 * (i : Int)) 8), getV B (16 * (i : Int) + 8) 4, getV B (16 * (i : Int) + 12) 2 == 2 || getV B (16 * (i : Int) + 12) 2 == 3⟩ : Buf) = _
              rw [HAD.out, HLN.out, HFL.out, hwb2])
            have HMO : Hid ((bits BinOp.and IntKind.i64 fl 1 == 0) = !(fl == 1 || fl == 3)) := Lib.hid (by rcases hflc with rfl | rfl | rfl | rfl <;> decide)
            have HFC := Lib.hid hflc
            clear hflc hwb2
            go_wp2_with fail
            refine G2.out.mono ?_
            rintro e wx ⟨rfl, rfl⟩
            go_wp2_with fail
            refine G3.out.mono ?_
            rintro e wx ⟨rfl, rfl⟩
            go_wp2_with (at_builtin; with_reducible refine wpList_app _ rfl (.tmp 35) (.tmp 49) _ rfl w.heap.size 89 bufZ 3 24 Try.underlying75 inf_buf rfl (by omega) _ L.length (bufCells L) rfl (HO.out.alloc _) _ _ 1 (Buf.cells ⟨ad, ln, wb⟩) rfl (one_newB _ ⟨ad, ln, wb⟩) (buf_one _) ?_ ?_ ?_ ?_)
            · unfold maxLen; omega
            · omega
            · simp; omega
            intro v1 w6 hown1 hg1 _
            have hb6 := (hbe.alloc (by omega) _).grown hg1 (by simp; omega) (fun g hg => (HO.out.lt g hg).1)
            have hs : bufCells L ++ Buf.cells ⟨ad, ln, wb⟩ = bufCells (L ++ [rdescAt B i]) := by rw [HDE.out]; exact bufCells_snoc L _
            have hn : L.length + 1 = (L ++ [rdescAt B i]).length := by simp
            rw [hs] at hown1
            have HO6 := Lib.hid hown1
            obtain ⟨ao6, cap6, rfl, _, _⟩ := (Rd.of_own hown1).form
            clear hown1 hs hg1 hwb
            have HN := Lib.hid hn
            have HM6 := Lib.hid (HM.out.belowH hb6)
            have HR6 := Lib.hid (HR.out.below hb6)
            have G4 := Lib.hid (rgetN HR6.out HM6.out hB (16 * (i : Int) + 14) 2 nx (by omega) HNX.out)
            clear hn hbe
            cases hmo : (fl == 1 || fl == 3)
            · have hm1 : (bits BinOp.and IntKind.i64 fl 1 == 0) = true := by rw [HMO.out, hmo]; rfl
              have hx := walkV_c5 (f := f) h0.out (Int.not_lt.2 h1.out) (by
                show ¬ (getV B (16 * (i : Int) + 12) 2 = 1 ∨ getV B (16 * (i : Int) + 12) 2 = 3)
                rw [HFL.out]
                intro hc
                rcases hc with rfl | rfl <;> simp at hmo)
              have HX := Lib.hid (hch.out.symm.trans hx)
              clear hx hmo hch
              go_wp2
              go_ret2
              refine ⟨_, by rw [HX.out]; rfl, ?_, hb6⟩
              rw [HX.out]
              simp only [Option.getD_some]
              rw [← HN.out]
              exact HO6.out
            · have hm1 : (bits BinOp.and IntKind.i64 fl 1 == 0) = false := by rw [HMO.out, hmo]; rfl
              have hx := walkV_c4 (f := f) h0.out (Int.not_lt.2 h1.out) (by
                show (getV B (16 * (i : Int) + 12) 2 = 1 ∨ getV B (16 * (i : Int) + 12) 2 = 3)
                rw [HFL.out]
                simpa using hmo)
              have hnd : nextAt B i = (nx : Int) := HNX.out
              rw [hnd] at hx
              have HX := Lib.hid (hx.symm.trans hch.out)
              clear hx hmo hch hnd
              go_wp2_with fail
              refine G4.out.mono ?_
              rintro e wx ⟨rfl, rfl⟩
              go_wp2
              go_roundw
              case rel => exact ⟨f, nx, L ++ [rdescAt B i], hnx2, by have := HN.out; omega, by have := HN.out; omega, HX.out, rfl, by rw [← HN.out]; exact HO6.out, hb6⟩
              case measure => simp [lenS]; omega
end Go.Proofs.Ytfffehbipcikoaa
