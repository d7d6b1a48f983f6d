/- RingRound: indexes go round. -/

import Derived.Test.YtfffehbipcikoaaRgArg
namespace Go.Proofs.Ytfffehbipcikoaa
open Go.RowKit

theorem rig_start {w0 w1 w2 w3 : World} {n q D bs bw bl V m d : Nat} (hq : isQ (q : Nat) = true) (hn : sizeAt q ≤ (n : Int)) (hn2 : n ≤ 65536) (hM : MemAt 114 w1 m d (List.replicate n 0)) (hb2 : Below w1.heap.size w1 w2)
    (hD : w1.heap.size ≤ D) (hbs : w1.heap.size ≤ bs) (hbw : w1.heap.size ≤ bw) (hbl : w1.heap.size ≤ bl) (hDr : DrvAt w2 D bs bw bl m q false 0 0 (List.replicate ((q : Nat) : Int).toNat false) [] [])
    (hb3 : Below w2.heap.size w2 w3) (hV : w2.heap.size ≤ V) (hDev : DevAt w3 V m q false 0 0) : RigG w3 ⟨D, bs, bw, bl, V, m, d⟩ q [] [] q := by
  have h1 := hM.head.lt
  have h2 := hM.bytes.lt
  have h3 := hDr.head.lt
  have h4 := hDr.busy.lt
  obtain ⟨W, hW, _⟩ := hDr.way
  have h5 := hW.lt
  have h6 := hDr.least.lt
  have hz2 := hb2.size
  rw [show (((q : Nat) : Int)).toNat = q by simp] at hDr
  refine ⟨_, _, _, _, _, _, _, _, ⟨hDr.left (Left.of_below hb3 []) (by simp) (by simp) (by simp) (by simp) (by simp), hDev, (hM.belowH hb2).belowH hb3, by simpa using hn2, ?_, ?_, ?_⟩, Goes.start hq hn, ?_⟩
  · simp only; omega
  · simp only; refine ⟨by omega, by omega, by omega, by omega, ?_⟩
    exact hM.ne (by decide)
  · simp only; omega
  · have := freeN_all (bz := List.replicate q false) (fun x hx => by simp [List.getElem?_replicate] at hx)
    simpa using this

theorem bufsB_one (i : Nat) (hi : i ≤ 70000) : bufsB [⟨(i : Int), 1, true⟩] = true := by simp [bufsB, chainOk, pieceB, bufB]; omega
theorem rd_one (w : World) (b : Buf) : Rd (w.alloc (.cells #[.int .i64 b.addr, .int .i64 b.len, .bool b.wr] 89)) (w.alloc (.cells #[.int .i64 b.addr, .int .i64 b.len, .bool b.wr] 89)).heap.size 3 (.slice (some ⟨w.heap.size, 0, none⟩) 1 1) [b].length (bufCells [b]) := by
  have := one_newB w b
  simpa [bufCells] using this
theorem wsum_one (i : Int) : wsum [⟨i, 1, true⟩] = 1 := rfl

set_option maxRecDepth 20000 in
set_option maxHeartbeats 1000000 in
theorem RingRound_any (M N : Int) (lv : Value) (w : World) :
    Calls Try.prog 8 #[.agg #[.int .i64 M, .int .i64 N, lv]] w fun e w' => e = .returned (.bool true) ∧ Below w.heap.size w w' := by
  have hb0 := (Below.refl w.heap.size w).alloc (Nat.le_refl _) (.cells #[.int .i64 M, .int .i64 N, lv] 66)
  have c1 : (w.alloc (.cells #[.int .i64 M, .int .i64 N, lv] 66)).cell? ⟨w.heap.size, 1, none⟩ = some (.int .i64 N) := by rw [(Whole.new w 66 [.int .i64 M, .int .i64 N, lv]).cell]; rfl
  go_enter Try.func8, Try.ntmps8
  go_wp2_with fail
  generalize w.alloc (.cells #[.int .i64 M, .int .i64 N, lv] 66) = wa at hb0 c1 ⊢
  refine (New_ok 200 wa (by omega)).mono ?_
  rintro e w1 ⟨rfl, hm, hb1⟩
  have HM := Lib.hid hm
  have hq2 : isQ ((2 : Nat) : Int) = true := rfl
  clear hm
  go_wp2_with fail
  refine (NewDriver_ok w1 _ _ 2 _ rfl HM.out (by simp [sizeAt, usedAt])).mono ?_
  rintro e w2 ⟨D, rfl, hb2, hD, bs, bw, bl, hbs, hbw, hbl, hDr⟩
  have HDr := Lib.hid hDr
  clear hDr
  go_wp2_with fail
  refine (NewDevice_ok w2 _ _ 2 _ rfl (HM.out.belowH hb2) (by simp [sizeAt, usedAt])).mono ?_
  rintro e w3 ⟨V, rfl, hb3, hV, hDev⟩
  have HR : Hid (RigG w3 ⟨D, bs, bw, bl, V, wa.heap.size + 1, wa.heap.size⟩ 2 [] [] 2) := Lib.hid (rig_start (w0 := wa) (n := 200) (q := 2) rfl (by simp [sizeAt, usedAt]) (by omega) HM.out hb2 hD hbs hbw hbl HDr.out hb3 hV hDev)
  have hz0 := hb0.size
  have hz1 := hb1.size
  have hz2 := hb2.size
  have hz3 := hb3.size
  have hbx := ((hb0.trans (hb1.mono hz0)).trans (hb2.mono (by omega))).trans (hb3.mono (by omega))
  have k1 := cell_bel (cell_bel (cell_bel c1 hb1) hb2) hb3
  obtain ⟨s, hs⟩ : ∃ s : Spot, s = ⟨D, bs, bw, bl, V, wa.heap.size + 1, wa.heap.size⟩ := ⟨_, rfl⟩
  rw [← hs] at HR
  have hsD : D = s.D := by rw [hs]
  have hsV : V = s.V := by rw [hs]
  subst hsD hsV
  have hlow : ∀ k ∈ s.all, w.heap.size ≤ k := by
    intro k hk
    rw [hs] at hk
    simp only [Spot.all, List.mem_cons, List.mem_nil_iff, or_false] at hk
    omega
  have HLOW := Lib.hid hlow
  clear hs hlow HM HDr hDev hb0 hb1 hb2 hb3 c1
  have hlt1 : w.heap.size < w3.heap.size := World.block_lt_of_cell? w3 _ k1
  have hwi := within_nn N 40 (by omega)
  have hwl := within_lt N 40 (by omega)
  obtain ⟨x, hx⟩ : ∃ x, within N 40 = x := ⟨_, rfl⟩
  rw [hx] at hwi hwl
  have HX := Lib.hid hx
  clear hx
  go_upto_region 6 with (go_at_call 16; refine (num2_any _ _).mono ?_; rintro e w' ⟨rfl, rfl⟩)
  go_cut [9] (fun t wx => ∃ T : Nat, T ≤ 70000 ∧ t = .int .i64 T ∧ Below w3.heap.size w3 wx)
  case first =>
    by_cases hx9 : x = 39
    · subst hx9
      go_wp2_with (go_at_call 21; refine (Within_any _ _ 40 (by omega) (by omega)).mono ?_; rintro e w' ⟨rfl, rfl⟩; rw [HX.out])
      go_meet
      exact ⟨70000, by omega, rfl, (Below.refl _ _).alloc (Nat.le_refl _) _⟩
    · have hdv : x.tdiv 39 = 0 := by rw [Int.tdiv_eq_ediv_of_nonneg hwi]; omega
      have hdv2 : x / 39 = 0 := by omega
      go_wp2_with (go_at_call 21; refine (Within_any _ _ 40 (by omega) (by omega)).mono ?_; rintro e w' ⟨rfl, rfl⟩; rw [HX.out])
      go_meet
      exact ⟨10, by omega, rfl, (Below.refl _ _).alloc (Nat.le_refl _) _⟩
  case rest =>
    obtain ⟨T, hT, rfl, hcb⟩ := hcut
    have HRc := Lib.hid (HR.out.left (Left.of_below hcb []))
    have hbc := hbx.trans (hcb.mono hbx.size)
    clear hcb HX hwi hwl hlt1
    go_wp2
    go_loopw [10, 11, 12, 13, 14, 15, 16, 17, 18, 19, 20] (fun i _ _ _ _ _ _ _ _ _ _ wr => ∃ k : Nat, k ≤ T ∧ i = .int .i64 k ∧ RigG wr s 2 [] [] 2 ∧ Below w.heap.size w wr) (fun i _ _ _ _ _ _ _ _ _ _ _ => T - (intOf i).toNat)
    case atStart => exact ⟨0, by omega, rfl, HRc.out, hbc⟩
    case round =>
      obtain ⟨k, hk, rfl, hRk, hbk⟩ := hrel
      have HRk := Lib.hid hRk
      clear hRk
      by_cases hkT : k < T
      · have hlt := HRk.out.lt
        have hdl : s.d < wr.heap.size := hlt s.d (by simp [Spot.all])
        have hsl : s.bs < wr.heap.size := hlt s.bs (by simp [Spot.all])
        have hrd := rd_one wr ⟨(k : Int), 1, true⟩
        have HRa := Lib.hid (HRk.out.left ((Left.refl [] wr).alloc (.cells #[.int .i64 k, .int .i64 1, .bool true] 89)))
        have HRD := Lib.hid hrd
        have hba := hbk.alloc hbk.size (.cells #[.int .i64 k, .int .i64 1, .bool true] 89)
        have hne : (Value.slice (some ⟨wr.heap.size, 0, none⟩) 1 1).ownBlock ≠ some s.d ∧ (Value.slice (some ⟨wr.heap.size, 0, none⟩) 1 1).ownBlock ≠ some s.bs := by
          simp only [Value.ownBlock]
          refine ⟨fun e => ?_, fun e => ?_⟩ <;> injection e with e <;> omega
        have HNE := Lib.hid hne
        clear hlt hrd hne hdl hsl
        go_wp2_with fail
        refine (RigG.add (L := [⟨(k : Int), 1, true⟩]) HRa.out HRD.out HNE.out (bufsB_one k (by omega)) (by simp)).mono ?_
        rintro e wb ⟨own, hh, rfl, hRb, hlb, _⟩
        obtain ⟨f, hf⟩ : ∃ f : Fl, f = ⟨own, [⟨(k : Int), 1, true⟩]⟩ := ⟨_, rfl⟩
        rw [← hf] at hh hRb ⊢
        have HRb : Hid (RigG wb s 2 [f] [] 1) := Lib.hid (by simpa using hRb)
        have hbb := hba.trans (hlb.belowB (B := w.heap.size) hba.size HLOW.out)
        have HF := Lib.hid hf
        clear hRb hlb hf hba
        go_wp2_with fail
        refine (RigG.pop HRb.out).mono ?_
        rintro e wc2 ⟨v1, rfl, ho, hRp, hlp, _, _⟩
        have HRp := Lib.hid hRp
        have hbp := hbb.trans (hlp.belowB (B := w.heap.size) hbb.size HLOW.out)
        have hfl : f.L = [⟨(k : Int), 1, true⟩] := by rw [HF.out]
        rw [hfl] at ho
        replace ho : wc2.ownsRow wb.heap.size 89 3 v1 1 (bufCells [⟨(k : Int), 1, true⟩]) := ho
        obtain ⟨g, gc, rfl, _, hgl⟩ := own_form' ho (by simp)
        have q0 : wc2.cell? ⟨g, 0, none⟩ = some (.int .i64 k) := ho.cellAt 0 (by simp)
        have q1 : wc2.cell? ⟨g, 1, none⟩ = some (.int .i64 1) := ho.cellAt 1 (by simp)
        have q2 : wc2.cell? ⟨g, 2, none⟩ = some (.bool true) := ho.cellAt 2 (by simp)
        have HGC : Hid (1 ≤ gc) := Lib.hid (by rcases ho.2 with ⟨hn, _⟩ | ⟨g', cap2, cur, hv, _, _, h1, _⟩; cases hn; injection hv with _ _ hv; omega)
        have hgc := HGC.out
        have HFL := Lib.hid hfl
        clear ho hRp hlp hfl
        have hcmp : ∀ wq : World, (binOp .neq 89 (.agg #[.int .i64 k, .int .i64 1, .bool true]) (.agg #[.int .i64 k, .int .i64 1, .bool true])).run Try.prog wq = .ok (.bool false) wq := by
          intro wq
          go_simp
        have hpu := RigP.push (n := 1) (show RigP _ s 2 f [] [] 1 from HRp.out) (by rw [HFL.out, wsum_one]; decide) (by omega)
        have hpu := hpu.mono (R' := fun e w' => e = .returned (.int .i64 0) ∧ RigG w' s 2 [] [(f, 1)] 1 ∧ Below w.heap.size w w') (fun e w' ⟨h1, h2, h3, _⟩ => ⟨h1, h2, hbp.trans (h3.belowB (B := w.heap.size) hbp.size HLOW.out)⟩)
        have HPU := Lib.hid hpu
        clear hpu
        go_wp2_with (go_at_call 16; refine (num2_any _ _).mono ?_; rintro e w' ⟨rfl, rfl⟩)
        refine Calls.mono (show Calls Try.prog 42 #[.pointer (some ⟨s.V, 0, none⟩), .int .i64 (f.h : Nat), .int .i64 1] wc2 _ from HPU.out) ?_
        rintro e wd ⟨rfl, hRd, hbd⟩
        have HRd := Lib.hid hRd
        clear hRd
        go_wp2_with (go_at_call 16; refine (num2_any _ _).mono ?_; rintro e w' ⟨rfl, rfl⟩)
        refine (RigG.used (show RigG _ s 2 [] [(f, 1)] 1 from HRd.out)).mono ?_
        rintro e we ⟨rfl, hRe, hle, _⟩
        rw [HFL.out] at hRe
        have HRe := Lib.hid (show RigG _ s 2 [] [] 2 from hRe)
        have hbe := hbd.trans (hle.belowB (B := w.heap.size) hbd.size HLOW.out)
        clear hRe hle
        go_wp2_with (first | (go_at_call 16; refine (num2_any _ _).mono ?_; rintro e w' ⟨rfl, rfl⟩) | (go_at_call 39; refine (RigG.free_any HRe.out).mono ?_; rintro e w' ⟨rfl, rfl⟩))
        go_roundw
        case rel => exact ⟨k + 1, by omega, by go_num, HRe.out, hbe⟩
        case measure => simp [intOf]; omega
      · go_wp2_with fail
        refine (wakes_any wr).mono ?_
        rintro e wz ⟨rfl, hbz⟩
        go_wp2
        go_ret
        exact ⟨rfl, hbk.trans (hbz.mono hbk.size)⟩
end Go.Proofs.Ytfffehbipcikoaa
