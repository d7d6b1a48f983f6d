/- OutboxOnce: what follows the acts. -/



import Derived.Test.YtndidkaoigjbiaaObLawC
import Derived.Test.YtndidkaoigjbiaaTwo
import Derived.Test.YtndidkaoigjbiaaRowRd
import Derived.Deep.LoopGhost
import Derived.Deep.CutBlock
import Derived.BigRegion
namespace Go.Proofs.Ytndidkaoigjbiaa
open Go.RowKit
/-- The code behind a block. -/
def aftB (n : Nat) : Code → Option (Option Code)
  | .block m _ => if m = n then some none else none
  | .seq a b => match aftB n a with
    | some none => some (some b)
    | some (some r) => some (some (.seq r b))
    | none => aftB n b
  | _ => none
def tailOf (n : Nat) (f : Func) : Code := match f.body with
  | some c => match aftB n c with
    | some (some r) => r
    | _ => .skip
  | none => .skip
def TailF (O : Nat) (taken came : Nat) (up : Bool) (wv : Value) (u : Nat → Value) : Act :=
  { tmps := #[u 0, u 1, u 2, .pointer (some ⟨O, 0, none⟩), .int .i64 taken, .int .i64 came, .bool up, u 7, u 8, wv, u 10, u 11, u 12, u 13, u 14, u 15, u 16, u 17, u 18, u 19, u 20, u 21, u 22, u 23, u 24, u 25, u 26, u 27, u 28, u 29, u 30, u 31, u 32, u 33, u 34, u 35, u 36, u 37, u 38, u 39, u 40, u 41, u 42, u 43, u 44, u 45, u 46, u 47, u 48, u 49, u 50, u 51, u 52, u 53, u 54, u 55, u 56, u 57, u 58, u 59, u 60, u 61, u 62, u 63, u 64, u 65, u 66, u 67, u 68, u 69, u 70, u 71, u 72, u 73, u 74, u 75, u 76, u 77, u 78, u 79, u 80, u 81, u 82, u 83, u 84, u 85, u 86, u 87, u 88, u 89, u 90, u 91, u 92, u 93, u 94, u 95, u 96, u 97, u 98, u 99, u 100, u 101, u 102, u 103, u 104, u 105, u 106, u 107, u 108, u 109, u 110, u 111, u 112, u 113, u 114, u 115, u 116, u 117, u 118, u 119, u 120, u 121, u 122, u 123, u 124, u 125, u 126, u 127, u 128, u 129, u 130, u 131, u 132, u 133, u 134, u 135, u 136, u 137, u 138, u 139, u 140, u 141, u 142, u 143, u 144, u 145, u 146, u 147, u 148, u 149, u 150, u 151, u 152, u 153, u 154, u 155, u 156, u 157, u 158, u 159, u 160, u 161, u 162, u 163, u 164, u 165, u 166, u 167, u 168, u 169, u 170, u 171, u 172, u 173, u 174, u 175, u 176, u 177, u 178, u 179, u 180, u 181, u 182, u 183, u 184, u 185, u 186, u 187, u 188, u 189, u 190, u 191, u 192, u 193, u 194, u 195, u 196, u 197, u 198, u 199, u 200, u 201, u 202, u 203, u 204, u 205, u 206, u 207, u 208, u 209, u 210, u 211, u 212, u 213, u 214, u 215, u 216, u 217, u 218, u 219, u 220, u 221, u 222, u 223, u 224, u 225, u 226, u 227, u 228, u 229, u 230, u 231, u 232, u 233, u 234, u 235, u 236, u 237, u 238, u 239, u 240, u 241, u 242, u 243, u 244, u 245, u 246, u 247, u 248, u 249, u 250, u 251, u 252, u 253, u 254, u 255, u 256, u 257, u 258, u 259, u 260, u 261, u 262, u 263, u 264, u 265, u 266, u 267, u 268, u 269, u 270, u 271, u 272, u 273, u 274, u 275, u 276, u 277, u 278, u 279, u 280, u 281, u 282, u 283, u 284, u 285, u 286, u 287, u 288, u 289, u 290, u 291, u 292, u 293, u 294, u 295, u 296, u 297, u 298, u 299, u 300, u 301, u 302, u 303, u 304, u 305, u 306, u 307, u 308, u 309, u 310, u 311, u 312, u 313, u 314, u 315, u 316, u 317, u 318, u 319, u 320, u 321, u 322, u 323, u 324, u 325, u 326, u 327, u 328, u 329, u 330, u 331, u 332, u 333, u 334, u 335, u 336, u 337, u 338, u 339, u 340, u 341, u 342, u 343, u 344, u 345, u 346, u 347, u 348, u 349, u 350, u 351, u 352, u 353, u 354, u 355, u 356, u 357, u 358, u 359, u 360, u 361, u 362, u 363, u 364, u 365], defers := [] }
set_option maxRecDepth 40000 in
set_option maxHeartbeats 8000000 in
theorem tail_law (w wc : World) (O : Nat) (sv : List Value) (o : OB) (taken came : Nat) (up : Bool) (seen : List Int) (recd : List Bool) (wait : List Pk) (wv : Value) (HLF : Hid (LF w O sv wc o wait wv)) (HI : Hid (Inv o taken came seen recd up wait))
    (a : Act) (ha : a = TailF O taken came up wv (fun n => a.tmps.getD n undef)) :
    (tailOf 0 Try.f3).wp Try.prog (bodyPost Try.prog Try.f3 fun e w' => e = .returned (.bool true) ∧ Below w.heap.size w w') a wc := by
  obtain ⟨u, rfl⟩ := frame_u (T := TailF O taken came up wv) ha
  clear ha
  unfold TailF
  conv => arg 2; whnf
  go_upto_if 250 with fail
  go_cut [5, 9] (fun cm wv wx => ∃ (o : OB) (came : Nat) (seen : List Int) (recd : List Bool) (wait : List Pk), cm = .int .i64 came ∧ Hid (LF w O sv wx o wait wv) ∧ Hid (Inv o taken came seen recd true wait))
  case first => as_aux_lemma =>
    cases up
    · as_aux_lemma =>
        obtain ⟨fo1, qo1, fc1, qc1, hOb, hOr⟩ := HLF.out.open_
        have HOB := Lib.hid hOb
        have HRS := Lib.hid (resume_law hOr HI.out)
        obtain ⟨o0, o1, o2, o3, o4, o5⟩ := hOb.three
        clear hOb hOr
        go_wp2_with fail
        refine HRS.out.mono ?_
        rintro e w5 ⟨o', l, er, fo5, qo5, lo5, fc5, qc5, lc5, rfl, hO5, hl5, hb5, rfl, hPr⟩
        obtain ⟨w6, hw6⟩ : ∃ w6, w5.alloc (.cells #[.int .i64 o'.last, .slice fo5 o'.F.length fc5, .slice qo5 o'.Q.length qc5] 25) = w6 := ⟨_, rfl⟩
        have hb6 : Below w5.heap.size w5 w6 := by rw [← hw6]; go_grown
        have hX6 : Whole w6 w5.heap.size 25 [.int .i64 o'.last, .slice fo5 o'.F.length fc5, .slice qo5 o'.Q.length qc5] := by rw [← hw6]; exact Whole.new w5 25 _
        have hb56 := b_tr hb5 hb6
        have hOb6 := HOB.out.belowH hb56
        obtain ⟨x0, x1, x2, x3, x4, x5⟩ := hX6.three
        obtain ⟨y0, y1, y2, y3, y4, y5⟩ := hOb6.three
        obtain ⟨w8, hw8⟩ : ∃ w8, ((w6.setCell ⟨O, 0, none⟩ (.int .i64 o'.last)).setCell ⟨O, 1, none⟩ (.slice fo5 o'.F.length fc5)).setCell ⟨O, 2, none⟩ (.slice qo5 o'.Q.length qc5) = w8 := ⟨_, rfl⟩
        have hl8 : Left [O] w6 w8 := hw8 ▸ (((Left.refl _ w6).setCell (Or.inl (by simp)) _).setCell (Or.inl (by simp)) _).setCell (Or.inl (by simp)) _
        have hO8 : Whole w8 O 25 [.int .i64 o'.last, .slice fo5 o'.F.length fc5, .slice qo5 o'.Q.length qc5] := by rw [← hw8]; exact ((hOb6.put 0 _).put 1 _).put 2 _
        obtain ⟨fv5, qv5, he5, hF5, hQ5⟩ := hO5
        injection he5 with he5
        simp only [Array.mk.injEq, List.cons.injEq, true_and, and_true] at he5
        obtain ⟨rfl, rfl⟩ := he5
        have hBw : w.heap.size ≤ wc.heap.size := HLF.out.bel.size
        have hLF8 := (HLF.out.below hb56).setO hl8 hO8 (own_base (own_below hF5 hb6) hBw) (own_base (own_below hQ5 hb6) hBw)
        have hl68 := own_below hl5 hb6
        have hlr8 := own_base (own_leftB hl68 hl8 (fun k hk e => by simp only [List.mem_singleton] at hk; subst hk; exact (own_ty hl68 e).ne hOb6.ty (by decide) rfl)) hBw
        have HLF8 := Lib.hid (hLF8.wait_ (wait' := l) (Row.of_own hlr8))
        have HLR := Lib.hid hlr8
        obtain ⟨seen', hok, hinv⟩ := hPr
        have HINV := Lib.hid hinv
        have hll : l.length ≤ 1000 := hinv.small
        clear hF5 hQ5 hl5 hb5 hb6 hX6 hb56 hOb6 hl8 hO8 hBw hLF8 hl68 hlr8 hok hinv
        go_upto_block 6 with (go_at_call 7; refine (num_any _ _).mono ?_; rintro e w' ⟨rfl, rfl⟩)
        clear x0 x1 x2 x3 x4 x5 y0 y1 y2 y3 y4 y5 o0 o1 o2 o3 o4 o5 hw6 hw8
        go_wp2_with fail
        go_loopg [5, 21] l.length (fun g cm s wx => ∃ k : Nat, s = .int .i64 k ∧ k + g = l.length ∧ cm = .int .i64 ((came + newN (l.take k) : Nat) : Int) ∧ wx = w8)
        case atStart => exact ⟨0, rfl, by omega, by simp [newN], rfl⟩
        case round => as_aux_lemma =>
          obtain ⟨k, rfl, hkg, rfl, rfl⟩ := hrel
          by_cases hkl : k < l.length
          · obtain ⟨kk, hkk⟩ : ∃ kk, l[k]? = some kk := ⟨_, List.getElem?_eq_getElem hkl⟩
            obtain ⟨lb, lof, rfl, hlb, hkr⟩ := Enc.rd_cell (E := eP) (Rd.of_own HLR.out) rfl hkk
            obtain ⟨c0, c16, _, _, _, _, _⟩ := pk_cells (show wr.rangeAt lb (lof + k * 24) (eP.c kk) from hkr)
            have HNX := Lib.hid (newN_next hkk)
            have hsm : newN (l.take k) ≤ 1000 := Nat.le_trans (List.length_filter_le _ _) (by rw [List.length_take]; have := HINV.out.small; omega)
            have hcm : came ≤ 1000 := by have := HI.out.core.cq; have := HI.out.core.t; omega
            obtain ⟨nn, hnn⟩ : ∃ nn, newN (l.take k) = nn := ⟨_, rfl⟩
            rw [hnn] at hsm HNX ⊢
            clear hkr hkk hnn
            by_cases hk3 : kk.kind = 3
            · have hk3b : (kk.kind == 3) = true := beq_iff_eq.2 hk3
              cases hd : kk.dup
              · rw [hd] at c16
                have HNX2 : Hid (newN (l.take (k + 1)) = nn + 1) := Lib.hid (by rw [HNX.out, hd]; simp [hk3])
                clear hk3 hd
                go_wp2
                go_roundg (l.length - (k + 1))
                case rel => exact ⟨k + 1, by go_num, by omega, by rw [HNX2.out]; go_num, rfl⟩
                case measure => omega
              · rw [hd] at c16
                have HNX2 : Hid (newN (l.take (k + 1)) = nn) := Lib.hid (by rw [HNX.out, hd]; simp)
                clear hk3 hd
                go_wp2
                go_roundg (l.length - (k + 1))
                case rel => exact ⟨k + 1, by go_num, by omega, by rw [HNX2.out], rfl⟩
                case measure => omega
            · have hk3b : (kk.kind == 3) = false := beq_eq_false_iff_ne.2 hk3
              have HNX2 : Hid (newN (l.take (k + 1)) = nn) := Lib.hid (by rw [HNX.out]; simp [hk3])
              clear hk3
              go_wp2
              go_roundg (l.length - (k + 1))
              case rel => exact ⟨k + 1, by go_num, by omega, by rw [HNX2.out], rfl⟩
              case measure => omega
          · have e : k = l.length := by omega
            subst e
            have HTK : Hid (newN (l.take l.length) = newN l) := Lib.hid (by rw [List.take_length])
            go_wp2
            go_meet
            exact ⟨o', came + newN l, seen', recd, l, by rw [HTK.out], HLF8, HINV⟩
    · go_wp2
      go_meet
      exact ⟨o, came, seen, recd, wait, rfl, HLF, HI⟩
  case rest => as_aux_lemma =>
    obtain ⟨o, came, seen, recd, wait, rfl, HLF, HI⟩ := hcut
    go_upto_block 8 with fail
    go_wp2_with fail
    go_loopg [5, 9, 22] 24 (fun g cm wv t wx => ∃ (o : OB) (came n : Nat) (seen : List Int) (recd : List Bool) (wait : List Pk), cm = .int .i64 came ∧ t = .int .i64 n ∧ n + g = 24 ∧ wt o ≤ g ∧ Hid (LF w O sv wx o wait wv) ∧ Hid (Inv o taken came seen recd true wait))
    case atStart => exact ⟨o, came, 0, seen, recd, wait, rfl, rfl, by omega, HI.out.wt_le, HLF, HI⟩
    case round => as_aux_lemma =>
      obtain ⟨o, came, n, seen, recd, wait, rfl, rfl, hng, hwt, HR, HI⟩ := hrel
      obtain ⟨wo, wc2, rfl, hwc1, hwc2⟩ := HR.out.wt.form
      have hn5 : (n : Int) < 500 := by omega
      cases hwait : wait with
      | nil => as_aux_lemma =>
        subst hwait
        obtain ⟨hd1, hd2, hd3⟩ := HI.out.done
        obtain ⟨fo1, qo1, fc1, qc1, hOb, hOr⟩ := HR.out.open_
        rw [hd1, hd2] at hOb
        simp only [List.length_nil] at hOb
        obtain ⟨o0, o1, o2, o3, o4, o5⟩ := hOb.three
        have HB := Lib.hid HR.out.bel
        have hctb : ((came : Int) == (taken : Int)) = true := beq_iff_eq.2 (by omega)
        clear hOb hOr hd1 hd2 hd3
        go_wp2_with (go_at_call 13; refine (wakes_any _).mono ?_; rintro e w5 ⟨rfl, hb5⟩; have HB5 := Lib.hid (b_tr HB.out hb5))
        go_ret
        exact ⟨rfl, HB5.out⟩
      | cons k r => as_aux_lemma =>
        subst hwait
        obtain ⟨g0, goff, gcap, tp, hwv, hkr, hcap1, hcap2, htp, hrow⟩ := Row.pop HR.out.wt
        injection hwv with hwv1 hwv2 hwv3
        subst hwv1
        subst hwv3
        have hq1 : (1 : Int) ≤ (r.length : Int) + 1 := by omega
        obtain ⟨kc, hkc⟩ : ∃ kc, kc = pkC k := ⟨_, rfl⟩
        have hkr' : wr.rangeAt g0 goff kc := by rw [hkc]; exact hkr
        have HKI : Hid ((Try.prog.info? 50).map (·.size) = some kc.length) := Lib.hid (by rw [hkc]; kernel_rfl)
        have HKI2 : Hid ((Try.prog.info? 50).map (·.size) = some kc.toArray.size) := Lib.hid (by rw [hkc]; kernel_rfl)
        have HK1 : Hid (∀ u ∈ kc, u.oneCell' = true) := Lib.hid (by rw [hkc]; exact eP.one _)
        obtain ⟨wz, hwz⟩ : ∃ wz, wz = wr.alloc (.cells (pkC ⟨0, ⟨#[]⟩, ⟨#[]⟩, 0, false, 0, false⟩).toArray 50) := ⟨_, rfl⟩
        have hbz : Below wr.heap.size wr wz := by rw [hwz]; go_grown
        have hWz : Whole wz wr.heap.size 50 (pkC ⟨0, ⟨#[]⟩, ⟨#[]⟩, 0, false, 0, false⟩) := by rw [hwz]; exact Whole.new wr 50 _
        obtain ⟨hWq, hlq⟩ := hWz.setAll (vs := kc) (by rw [hkc]; rfl)
        have hth := hWz.there
        rw [show (pkC ⟨0, ⟨#[]⟩, ⟨#[]⟩, 0, false, 0, false⟩).length = kc.toArray.size by rw [hkc]; rfl] at hth
        have HTH := Lib.hid hth
        obtain ⟨wq, hwq⟩ : ∃ wq, wz.setCells wr.heap.size 0 kc = wq := ⟨_, rfl⟩
        rw [hwq] at hWq hlq
        have hbq : Below wr.heap.size wr wq := hbz.trans (hlq.belowB hbz.size (by simp))
        have hzq := hbq.size
        have q0 : wq.cell? ⟨wr.heap.size, 0, none⟩ = some (.int .i64 k.kind) := by rw [hWq.cell, hkc]; rfl
        have q17 : wq.cell? ⟨wr.heap.size, 17, none⟩ = some (.int .i64 k.q) := by rw [hWq.cell, hkc]; rfl
        have q20 : wq.cell? ⟨wr.heap.size, 20, none⟩ = some (.int .i64 k.id) := by rw [hWq.cell, hkc]; rfl
        have HRQ := Lib.hid ((HR.out.wait_ (wait' := r) hrow).below hbq)
        have HKR := Lib.hid hkr'
        obtain ⟨fo1, qo1, fc1, qc1, hOb, hOr⟩ := HRQ.out.open_
        have HOB2 := Lib.hid hOb
        have HOR2 := Lib.hid hOr
        have hwtl : (k :: r).length = r.length + 1 := rfl
        obtain ⟨p0, p1, p2, p3, p4, p5⟩ := HOB2.out.three
        simp only [pkC] at hwz
        have hch := hwz.symm
        clear hkr hkr' hrow hbq hWq hwz hcap2 hbz hWz hlq hth hkc hOb hOr
        go_upto_block 10 with (first | (refine wpList_load_mid rfl 50 (.tmp 294) rfl g0 goff rfl kc _ HKR.out Try.underlying50 rfl HKI.out ?_) | (refine wpList_store_mid rfl 50 (.tmp 23) (.tmp 295) rfl wr.heap.size 0 kc.toArray rfl rfl HTH.out HKI2.out (all_oneCell_toArray HK1.out) ?_))
        clear htp hch hwq
        go_cut [24, 25] (fun lv e wx => ∃ (o' : OB) (recd' : List Bool) (l : List Pk), e = .int .i64 0 ∧ Hid (LF w O sv wx o' r (.slice tp r.length (wc2 - 1)) ∧ wx.ownsRow w.heap.size 50 24 lv l.length (eP.cells l) ∧ ∀ j, lv.ownBlock = some j → (Value.slice tp r.length (wc2 - 1)).ownBlock ≠ some j) ∧ Hid (Ans o taken came seen recd' r o' l))
        case first => as_aux_lemma =>
          by_cases hk6 : k.kind = 6
          · as_aux_lemma =>
              have hk6b : (k.kind == 6) = true := beq_iff_eq.2 hk6
              have HCO := Lib.hid (comp_law HOR2.out HI.out hk6)
              clear hk6
              go_wp2_with fail
              refine HCO.out.mono ?_
              rintro e w5 ⟨o', l, er, fo5, qo5, lo5, fc5, qc5, lc5, rfl, hO5, hl5, hb5, rfl, hPr⟩
              have hOb5 := HOB2.out.belowH hb5
              obtain ⟨y0, y1, y2, y3, y4, y5⟩ := hOb5.three
              obtain ⟨w8, hw8⟩ : ∃ w8, ((w5.setCell ⟨O, 0, none⟩ (.int .i64 o'.last)).setCell ⟨O, 1, none⟩ (.slice fo5 o'.F.length fc5)).setCell ⟨O, 2, none⟩ (.slice qo5 o'.Q.length qc5) = w8 := ⟨_, rfl⟩
              have hl8 : Left [O] w5 w8 := hw8 ▸ (((Left.refl _ w5).setCell (Or.inl (by simp)) _).setCell (Or.inl (by simp)) _).setCell (Or.inl (by simp)) _
              have hO8 : Whole w8 O 25 [.int .i64 o'.last, .slice fo5 o'.F.length fc5, .slice qo5 o'.Q.length qc5] := by rw [← hw8]; exact ((hOb5.put 0 _).put 1 _).put 2 _
              obtain ⟨fv5, qv5, he5, hF5, hQ5⟩ := hO5
              injection he5 with he5
              simp only [Array.mk.injEq, List.cons.injEq, true_and, and_true] at he5
              obtain ⟨rfl, rfl⟩ := he5
              have hBw : w.heap.size ≤ wq.heap.size := HRQ.out.bel.size
              have hLF8 := (HRQ.out.below hb5).setO hl8 hO8 (own_base hF5 hBw) (own_base hQ5 hBw)
              have hlr8 := own_base (own_leftB hl5 hl8 (fun k hk e => by simp only [List.mem_singleton] at hk; subst hk; exact (own_ty hl5 e).ne hOb5.ty (by decide) rfl)) hBw
              have hne8 : ∀ j, (Value.slice lo5 l.length lc5).ownBlock = some j → (Value.slice tp r.length (wc2 - 1)).ownBlock ≠ some j := fun j hj e => by
                have h1 := (hl5.lt j hj).1
                have h2 := (HRQ.out.wt.lt e).2
                omega
              have H8 := Lib.hid (And.intro hLF8 (And.intro hlr8 hne8))
              have HPR := Lib.hid hPr
              clear hF5 hQ5 hl5 hb5 hOb5 hl8 hO8 hBw hLF8 hlr8 hne8 hPr
              go_wp2
              go_meet
              exact ⟨o', recd, l, rfl, H8, HPR⟩
          · have hk6b : (k.kind == 6) = false := beq_eq_false_iff_ne.2 hk6
            by_cases hkq : k.q = 1
            · as_aux_lemma =>
                have hkqb : (k.q == 1) = true := beq_iff_eq.2 hkq
                have HCO := Lib.hid (ack_law HOR2.out HI.out hk6 hkq)
                clear hk6 hkq
                go_wp2_with fail
                refine HCO.out.mono ?_
                rintro e w5 ⟨o', l, er, fo5, qo5, lo5, fc5, qc5, lc5, rfl, hO5, hl5, hb5, rfl, hPr⟩
                have hOb5 := HOB2.out.belowH hb5
                obtain ⟨y0, y1, y2, y3, y4, y5⟩ := hOb5.three
                obtain ⟨w8, hw8⟩ : ∃ w8, ((w5.setCell ⟨O, 0, none⟩ (.int .i64 o'.last)).setCell ⟨O, 1, none⟩ (.slice fo5 o'.F.length fc5)).setCell ⟨O, 2, none⟩ (.slice qo5 o'.Q.length qc5) = w8 := ⟨_, rfl⟩
                have hl8 : Left [O] w5 w8 := hw8 ▸ (((Left.refl _ w5).setCell (Or.inl (by simp)) _).setCell (Or.inl (by simp)) _).setCell (Or.inl (by simp)) _
                have hO8 : Whole w8 O 25 [.int .i64 o'.last, .slice fo5 o'.F.length fc5, .slice qo5 o'.Q.length qc5] := by rw [← hw8]; exact ((hOb5.put 0 _).put 1 _).put 2 _
                obtain ⟨fv5, qv5, he5, hF5, hQ5⟩ := hO5
                injection he5 with he5
                simp only [Array.mk.injEq, List.cons.injEq, true_and, and_true] at he5
                obtain ⟨rfl, rfl⟩ := he5
                have hBw : w.heap.size ≤ wq.heap.size := HRQ.out.bel.size
                have hLF8 := (HRQ.out.below hb5).setO hl8 hO8 (own_base hF5 hBw) (own_base hQ5 hBw)
                have hlr8 := own_base (own_leftB hl5 hl8 (fun k hk e => by simp only [List.mem_singleton] at hk; subst hk; exact (own_ty hl5 e).ne hOb5.ty (by decide) rfl)) hBw
                have hne8 : ∀ j, (Value.slice lo5 l.length lc5).ownBlock = some j → (Value.slice tp r.length (wc2 - 1)).ownBlock ≠ some j := fun j hj e => by
                  have h1 := (hl5.lt j hj).1
                  have h2 := (HRQ.out.wt.lt e).2
                  omega
                have H8 := Lib.hid (And.intro hLF8 (And.intro hlr8 hne8))
                have HPR := Lib.hid hPr
                clear hF5 hQ5 hl5 hb5 hOb5 hl8 hO8 hBw hLF8 hlr8 hne8 hPr
                go_wp2
                go_meet
                exact ⟨o', recd, l, rfl, H8, HPR⟩
            · as_aux_lemma =>
                have hkqb : (k.q == 1) = false := beq_eq_false_iff_ne.2 hkq
                obtain ⟨nn, hnn, hpl, hrl⟩ := rec_num HI.out hk6 hkq
                have HCO := Lib.hid (hrl wq _ HOR2.out)
                clear hk6 hkq hrl hpl
                go_wp2_with fail
                refine HCO.out.mono ?_
                rintro e w5 ⟨o', l, er, fo5, qo5, lo5, fc5, qc5, lc5, rfl, hO5, hl5, hb5, rfl, hPr⟩
                have hOb5 := HOB2.out.belowH hb5
                obtain ⟨y0, y1, y2, y3, y4, y5⟩ := hOb5.three
                obtain ⟨w8, hw8⟩ : ∃ w8, ((w5.setCell ⟨O, 0, none⟩ (.int .i64 o'.last)).setCell ⟨O, 1, none⟩ (.slice fo5 o'.F.length fc5)).setCell ⟨O, 2, none⟩ (.slice qo5 o'.Q.length qc5) = w8 := ⟨_, rfl⟩
                have hl8 : Left [O] w5 w8 := hw8 ▸ (((Left.refl _ w5).setCell (Or.inl (by simp)) _).setCell (Or.inl (by simp)) _).setCell (Or.inl (by simp)) _
                have hO8 : Whole w8 O 25 [.int .i64 o'.last, .slice fo5 o'.F.length fc5, .slice qo5 o'.Q.length qc5] := by rw [← hw8]; exact ((hOb5.put 0 _).put 1 _).put 2 _
                obtain ⟨fv5, qv5, he5, hF5, hQ5⟩ := hO5
                injection he5 with he5
                simp only [Array.mk.injEq, List.cons.injEq, true_and, and_true] at he5
                obtain ⟨rfl, rfl⟩ := he5
                have hBw : w.heap.size ≤ wq.heap.size := HRQ.out.bel.size
                have hLF8 := (HRQ.out.below hb5).setO hl8 hO8 (own_base hF5 hBw) (own_base hQ5 hBw)
                have hlr8 := own_base (own_leftB hl5 hl8 (fun k hk e => by simp only [List.mem_singleton] at hk; subst hk; exact (own_ty hl5 e).ne hOb5.ty (by decide) rfl)) hBw
                have hne8 : ∀ j, (Value.slice lo5 l.length lc5).ownBlock = some j → (Value.slice tp r.length (wc2 - 1)).ownBlock ≠ some j := fun j hj e => by
                  have h1 := (hl5.lt j hj).1
                  have h2 := (HRQ.out.wt.lt e).2
                  omega
                have H8 := Lib.hid (And.intro hLF8 (And.intro hlr8 hne8))
                have HPR := Lib.hid hPr
                clear hF5 hQ5 hl5 hb5 hOb5 hl8 hO8 hBw hLF8 hlr8 hne8 hPr
                go_wp2
                go_meet
                exact ⟨o', recd.set nn true, l, rfl, H8, HPR⟩
        case rest => as_aux_lemma =>
          obtain ⟨o', recd', l, rfl, H8, HANS⟩ := hcut
          obtain ⟨lo2, lc2, rfl, hlc1, hlc2⟩ := (Rd.of_own H8.out.2.1).form
          have HRD := Lib.hid (Rd.of_own H8.out.2.1)
          obtain ⟨seen', hok, hinv, hwt'⟩ := HANS.out
          have hrl : (r ++ l).length ≤ 1000 := hinv.small
          have HINV := Lib.hid hinv
          have HRL := Lib.hid hrl
          have hll : l.length ≤ 1000 := by rw [List.length_append] at hrl; omega
          have hcm : came ≤ 1000 := by have := HI.out.core.cq; have := HI.out.core.t; omega
          clear hok hinv hrl p0 p1 p2 p3 p4 p5 q0 q17 q20
          go_wp2_with (first | (go_at_call 7; refine (num_any _ _).mono ?_; rintro e w' ⟨rfl, rfl⟩) | (at_builtin; refine wpList_rowrd rfl (.tmp 333) (.tmp 334) _ rfl w.heap.size 50 (pkV ⟨0, ⟨#[]⟩, ⟨#[]⟩, 0, false, 0, false⟩) 24 288 Try.underlying32 inf_P zP_size (by omega) _ r.length (eP.cells r) rfl H8.out.1.wt _ _ l.length (eP.cells l) rfl HRD.out (eP.cells_oneCell l) ?_ ?_ ?_ ?_))
          · have := HRL.out; rw [List.length_append] at this; unfold maxLen; omega
          · have := HRL.out; rw [List.length_append] at this; omega
          · have := H8.out.1.bel.size; omega
          intro v10 w10 hrow hg10 hat10
          have hl10 := left_of_grown hg10
          have HLF10 := Lib.hid (H8.out.1.app hl10 (wait' := r ++ l) (by rw [eP.cells_app, List.length_append]; exact hrow))
          have HLR10 := Lib.hid (own_leftB H8.out.2.1 hl10 (fun j hj e => H8.out.2.2 j e (mem_ownL.1 hj)))
          clear hrow hg10 hat10 hl10
          go_wp2_with fail
          go_loopg [5, 26] l.length (fun g cm s wx => ∃ k : Nat, s = .int .i64 k ∧ k + g = l.length ∧ cm = .int .i64 ((came + pubN (l.take k) : Nat) : Int) ∧ wx = w10)
          case atStart => exact ⟨0, rfl, by omega, by simp [pubN], rfl⟩
          case round => as_aux_lemma =>
            obtain ⟨j, rfl, hkg, rfl, rfl⟩ := hrel
            by_cases hkl : j < l.length
            · obtain ⟨kk, hkk⟩ : ∃ kk, l[j]? = some kk := ⟨_, List.getElem?_eq_getElem hkl⟩
              obtain ⟨lb, lof, rfl, hlb, hkr⟩ := Enc.rd_cell (E := eP) (Rd.of_own HLR10.out) rfl hkk
              obtain ⟨c0, _, _, _, _, _, _⟩ := pk_cells (show wr.rangeAt lb (lof + j * 24) (eP.c kk) from hkr)
              have HNX := Lib.hid (pubN_next hkk)
              have hsm : pubN (l.take j) ≤ 1000 := Nat.le_trans (List.length_filter_le _ _) (by have := HRL.out; rw [List.length_append] at this; rw [List.length_take]; omega)
              obtain ⟨nn, hnn⟩ : ∃ nn, pubN (l.take j) = nn := ⟨_, rfl⟩
              rw [hnn] at hsm HNX ⊢
              clear hkr hkk hnn
              by_cases hk3 : kk.kind = 3
              · have hk3b : (kk.kind == 3) = true := beq_iff_eq.2 hk3
                have HNX2 : Hid (pubN (l.take (j + 1)) = nn + 1) := Lib.hid (by rw [HNX.out, if_pos hk3])
                clear hk3
                go_wp2
                go_roundg (l.length - (j + 1))
                case rel => exact ⟨j + 1, by go_num, by omega, by rw [HNX2.out]; go_num, rfl⟩
                case measure => omega
              · have hk3b : (kk.kind == 3) = false := beq_eq_false_iff_ne.2 hk3
                have HNX2 : Hid (pubN (l.take (j + 1)) = nn) := Lib.hid (by rw [HNX.out, if_neg hk3, Nat.add_zero])
                clear hk3
                go_wp2
                go_roundg (l.length - (j + 1))
                case rel => exact ⟨j + 1, by go_num, by omega, by rw [HNX2.out], rfl⟩
                case measure => omega
            · have e : j = l.length := by omega
              subst e
              have HTK : Hid (pubN (l.take l.length) = pubN l) := Lib.hid (by rw [List.take_length])
              go_wp2
              go_roundg (24 - (n + 1))
              case rel => exact ⟨o', came + pubN l, n + 1, seen', recd', r ++ l, by rw [HTK.out], by go_num, by omega, by omega, HLF10, HINV⟩
              case measure => omega
end Go.Proofs.Ytndidkaoigjbiaa
