/- RecordTurned, walked: with one byte turned the bytes of a broker are none, or just those of the one that they are; unlike ones have unlike bytes. -/


import Derived.Test.YtlehkaibbkblkaaDoorRtArg
import Derived.Test.YtlehkaibbkblkaaDoorRtHv
import Derived.Test.YtlehkaibbkblkaaDoorRcPar
import Derived.Test.YtlehkaibbkblkaaDoorRcInj
import Derived.Test.YtlehkaibbkblkaaDoorRcEqB2
import Derived.Test.YtlehkaibbkblkaaDoorRcWakes
import Derived.Test.YtlehkaibbkblkaaDoorRtBy
namespace Go.Proofs.YtlehkaibbkblkaaDoor
open Go.RowKit
theorem all3_len {b : Br} (h : rmOk b) : (all3 b).length ≤ 40004 := by
  have h4 : (sum4 (l3 b)).length = 4 := rfl
  have := l3_bound h.1
  unfold all3
  rw [List.length_append]
  omega
theorem bro_cells {w : World} {b o : Nat} {x : RB} (h : w.rangeAt b o (eB.c x)) : w.cell? ⟨b, o, none⟩ = some (.slice x.la x.b.L.length x.lc) ∧ w.cell? ⟨b, o + 1, none⟩ = some (.slice x.sa x.R.length x.sc) ∧ w.cell? ⟨b, o + 2, none⟩ = some (.slice x.ka x.b.K.length x.kc) :=
  ⟨h 0 _ rfl, h 1 _ rfl, h 2 _ rfl⟩
theorem xor_any (z : UInt8) (q : Int) (h0 : 0 ≤ q) (h1 : q < 256) : ∃ y : UInt8, bits BinOp.xor IntKind.u8 (z.toNat : Int) q = (y.toNat : Int) := by
  obtain ⟨m, rfl⟩ : ∃ m : Nat, q = (m : Int) := ⟨q.toNat, by omega⟩
  have hlt : m < 256 := by omega
  refine ⟨UInt8.ofNat (z.toNat ^^^ m), ?_⟩
  rw [u8_xor_nat z.toNat m z.toNat_lt hlt]
  have h : z.toNat ^^^ m < 2 ^ 8 := Nat.xor_lt_two_pow z.toNat_lt hlt
  rw [UInt8.toNat_ofNat', Nat.mod_eq_of_lt h]
set_option maxRecDepth 20000 in
set_option maxHeartbeats 8000000 in
theorem Turned_any (w : World) (v : Value) (L : List RB) (h : Rd w w.heap.size 3 v L.length (eB.cells L)) (hL : ∀ x ∈ L, RBok w w.heap.size x ∧ BW RR x.b) (hE : Env w) :
    Calls Tryd.prog 3 #[v] w fun e w' => e = .returned (.bool true) ∧ Below w.heap.size w w' := by
  obtain ⟨ao, cap, rfl, hc, hm⟩ := h.form
  have hm' : cap ≤ 9223372036854775807 := by unfold maxLen at hm; omega
  have H := Lib.hid h
  have HBY : Hid (∀ x ∈ L, ShB x.b → ∀ wx, Below w.heap.size w wx → Calls Tryd.prog 5 #[.agg #[.slice x.la x.b.L.length x.lc, .slice x.sa x.R.length x.sc, .slice x.ka x.b.K.length x.kc]] wx fun e w' => ∃ v c n, e = .returned (.tuple #[v, .int .i64 n]) ∧ OwnU w' wx.heap.size v c ∧ Below wx.heap.size wx w' ∧ ((rmOk x.b ∧ n = 0 ∧ c = all3 x.b) ∨ (¬ rmOk x.b ∧ n = 1 ∧ c = []))) :=
    Lib.hid (fun x hx hs wx hw => Bytes_put wx _ _ _ x.R x.b (((hL x hx).1.below hw).more hw.size) hs (hE.below hw))
  have HHV : Hid (∀ x ∈ L, ∀ wx, Below w.heap.size w wx → Calls Tryd.prog 4 #[.agg #[.slice x.la x.b.L.length x.lc, .slice x.sa x.R.length x.sc, .slice x.ka x.b.K.length x.kc]] wx fun e w' => ∃ r : Bool, e = .returned (.bool r) ∧ (r = false → ShB x.b) ∧ Below wx.heap.size wx w') :=
    Lib.hid (fun x hx wx hw => Heavy_any wx _ _ _ x.R x.b (((hL x hx).1.below hw).more hw.size) (hL x hx).2)
  have HEQ : Hid (∀ x ∈ L, ∀ y ∈ L, ∀ wx, Below w.heap.size w wx → Calls Tryd.prog 10 #[.agg #[.slice x.la x.b.L.length x.lc, .slice x.sa x.R.length x.sc, .slice x.ka x.b.K.length x.kc], .agg #[.slice y.la y.b.L.length y.lc, .slice y.sa y.R.length y.sc, .slice y.ka y.b.K.length y.kc]] wx fun e w' => e = .returned (.bool (yes (x.b = y.b))) ∧ Below wx.heap.size wx w') :=
    Lib.hid (fun x hx y hy wx hw => eqB_any wx _ _ _ _ _ _ x.R y.R x.b y.b (((hL x hx).1.below hw).more hw.size) (((hL y hy).1.below hw).more hw.size))
  have HE := Lib.hid hE
  clear h hm hL hE
  go_enter Tryd.func3, Tryd.ntmps3
  go_wp2
  go_loopw [3] (fun i wr => ∃ k : Nat, i = .int .i64 k ∧ Below w.heap.size w wr ∧ Hid (∀ j x, j < k → L[j]? = some x → ShB x.b)) (fun i _ => L.length - (intOf i).toNat)
  case atStart => exact ⟨0, rfl, Below.refl _ _, Lib.hid (fun j x hj => by omega)⟩
  case round =>
    obtain ⟨k, rfl, hb, HS⟩ := hrel
    by_cases hlt : k < L.length
    · have hlt' : (k : Int) < (L.length : Int) := by omega
      by_cases h6 : (k : Int) < 6
      · obtain ⟨x, hx⟩ : ∃ x, L[k]? = some x := ⟨_, List.getElem?_eq_getElem hlt⟩
        obtain ⟨b, o, rfl, _, hcs⟩ := Enc.rd_cell (E := eB) (H.out.below hb) rfl hx
        obtain ⟨x0, x1, x2⟩ := bro_cells (show World.rangeAt _ b (o + k * 3) (eB.c x) from hcs)
        have HXM : Hid (x ∈ L) := Lib.hid (List.mem_of_getElem? hx)
        have HXX := Lib.hid hx
        clear hx hcs
        go_upto_if 29 with (go_at_call 4; refine (HHV.out x HXM.out _ hb).mono ?_; rintro e w1 ⟨r, rfl, hsh, hb1⟩)
        have hbw1 := b_tr hb hb1
        cases r
        case true =>
          go_wp2
          go_ret
          exact ⟨rfl, hbw1⟩
        case false =>
          have HSH := Lib.hid (hsh rfl)
          replace x0 := b_cell hb1 x0
          replace x1 := b_cell hb1 x1
          replace x2 := b_cell hb1 x2
          clear hsh hb1
          go_upto_region 7 with (go_at_call 5; refine (HBY.out x HXM.out HSH.out _ hbw1).mono ?_; rintro e w2 ⟨v2, xs, n, rfl, ho2, hb2, hd⟩)
          have hbw2 := b_tr hbw1 hb2
          rcases hd with ⟨hrm, rfl, hxs⟩ | ⟨_, rfl, _⟩
          case inr =>
            clear ho2 hb2
            go_wp2_with (go_at_call 6; refine (num_any _ _).mono ?_; rintro e w3 ⟨rfl, rfl⟩)
            go_roundw
            case rel => exact ⟨k + 1, by go_num, hbw2, Lib.hid (fun j y hj hy => by
              by_cases e : j = k
              · subst e
                have := HXX.out
                rw [hy] at this
                injection this with this
                subst this
                exact HSH.out
              · exact HS.out j y (by omega) hy)⟩
            case measure => simp [intOf]; omega
          case inl =>
            have HRM := Lib.hid hrm
            have HXS := Lib.hid hxs
            have hxl : xs.length ≤ 40004 := by rw [hxs]; exact all3_len hrm
            have HO2 := Lib.hid ho2
            have HR2 := Lib.hid ho2.rd
            obtain ⟨va, vc, rfl, _, hvm⟩ := ho2.rd.form
            have hvc : vc ≤ 9223372036854775807 := by unfold maxLen at hvm; omega
            have hbb2 := Lib.hid hb2
            clear hrm hxs ho2 hb2 hvm
            go_upto_region 8 with (go_at_call 6; refine (num_any _ _).mono ?_; rintro e w3 ⟨rfl, rfl⟩)
            go_wp2
            go_loopw [6] (fun i wr => ∃ j : Nat, i = .int .i64 j ∧ Below w2.heap.size w2 wr) (fun i _ => xs.length - (intOf i).toNat)
            case atStart => exact ⟨0, rfl, Below.refl _ _⟩
            case round =>
              obtain ⟨j, rfl, hb3⟩ := hrel
              by_cases hj : j < xs.length
              · have hj' : (j : Int) < (xs.length : Int) := by omega
                have HCP := Lib.hid (CopyBytes_any wr (.slice va xs.length vc) xs w2.heap.size (HR2.out.below hb3) hb3.size (by omega))
                go_upto_region 12 with (go_at_call 7; refine HCP.out.mono ?_; rintro e w4 ⟨v4, rfl, ho4, hb4⟩)
                clear HCP
                obtain ⟨ao4, cap4, rfl, _, hm4⟩ := (Rd.of_own ho4).form
                obtain ⟨b4, o4, u4, rfl, _, hu4, hcell4⟩ := (Rd.of_own ho4).at_ (k := j) (by omega)
                obtain ⟨g, hg, hBg⟩ : ∃ g, (⟨b4, o4, none⟩ : Addr) = ⟨g, 0, none⟩ ∧ wr.heap.size ≤ g := by
                  rcases ho4.2 with ⟨h', _⟩ | ⟨g, cap', cur, hv, hBg, _⟩
                  · cases h'
                  · injection hv with hv
                    injection hv with hv
                    exact ⟨g, hv, hBg⟩
                injection hg with hg1 hg2
                subst hg1 hg2
                rw [u8s_at xs j hj] at hu4
                injection hu4 with hu4
                subst hu4
                rw [Nat.zero_add] at hcell4
                have hfr := ho4.frozenAt j
                obtain ⟨z, hz⟩ : ∃ z, z = xs[j] := ⟨_, rfl⟩
                rw [← hz] at hcell4
                have HO4 := Lib.hid ho4
                have hcc4 : cap4 ≤ 9223372036854775807 := by unfold maxLen at hm4; omega
                clear ho4 hz hm4
                go_upto_region 13 with fail
                obtain ⟨y, hy⟩ := xor_any z (1 + ((k : Int) + (j : Int)) % 255) (by omega) (by omega)
                rw [hy]
                obtain ⟨X, hX⟩ : ∃ X, xs.set j y = X := ⟨_, rfl⟩
                have hXl : X.length = xs.length := by rw [← hX]; simp
                obtain ⟨w5, hw5⟩ : ∃ w5, w4.setCell ⟨b4, j, none⟩ (.int .u8 (y.toNat : Int)) = w5 := ⟨_, rfl⟩
                have ho5 : OwnU w5 wr.heap.size (.slice (some ⟨b4, 0, none⟩) xs.length cap4) X := OwnU.to (by rw [← hw5]; exact (HO4.out.stored j _).1) hXl.symm (by rw [u8s_set, hX])
                have hb5 : Below wr.heap.size wr w5 := by rw [← hw5]; exact hb4.setCell hBg _
                have hbw3 := b_tr hbw2 hb3
                have HPA := Lib.hid (Parse_any w5 _ X ho5.rd (by omega) (HE.out.below (b_tr hbw3 hb5)))
                have HO5 := Lib.hid ho5
                have HXL := Lib.hid hXl
                rw [hw5]
                clear hy hX hw5 ho5 hb4 hcell4 hfr HO4 hXl
                go_upto_region 14 with (go_at_call 8; refine HPA.out.mono ?_; rintro e w6 ⟨lv, sv, kv, n, R, yb, rfl, hb6, hbr, hsh, hd⟩; obtain ⟨yla, ylc, rfl, _, _⟩ := hbr.l.form; obtain ⟨ysa, ysc, rfl, _, _⟩ := hbr.s.form; obtain ⟨yka, ykc, rfl, _, _⟩ := hbr.k.form)
                clear HPA
                obtain ⟨wa, hwa⟩ : ∃ wa, w6.alloc (.cells #[.slice yla yb.L.length ylc, .slice ysa R.length ysc, .slice yka yb.K.length ykc] 28) = wa := ⟨_, rfl⟩
                have hb7 : Below w6.heap.size w6 wa := by rw [← hwa]; exact (Below.refl _ _).alloc (Nat.le_refl _) _
                have hW : Whole wa w6.heap.size 28 [.slice yla yb.L.length ylc, .slice ysa R.length ysc, .slice yka yb.K.length ykc] := by rw [← hwa]; exact Whole.new w6 28 _
                obtain ⟨c0, c1, c2, _, _, _⟩ := hW.three
                have hb57 : Below w5.heap.size w5 wa := b_tr hb6 hb7
                have hbr2 := (hbr.below hb7).more hb7.size
                rw [hwa]
                have hbw7 := b_tr (b_tr hbw3 hb5) hb57
                have hb27 := b_tr (b_tr hb3 hb5) hb57
                rcases hd with ⟨rfl, hrm, hX⟩ | ⟨rfl, _⟩
                case inr =>
                  clear hb6 hbr hsh hwa hb7 hW c0 c1 c2 hb57 hbr2
                  go_wp2_with (go_at_call 6; refine (num_any _ _).mono ?_; rintro e w3 ⟨rfl, rfl⟩)
                  go_roundw
                  case rel => exact ⟨j + 1 + xs.length / 30, by go_num, hb27⟩
                  case measure => simp [intOf]; omega
                case inl =>
                  have HBP : Hid (Calls Tryd.prog 5 #[.agg #[.slice yla yb.L.length ylc, .slice ysa R.length ysc, .slice yka yb.K.length ykc]] wa fun e w' => ∃ v, e = .returned (.tuple #[v, .int .i64 0]) ∧ OwnU w' wa.heap.size v X ∧ Below wa.heap.size wa w') :=
                    Lib.hid ((Bytes_put wa _ _ _ R yb hbr2 hsh (HE.out.below hbw7)).mono fun e w' ⟨v, c, m, he, ho, hbb, hdd⟩ => by
                      rcases hdd with ⟨_, rfl, rfl⟩ | ⟨hno, _⟩
                      · exact ⟨v, he, hX ▸ ho, hbb⟩
                      · exact absurd hrm hno)
                  have HEB : Hid (∀ wx v, Rd wx wx.heap.size 1 v X.length (u8s X) → Below w5.heap.size w5 wx → Calls Tryd.prog 9 #[v, .slice (some ⟨b4, 0, none⟩) xs.length cap4] wx fun e w' => e = .returned (.bool true) ∧ Below wx.heap.size wx w') :=
                    Lib.hid (fun wx v hv hw => (EqBytes_any wx v _ X X _ _ hv (HO5.out.rd.below hw)).mono fun e w' ⟨he, hbb⟩ => ⟨by rw [he, decide_eq_true rfl], hbb⟩)
                  clear hb6 hbr hsh hwa hb7 hW hbr2 hX hrm
                  go_wp2_with first
                    | (go_at_call 6; refine (num_any _ _).mono ?_; rintro e w3 ⟨rfl, rfl⟩)
                    | (go_at_call 5; refine HBP.out.mono ?_; rintro e w8 ⟨v8, rfl, ho8, hb8⟩)
                    | (go_at_call 9; refine (HEB.out _ _ ho8.rd (b_tr hb57 hb8)).mono ?_; rintro e w9 ⟨rfl, hb9⟩)
                  go_roundw
                  case rel => exact ⟨j + 1 + xs.length / 30, by go_num, b_tr (b_tr hb27 hb8) hb9⟩
                  case measure => simp [intOf]; omega
              · have hj' : ¬ ((j : Int) < (xs.length : Int)) := by omega
                go_wp2
                go_loopw [12] (fun i wz => ∃ m : Nat, i = .int .i64 m ∧ m ≤ k ∧ Below w2.heap.size w2 wz) (fun i _ => k - (intOf i).toNat)
                case atStart => exact ⟨0, rfl, by omega, hb3⟩
                case round =>
                  clear hb3
                  obtain ⟨m, rfl, hmk, hb4⟩ := hrel
                  by_cases hm : m < k
                  · have hm2 : (m : Int) < (k : Int) := by omega
                    have hml : m < L.length := by omega
                    have hml2 : (m : Int) < (L.length : Int) := by omega
                    obtain ⟨y, hy⟩ : ∃ y, L[m]? = some y := ⟨_, List.getElem?_eq_getElem hml⟩
                    have hbw4 := b_tr hbw2 hb4
                    obtain ⟨b', o', e', _, hcs⟩ := Enc.rd_cell (E := eB) (H.out.below hbw4) rfl hy
                    injection e' with e'
                    injection e' with e1 e2
                    subst e1 e2
                    obtain ⟨y0, y1, y2⟩ := bro_cells (show World.rangeAt _ b (o + m * 3) (eB.c y) from hcs)
                    have HYM : Hid (y ∈ L) := Lib.hid (List.mem_of_getElem? hy)
                    have HSY := Lib.hid (HS.out m y hm hy)
                    clear hy hcs
                    go_upto_region 22 with (go_at_call 5; refine (HBY.out y HYM.out HSY.out _ hbw4).mono ?_; rintro e w5 ⟨v5, c, n, rfl, ho5, hb5, hd⟩)
                    have z0 := b_cell hb5 y0
                    have z1 := b_cell hb5 y1
                    have z2 := b_cell hb5 y2
                    have hb25 := b_tr hb4 hb5
                    have hbw5 := b_tr hbw4 hb5
                    have u0 := b_cell hb25 (b_cell hbb2.out x0)
                    have u1 := b_cell hb25 (b_cell hbb2.out x1)
                    have u2 := b_cell hb25 (b_cell hbb2.out x2)
                    rcases hd with ⟨hrm, rfl, hc⟩ | ⟨_, rfl, _⟩
                    case inr =>
                      clear ho5
                      refine wp_region_held_drew (S := fun wx => wx.cell? ⟨b, o + k * 3, none⟩ = some (.slice x.la x.b.L.length x.lc) ∧ wx.cell? ⟨b, o + k * 3 + 1, none⟩ = some (.slice x.sa x.R.length x.sc) ∧ wx.cell? ⟨b, o + k * 3 + 2, none⟩ = some (.slice x.ka x.b.K.length x.kc) ∧ wx.cell? ⟨b, o + m * 3, none⟩ = some (.slice y.la y.b.L.length y.lc) ∧ wx.cell? ⟨b, o + m * 3 + 1, none⟩ = some (.slice y.sa y.R.length y.sc) ∧ wx.cell? ⟨b, o + m * 3 + 2, none⟩ = some (.slice y.ka y.b.K.length y.kc)) (by kernel_rfl) ⟨u0, u1, u2, z0, z1, z2⟩ (fun hHeld => ?_)
                      refine tk 0 (by assumption) ?_
                      (try simp only [Act.put, List.setIfInBounds_toArray, List.set_cons_zero, List.set_cons_succ])
                      refine wpAnyH_ready (rs := [1]) (by kernel_rfl) (by simp) ?_
                      refine call_h 1 ⟨?_, ?_, fun K hK => ?_⟩
                      rotate_left 1
                      · (simp only [List.getElem?_toArray, List.getElem?_cons_succ, List.getElem?_cons_zero]; exact rfl)
                      go_simp
                      (go_at_call 6; refine (num_any _ _).mono ?_; rintro e w3 ⟨rfl, rfl⟩)
                      go_wp2_with fail
                      refine hK.out _ _ hHeld (fun hHeld => ?_)
                      clear hK K
                      (try simp only [Act.put, List.setIfInBounds_toArray, List.set_cons_zero, List.set_cons_succ])
                      refine tk 2 (by assumption) ?_
                      (try simp only [Act.put, List.setIfInBounds_toArray, List.set_cons_zero, List.set_cons_succ])
                      refine tk 3 (by assumption) ?_
                      (try simp only [Act.put, List.setIfInBounds_toArray, List.set_cons_zero, List.set_cons_succ])
                      refine tk 4 (by assumption) ?_
                      (try simp only [Act.put, List.setIfInBounds_toArray, List.set_cons_zero, List.set_cons_succ])
                      refine tk 5 (by assumption) ?_
                      (try simp only [Act.put, List.setIfInBounds_toArray, List.set_cons_zero, List.set_cons_succ])
                      refine tk 6 (by assumption) ?_
                      (try simp only [Act.put, List.setIfInBounds_toArray, List.set_cons_zero, List.set_cons_succ])
                      refine tk 7 (by assumption) ?_
                      (try simp only [Act.put, List.setIfInBounds_toArray, List.set_cons_zero, List.set_cons_succ])
                      refine tk 8 (by assumption) ?_
                      (try simp only [Act.put, List.setIfInBounds_toArray, List.set_cons_zero, List.set_cons_succ])
                      refine tk 9 (by assumption) ?_
                      (try simp only [Act.put, List.setIfInBounds_toArray, List.set_cons_zero, List.set_cons_succ])
                      refine tk 10 (by assumption) ?_
                      (try simp only [Act.put, List.setIfInBounds_toArray, List.set_cons_zero, List.set_cons_succ])
                      refine tk 11 (by assumption) ?_
                      (try simp only [Act.put, List.setIfInBounds_toArray, List.set_cons_zero, List.set_cons_succ])
                      refine tk 12 (by assumption) ?_
                      (try simp only [Act.put, List.setIfInBounds_toArray, List.set_cons_zero, List.set_cons_succ])
                      refine tk 13 (by assumption) ?_
                      (try simp only [Act.put, List.setIfInBounds_toArray, List.set_cons_zero, List.set_cons_succ])
                      refine tk 14 (by assumption) ?_
                      (try simp only [Act.put, List.setIfInBounds_toArray, List.set_cons_zero, List.set_cons_succ])
                      refine tk 15 (by assumption) ?_
                      (try simp only [Act.put, List.setIfInBounds_toArray, List.set_cons_zero, List.set_cons_succ])
                      refine tk 16 (by assumption) ?_
                      (try simp only [Act.put, List.setIfInBounds_toArray, List.set_cons_zero, List.set_cons_succ])
                      refine tk 17 (by assumption) ?_
                      (try simp only [Act.put, List.setIfInBounds_toArray, List.set_cons_zero, List.set_cons_succ])
                      refine wpAnyH_done (by kernel_rfl) ?_ _
                      clear hHeld
                      go_wp2
                      go_roundw
                      case rel => exact ⟨m + 1, by go_num, by omega, hb25.drew⟩
                      case measure => simp [intOf]; omega
                    case inl =>
                      obtain ⟨q, hq⟩ : ∃ q, yes (x.b = y.b) = q := ⟨_, rfl⟩
                      have hq2 : decide (xs = c) = q := by
                        rw [← hq, HXS.out, hc]
                        by_cases e : x.b = y.b
                        · rw [yes_true e, e, decide_eq_true rfl]
                        · rw [yes_false e, decide_eq_false (fun h => e (all3_inj HRM.out hrm h))]
                      have HQB := Lib.hid (fun wx (hx : Below w.heap.size w wx) => HEQ.out x HXM.out y HYM.out wx hx)
                      have HQY := Lib.hid (fun wx (hx : Below w5.heap.size w5 wx) => EqBytes_any wx _ _ xs c _ _ (HR2.out.below (b_tr hb25 hx)) (ho5.rd.below hx))
                      rw [hq] at HQB
                      rw [hq2] at HQY
                      obtain ⟨v5a, v5c, rfl, _, _⟩ := ho5.rd.form
                      have hdr := (Below.refl w5.heap.size w5).drew
                      clear ho5 hq hq2 hc hrm
                      refine wp_region_held_drew (S := fun wx => wx.cell? ⟨b, o + k * 3, none⟩ = some (.slice x.la x.b.L.length x.lc) ∧ wx.cell? ⟨b, o + k * 3 + 1, none⟩ = some (.slice x.sa x.R.length x.sc) ∧ wx.cell? ⟨b, o + k * 3 + 2, none⟩ = some (.slice x.ka x.b.K.length x.kc) ∧ wx.cell? ⟨b, o + m * 3, none⟩ = some (.slice y.la y.b.L.length y.lc) ∧ wx.cell? ⟨b, o + m * 3 + 1, none⟩ = some (.slice y.sa y.R.length y.sc) ∧ wx.cell? ⟨b, o + m * 3 + 2, none⟩ = some (.slice y.ka y.b.K.length y.kc)) (by kernel_rfl) ⟨u0, u1, u2, z0, z1, z2⟩ (fun hHeld => ?_)
                      refine tk 0 (by assumption) ?_
                      (try simp only [Act.put, List.setIfInBounds_toArray, List.set_cons_zero, List.set_cons_succ])
                      refine wpAnyH_ready (rs := [1]) (by kernel_rfl) (by simp) ?_
                      refine call_h 1 ⟨?_, ?_, fun K hK => ?_⟩
                      rotate_left 1
                      · (simp only [List.getElem?_toArray, List.getElem?_cons_succ, List.getElem?_cons_zero]; exact rfl)
                      go_simp
                      (go_at_call 6; refine (num_any _ _).mono ?_; rintro e w3 ⟨rfl, rfl⟩)
                      go_wp2_with fail
                      refine hK.out _ _ hHeld (fun hHeld => ?_)
                      clear hK K
                      (try simp only [Act.put, List.setIfInBounds_toArray, List.set_cons_zero, List.set_cons_succ])
                      refine tk 2 (by assumption) ?_
                      (try simp only [Act.put, List.setIfInBounds_toArray, List.set_cons_zero, List.set_cons_succ])
                      refine tk 3 (by assumption) ?_
                      (try simp only [Act.put, List.setIfInBounds_toArray, List.set_cons_zero, List.set_cons_succ])
                      refine tk 4 (by assumption) ?_
                      (try simp only [Act.put, List.setIfInBounds_toArray, List.set_cons_zero, List.set_cons_succ])
                      refine tk 5 (by assumption) ?_
                      (try simp only [Act.put, List.setIfInBounds_toArray, List.set_cons_zero, List.set_cons_succ])
                      refine tk 7 (by assumption) ?_
                      (try simp only [Act.put, List.setIfInBounds_toArray, List.set_cons_zero, List.set_cons_succ])
                      refine tk 8 (by assumption) ?_
                      (try simp only [Act.put, List.setIfInBounds_toArray, List.set_cons_zero, List.set_cons_succ])
                      refine tk 9 (by assumption) ?_
                      (try simp only [Act.put, List.setIfInBounds_toArray, List.set_cons_zero, List.set_cons_succ])
                      refine tk 10 (by assumption) ?_
                      (try simp only [Act.put, List.setIfInBounds_toArray, List.set_cons_zero, List.set_cons_succ])
                      refine tk 11 (by assumption) ?_
                      (try simp only [Act.put, List.setIfInBounds_toArray, List.set_cons_zero, List.set_cons_succ])
                      refine tk 12 (by assumption) ?_
                      (try simp only [Act.put, List.setIfInBounds_toArray, List.set_cons_zero, List.set_cons_succ])
                      refine tk 13 (by assumption) ?_
                      (try simp only [Act.put, List.setIfInBounds_toArray, List.set_cons_zero, List.set_cons_succ])
                      refine tk 14 (by assumption) ?_
                      (try simp only [Act.put, List.setIfInBounds_toArray, List.set_cons_zero, List.set_cons_succ])
                      refine wpAnyH_ready (rs := [6]) (by kernel_rfl) (by simp) ?_
                      refine call_h 6 ⟨?_, ?_, fun K hK => ?_⟩
                      rotate_left 1
                      · (simp only [List.getElem?_toArray, List.getElem?_cons_succ, List.getElem?_cons_zero]; exact rfl)
                      go_simp
                      (go_at_call 9; refine (HQY.out _ hdr).mono ?_; rintro e w6 ⟨rfl, hb6⟩)
                      go_wp2_with fail
                      have hb56 := b_tr hdr hb6
                      refine hK.out _ _ ⟨b_cell hb56 u0, b_cell hb56 u1, b_cell hb56 u2, b_cell hb56 z0, b_cell hb56 z1, b_cell hb56 z2⟩ (fun hHeld => ?_)
                      clear hK K
                      (try simp only [Act.put, List.setIfInBounds_toArray, List.set_cons_zero, List.set_cons_succ])
                      refine wpAnyH_ready (rs := [15]) (by kernel_rfl) (by simp) ?_
                      refine call_h 15 ⟨?_, ?_, fun K hK => ?_⟩
                      rotate_left 1
                      · (simp only [List.getElem?_toArray, List.getElem?_cons_succ, List.getElem?_cons_zero]; exact rfl)
                      go_simp
                      (go_at_call 10; refine (HQB.out _ (b_tr hbw5 hb56)).mono ?_; rintro e w7 ⟨rfl, hb7⟩)
                      go_wp2_with fail
                      have hb57 := b_tr hb56 hb7
                      refine hK.out _ _ ⟨b_cell hb57 u0, b_cell hb57 u1, b_cell hb57 u2, b_cell hb57 z0, b_cell hb57 z1, b_cell hb57 z2⟩ (fun hHeld => ?_)
                      clear hK K
                      (try simp only [Act.put, List.setIfInBounds_toArray, List.set_cons_zero, List.set_cons_succ])
                      refine tk 16 (by assumption) ?_
                      (try simp only [Act.put, List.setIfInBounds_toArray, List.set_cons_zero, List.set_cons_succ])
                      refine tk 17 (by assumption) ?_
                      (try simp only [Act.put, List.setIfInBounds_toArray, List.set_cons_zero, List.set_cons_succ])
                      refine wpAnyH_done (by kernel_rfl) ?_ _
                      clear hHeld
                      go_wp2
                      go_roundw
                      case rel => exact ⟨m + 1, by go_num, by omega, b_tr hb25 hb57⟩
                      case measure => simp [intOf]; omega
                  · have hm2 : ¬ ((m : Int) < (k : Int)) := by omega
                    go_wp2
                    go_roundw
                    case rel => exact ⟨k + 1, by go_num, b_tr hbw2 hb4, Lib.hid (fun j y hj hy => by
                      by_cases e : j = k
                      · subst e
                        have := HXX.out
                        rw [hy] at this
                        injection this with this
                        subst this
                        exact HSH.out
                      · exact HS.out j y (by omega) hy)⟩
                    case measure => simp [intOf]; omega
      · go_wp2_with first | (go_at_call 11; refine (Links_nil _).mono ?_; rintro e w1 ⟨rfl, hb1⟩) | (go_at_call 12; refine (rwakes_any _).mono ?_; rintro e w2 ⟨rfl, hb2⟩)
        go_ret
        exact ⟨rfl, b_tr (b_tr hb hb1) hb2⟩
    · have hlt' : ¬ ((k : Int) < (L.length : Int)) := by omega
      go_wp2_with first | (go_at_call 11; refine (Links_nil _).mono ?_; rintro e w1 ⟨rfl, hb1⟩) | (go_at_call 12; refine (rwakes_any _).mono ?_; rintro e w2 ⟨rfl, hb2⟩)
      go_ret
      exact ⟨rfl, b_tr (b_tr hb hb1) hb2⟩
end Go.Proofs.YtlehkaibbkblkaaDoor
