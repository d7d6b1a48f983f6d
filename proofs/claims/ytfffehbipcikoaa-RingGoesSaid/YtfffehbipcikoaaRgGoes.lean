/- RingGoes: what is added is popped, what is pushed is used. -/


import Derived.Test.YtfffehbipcikoaaRgRound
import Derived.Test.YtfffehbipcikoaaRgArg2
import Derived.Test.YtfffehbipcikoaaRgBufs
import Derived.Test.YtfffehbipcikoaaRgGRow
import Derived.Outline
import Derived.Deep.CutBlock
namespace Go.Proofs.Ytfffehbipcikoaa
open Go.RowKit

theorem wsum_nn {L : List Buf} (h : bufsB L = true) : 0 ≤ wsum L := by
  have hc : chainOk false L = true := by simp [bufsB] at h; exact h.2
  revert hc
  generalize false = after
  clear h
  intro hc
  induction L generalizing after with
  | nil => simp [wsum]
  | cons b r ih =>
    simp [chainOk] at hc
    have hb : bufB b = true := by have := hc.1; simp [pieceB] at this; exact this.1
    have := ih _ hc.2
    simp [bufB] at hb
    simp only [wsum]
    split <;> omega
theorem RigP.wsum_nn {w : World} {s : Spot} {q : Nat} {f : Fl} {want : List Fl} {out : List (Fl × Nat)} {free : Nat} (h : RigP w s q f want out free) : 0 ≤ wsum f.L := by
  obtain ⟨B, bz, wy, ls, wrt, rdD, wrV, rdV, h1, h2, _⟩ := h
  exact Go.Proofs.Ytfffehbipcikoaa.wsum_nn (h2.held.ok f (by simp)).1
theorem RigG.fresh' {w : World} {s : Spot} {q : Nat} {want : List Fl} {out : List (Fl × Nat)} {free : Nat} (h : RigG w s q want out free) : ∀ k, w.heap.size ≤ k → NoRow w s.bw k := fun _ hk => h.fresh hk
theorem way_blocks {w : World} : ∀ {W : List (Int × Value)} {wy : List (Int × List Nat)}, WayAt w W wy → ∀ p ∈ W, ∀ k, p.2.ownBlock = some k → k < w.heap.size
  | [], _, _, p, hp => by simp at hp
  | a :: W, [], hA, _, _ => absurd hA (by simp [WayAt])
  | a :: W, b :: wy, ⟨_, h2, h3⟩, p, hp => by
    intro k hk
    rcases List.mem_cons.1 hp with rfl | hp
    · exact (World.ownsRow.lt h2 k hk).2
    · exact way_blocks h3 p hp k hk
theorem RigP.fresh' {w : World} {s : Spot} {q : Nat} {f : Fl} {want : List Fl} {out : List (Fl × Nat)} {free : Nat} (h : RigP w s q f want out free) : ∀ k, w.heap.size ≤ k → NoRow w s.bw k := by
  obtain ⟨B, bz, wy, ls, wrt, rdD, wrV, rdV, h1, h2, _⟩ := h
  intro k hk W' hW' p hp e
  obtain ⟨W, hW, hA⟩ := h1.drv.way
  rw [imap_uniq hW' hW] at hp
  have := way_blocks hA p hp k e
  omega
theorem act2_get {w : World} {Bd : Nat} {ao : Option Addr} {n cap : Nat} {acts : List Act2} (h : ActsAt2 w Bd (.slice ao n cap) acts) {i : Nat} {a : Act2} (ha : acts[i]? = some a) : ∃ b o, ao = some ⟨b, o, none⟩ ∧ ActAt2 w Bd b (o + i * 5) a := by
  obtain ⟨ao', cap', e, _, _, h4⟩ := h
  injection e with e1 _ _
  subst e1
  exact h4 i a ha
theorem RigG.count {w : World} {s : Spot} {q : Nat} {want : List Fl} {out : List (Fl × Nat)} {free : Nat} (h : RigG w s q want out free) : want.length + out.length ≤ 64 := by
  obtain ⟨B, bz, wy, ls, wrt, rdD, wrV, rdV, h1, h2, _⟩ := h
  have := h2.room
  have := h2.q_range
  omega
theorem RigP.count {w : World} {s : Spot} {q : Nat} {f : Fl} {want : List Fl} {out : List (Fl × Nat)} {free : Nat} (h : RigP w s q f want out free) : want.length + 1 + out.length ≤ 64 := by
  obtain ⟨B, bz, wy, ls, wrt, rdD, wrV, rdV, h1, h2, _⟩ := h
  have h4 := h2.q_range
  have h3 := h2.room
  simp at h3
  omega
theorem two_new (w : World) (x y : Value) (t : TypeId) : ∀ j u, [x, y][j]? = some u → (w.alloc (.cells #[x, y] t)).cell? ((⟨w.heap.size, 0, none⟩ : Addr).add j) = some u := by
  intro j u hj
  rw [add_flat]
  have hc := (Whole.new w t [x, y]).cell (0 + j)
  simp only [Nat.zero_add] at hc ⊢
  exact hc.trans hj
theorem wants_cut {w : World} {base g o cap : Nat} {f : Fl} {want : List Fl} (h : Wants w base (.slice (some ⟨g, o, none⟩) (want.length + 1) cap) (f :: want)) :
    (1 < cap → Wants w base (.slice (some ⟨g, o + 1, none⟩) want.length (cap - 1)) want) ∧ (cap = 1 → Wants w base (.slice (some ⟨g, o, none⟩) want.length 0) want) := by
  obtain ⟨g', o', cap', x, e, _, _, _, _, h1, h2⟩ := h.first
  injection e with e1 _ e3
  injection e1 with e1
  injection e1 with e1 e2
  subst e1 e2 e3
  exact ⟨h1, h2⟩
theorem heads_cut {w : World} {base g o cap : Nat} {f : Fl} {want : List Fl} (h : Heads w base (.slice (some ⟨g, o, none⟩) (want.length + 1) cap) (f :: want)) :
    (1 < cap → Heads w base (.slice (some ⟨g, o + 1, none⟩) want.length (cap - 1)) want) ∧ (cap = 1 → Heads w base (.slice (some ⟨g, o, none⟩) want.length 0) want) := by
  obtain ⟨g', o', cap', e, _, _, _, h1, h2⟩ := h.first
  injection e with e1 _ e3
  injection e1 with e1
  injection e1 with e1 e2
  subst e1 e2 e3
  exact ⟨h1, h2⟩
theorem outs_cut {w : World} {base g o cap : Nat} {p : Fl × Nat} {out : List (Fl × Nat)} (h : Outs w base (.slice (some ⟨g, o, none⟩) (2 * out.length + 2) cap) (p :: out)) :
    (2 < cap → Outs w base (.slice (some ⟨g, o + 2, none⟩) (2 * out.length) (cap - 2)) out) ∧ (cap = 2 → Outs w base (.slice (some ⟨g, o, none⟩) (2 * out.length) 0) out) := by
  obtain ⟨g', o', cap', e, _, _, _, _, h1, h2⟩ := h.first
  injection e with e1 _ e3
  injection e1 with e1
  injection e1 with e1 e2
  subst e1 e2 e3
  exact ⟨h1, h2⟩
theorem info_bufs : (Try.prog.info? 75).map (fun i => (i.zero, i.size, i.bytes)) = some (some (.slice none 0 0), 1, 24) := by kernel_rfl
theorem fieldL (w : World) : (Instr.field 33 (.agg #[.int .i64 0, .slice none 0 0]) 1).run Try.prog w = .ok (.slice none 0 0) w := by kernel_rfl

set_option maxRecDepth 20000 in
set_option maxHeartbeats 8000000 in
theorem RingGoes_any (M N : Int) (lv : Value) (acts : List Act2) (w : World) (hacts : ActsAt2 w w.heap.size lv acts) (hsz : ∀ (i : Nat) (a : Act2), acts[i]? = some a → a.L.length * 24 ≤ reachBytes) :
    Calls Try.prog 7 #[.agg #[.int .i64 M, .int .i64 N, lv]] w fun e w' => e = .returned (.bool true) ∧ Below w.heap.size w w' := by
  obtain ⟨ao, cap, rfl, hc1, hc2, hA0⟩ := hacts
  have hb0 := (Below.refl w.heap.size w).alloc (Nat.le_refl _) (.cells #[.int .i64 M, .int .i64 N, .slice ao acts.length cap] 66)
  have c0 : (w.alloc (.cells #[.int .i64 M, .int .i64 N, .slice ao acts.length cap] 66)).cell? ⟨w.heap.size, 0, none⟩ = some (.int .i64 M) := by rw [(Whole.new w 66 [.int .i64 M, .int .i64 N, .slice ao acts.length cap]).cell]; rfl
  have c1 : (w.alloc (.cells #[.int .i64 M, .int .i64 N, .slice ao acts.length cap] 66)).cell? ⟨w.heap.size, 1, none⟩ = some (.int .i64 N) := by rw [(Whole.new w 66 [.int .i64 M, .int .i64 N, .slice ao acts.length cap]).cell]; rfl
  have c2 : (w.alloc (.cells #[.int .i64 M, .int .i64 N, .slice ao acts.length cap] 66)).cell? ⟨w.heap.size, 2, none⟩ = some (.slice ao acts.length cap) := by rw [(Whole.new w 66 [.int .i64 M, .int .i64 N, .slice ao acts.length cap]).cell]; rfl
  have HA : Hid (ActsAt2 (w.alloc (.cells #[.int .i64 M, .int .i64 N, .slice ao acts.length cap] 66)) w.heap.size (.slice ao acts.length cap) acts) := Lib.hid (ActsAt2.below ⟨ao, cap, rfl, hc1, hc2, hA0⟩ hb0)
  have HSZ := Lib.hid hsz
  have hwsz : (w.alloc (.cells #[.int .i64 M, .int .i64 N, .slice ao acts.length cap] 66)).heap.size = w.heap.size + 1 := by simp
  clear hA0 hsz
  go_enter Try.func7, Try.ntmps7
  go_wp2_with fail
  generalize w.alloc (.cells #[.int .i64 M, .int .i64 N, .slice ao acts.length cap] 66) = wa at hb0 c0 c1 c2 HA hwsz ⊢
  refine (heavy2_any wa M N (.slice ao acts.length cap) acts ?_ HSZ.out).mono ?_
  · obtain ⟨ao', cap', e1, e2, e3, e4⟩ := HA.out
    exact ⟨ao', cap', e1, e2, e3, fun i a ha => by
      obtain ⟨b, o, e, d0, d1, d2, lv, d3, d4, d5, d6, d7⟩ := e4 i a ha
      exact ⟨b, o, e, d0, d1, d2, lv, d3, d4, d5.more (by omega), by omega, d7⟩⟩
  rintro e wh ⟨bh, rfl, hlight, hbh⟩
  cases bh
  rotate_left 1
  · go_wp2
    go_ret
    exact ⟨rfl, hb0.trans (hbh.mono hb0.size)⟩
  have HLI := Lib.hid (hlight rfl)
  have k1 := cell_bel c1 hbh
  have k2 := cell_bel c2 hbh
  have HAh := Lib.hid (ActsAt2.below HA.out (hbh.mono (by omega)))
  have hbx := hb0.trans (hbh.mono hb0.size)
  have hwh : w.heap.size + 1 ≤ wh.heap.size := by have := hbh.size; omega
  clear hlight c0 c1 c2 HA hbh hb0
  have hwi := within_nn N 7 (by omega)
  have hwl := within_lt N 7 (by omega)
  obtain ⟨x, hx⟩ : ∃ x, within N 7 = x := ⟨_, rfl⟩
  rw [hx] at hwi hwl
  have HX := Lib.hid hx
  clear hx
  go_upto_region 3 with fail
  go_cut [3] (fun t wx => ∃ q : Nat, isQ (q : Nat) = true ∧ t = .int .i64 q ∧ wx = wh)
  case first =>
    have hxc : x = 0 ∨ x = 1 ∨ x = 2 ∨ x = 3 ∨ x = 4 ∨ x = 5 ∨ x = 6 := by omega
    rcases hxc with rfl | rfl | rfl | rfl | rfl | rfl | rfl
    all_goals
      go_wp2_with (go_at_call 21; refine (Within_any _ _ 7 (by omega) (by omega)).mono ?_; rintro e w' ⟨rfl, rfl⟩; rw [HX.out])
      go_meet
    · exact ⟨1, rfl, rfl, rfl⟩
    · exact ⟨2, rfl, rfl, rfl⟩
    · exact ⟨4, rfl, rfl, rfl⟩
    · exact ⟨8, rfl, rfl, rfl⟩
    · exact ⟨16, rfl, rfl, rfl⟩
    · exact ⟨32, rfl, rfl, rfl⟩
    · exact ⟨64, rfl, rfl, rfl⟩
  case rest =>
    obtain ⟨q, hq, rfl, hcw⟩ := hcut
    subst hcw
    have HQ := Lib.hid hq
    have hq12 : 1 ≤ q ∧ q ≤ 64 := by rcases q_cases hq with rfl | rfl | rfl | rfl | rfl | rfl | rfl <;> omega
    obtain ⟨hq1, hq2⟩ := hq12
    have hus := used_lo hq
    have HUS : Hid (sizeAt (q : Nat) ≤ ((65536 : Nat) : Int)) := Lib.hid (by unfold sizeAt; omega)
    clear hq hus HX hwi hwl
    go_wp2_with fail
    refine (New_ok 65536 wc (by omega)).mono ?_
    rintro e w1 ⟨rfl, hm, hb1⟩
    have HM := Lib.hid hm
    clear hm
    go_wp2_with fail
    refine (NewDriver_ok w1 _ _ q _ HQ.out HM.out (by rw [List.length_replicate]; exact HUS.out)).mono ?_
    rintro e w2 ⟨D, rfl, hb2, hD, bs, bw, bl, hbs, hbw, hbl, hDr⟩
    have HDr := Lib.hid hDr
    clear hDr
    go_wp2_with fail
    refine (NewDevice_ok w2 _ _ q _ HQ.out (HM.out.belowH hb2) (by rw [List.length_replicate]; exact HUS.out)).mono ?_
    rintro e w3 ⟨V, rfl, hb3, hV, hDev⟩
    have HR : Hid (RigG w3 ⟨D, bs, bw, bl, V, wc.heap.size + 1, wc.heap.size⟩ q [] [] q) := Lib.hid (rig_start (w0 := wc) (n := 65536) HQ.out HUS.out (by omega) HM.out hb2 hD hbs hbw hbl HDr.out hb3 hV hDev)
    have hz1 := hb1.size
    have hz2 := hb2.size
    have hz3 := hb3.size
    have hbr : Below wc.heap.size wc w3 := (hb1.trans (hb2.mono hz1)).trans (hb3.mono (by omega))
    obtain ⟨s, hs⟩ : ∃ s : Spot, s = ⟨D, bs, bw, bl, V, wc.heap.size + 1, wc.heap.size⟩ := ⟨_, rfl⟩
    rw [← hs] at HR
    have hsD : D = s.D := by rw [hs]
    have hsV : V = s.V := by rw [hs]
    subst hsD hsV
    have hm1 := (HM.out.belowH hb2).head.lt
    have hlow : (∀ k ∈ s.all, wc.heap.size ≤ k ∧ k < w3.heap.size) ∧ s.m < w3.heap.size := by
      refine ⟨fun k hk => ⟨?_, HR.out.lt k hk⟩, ?_⟩
      · rw [hs] at hk
        simp only [Spot.all, List.mem_cons, List.mem_nil_iff, or_false] at hk
        omega
      · rw [hs]
        simp only
        omega
    obtain ⟨base, hbase⟩ : ∃ base, w3.heap.size = base := ⟨_, rfl⟩
    rw [hbase] at hlow
    have HG : Hid (GRow wc w3 s base (.slice none 0 0) (.slice none 0 0) (.slice none 0 0) [] [] []) := Lib.hid ⟨⟨[], Row.nil_ _ _ _ _, fun j f x h => by simp at h⟩, Row.nil_ _ _ _ _, Row.nil_ _ _ _ _, fun k h => by simp [Value.ownBlock] at h, fun k h => by simp [Value.ownBlock] at h, fun k h => by simp [Value.ownBlock] at h, fun k h => by simp [Value.ownBlock] at h, hlow.1, hlow.2, hbr, Nat.le_of_eq hbase.symm⟩
    clear hs hlow HM HDr hDev hb1 hb2 hb3 hm1 hbr hbase
    go_wp2_with (first | (go_at_call 16; refine (num2_any _ _).mono ?_; rintro e w' ⟨rfl, rfl⟩) | (go_at_call 39; refine (RigG.free_any HR.out).mono ?_; rintro e w' ⟨rfl, rfl⟩))
    go_loopw [10, 11, 12, 13, 14, 15, 16, 17, 18, 19, 20, 21, 22, 23, 24, 25] (fun wv hv ov fr i _ _ _ _ _ _ _ _ _ _ _ wr => ∃ (k : Nat) (want : List Fl) (out : List (Fl × Nat)) (free : Nat), k ≤ acts.length ∧ k ≤ 40 ∧ i = .int .i64 k ∧ fr = .int .i64 free ∧ RigG wr s q want out free ∧ GRow wc wr s base wv hv ov want want out ∧ Hid (∀ p ∈ out, p.2 = 0)) (fun _ _ _ _ i _ _ _ _ _ _ _ _ _ _ _ _ => acts.length - (intOf i).toNat)
    case atStart => exact ⟨0, [], [], q, by omega, by omega, rfl, rfl, HR.out, HG.out, Lib.hid (fun p h => by simp at h)⟩
    case round => as_aux_lemma =>
      obtain ⟨k, want, out, free, hk, hk40, rfl, rfl, hR, hG, HZ⟩ := hrel
      have HRk := Lib.hid hR
      have HGk := Lib.hid hG
      have m2 := cell_bel k2 hG.bl
      have hbwr := hG.bw
      have hfr := hR.free_le
      have hbs := hG.b0
      clear hG hR
      by_cases hkn : k < acts.length
      · by_cases hk4 : k < 40
        · obtain ⟨a, ha⟩ : ∃ a, acts[k]? = some a := ⟨_, List.getElem?_eq_getElem hkn⟩
          obtain ⟨b, o, rfl, d0, d1, d2, alv, d3, d4, d5, d6, d7⟩ := act2_get (HAh.out.below (HGk.out.bl.mono (by omega))) ha
          have hLl := HLI.out.2 k a ha
          obtain ⟨lo, lc, rfl, hlc1, hlc2⟩ := d5.form
          have HD5 := Lib.hid d5
          have hlc3 : lc ≤ 9223372036854775807 := by unfold maxLen at hlc2; omega
          clear d5 d7 ha hlc2
          go_upto_region 16 with fail
          have hlA := (Left.refl [] wr).alloc (.cells #[.int .i64 a.dk, .int .i64 a.n, .int .i64 a.at_, .slice lo a.L.length lc, .int .u64 a.v] 77)
          have HRA := Lib.hid (HRk.out.left hlA)
          have HGA := Lib.hid (HGk.out.alloc HRk.out.bw_lt hlA)
          have HWA := Lib.hid (Whole.new wr 77 [.int .i64 a.dk, .int .i64 a.n, .int .i64 a.at_, .slice lo a.L.length lc, .int .u64 a.v])
          have HD5A : Hid (Rd (wr.alloc (.cells #[.int .i64 a.dk, .int .i64 a.n, .int .i64 a.at_, .slice lo a.L.length lc, .int .u64 a.v] 77)) w.heap.size 3 (.slice lo a.L.length lc) a.L.length (bufCells a.L)) := Lib.hid (HD5.out.below (hlA.belowB (by omega) (by simp)))
          have hzA : (wr.alloc (.cells #[.int .i64 a.dk, .int .i64 a.n, .int .i64 a.at_, .slice lo a.L.length lc, .int .u64 a.v] 77)).heap.size = wr.heap.size + 1 := by simp
          obtain ⟨gA, hgA⟩ : ∃ gA, wr.heap.size = gA := ⟨_, rfl⟩
          generalize wr.alloc (.cells #[.int .i64 a.dk, .int .i64 a.n, .int .i64 a.at_, .slice lo a.L.length lc, .int .u64 a.v] 77) = wA at HRA HGA HWA HD5A hzA ⊢
          rw [hgA] at HWA hzA hbwr ⊢
          have e0 : wA.cell? ⟨gA, 0, none⟩ = some (.int .i64 a.dk) := by rw [(show Whole wA gA 77 _ from HWA.out).cell]; rfl
          have e3 : wA.cell? ⟨gA, 3, none⟩ = some (.slice lo a.L.length lc) := by rw [(show Whole wA gA 77 _ from HWA.out).cell]; rfl
          clear hlA hgA d0 d1 d2 d3 d4 HRk HGk HD5 m2
          obtain ⟨y, hy⟩ : ∃ y, within a.dk 4 = y := ⟨_, rfl⟩
          have HY := Lib.hid hy
          have hy0 := within_nn a.dk 4 (by omega)
          have hy4 := within_lt a.dk 4 (by omega)
          rw [hy] at hy0 hy4
          clear hy
          go_upto_block 2 with (go_at_call 21; refine (Within_any _ _ 4 (by omega) (by omega)).mono ?_; rintro e w' ⟨rfl, rfl⟩; rw [HY.out])
          go_cut [10, 11, 12, 13, 16, 17, 18, 19, 20, 21, 22, 23, 24, 25] (fun wv hv ov fr _ _ _ _ _ _ _ _ _ _ wx => ∃ (want : List Fl) (out : List (Fl × Nat)) (free : Nat), fr = .int .i64 free ∧ RigG wx s q want out free ∧ GRow wc wx s base wv hv ov want want out ∧ Hid (∀ p ∈ out, p.2 = 0))
          case first =>
            by_cases hy1 : y = 1
            · as_aux_lemma =>
                subst hy1
                cases want with
                | nil =>
                  obtain ⟨wo, wcp, rfl, _, _⟩ : ∃ wo wcp, u10 = .slice wo 0 wcp ∧ 0 ≤ wcp ∧ wcp ≤ maxLen := by obtain ⟨ws, h1, _⟩ := HGA.out.rows; exact h1.form
                  go_wp2_with fail
                  refine (RigG.pop_none HRA.out).mono ?_
                  rintro e wp ⟨rfl, hlp⟩
                  have HRp := Lib.hid (HRA.out.left hlp)
                  have HGp := Lib.hid (HGA.out.alloc HRA.out.bw_lt hlp)
                  clear hlp
                  go_wp2_with (go_at_call 16; refine (num2_any _ _).mono ?_; rintro e w' ⟨rfl, rfl⟩)
                  go_meet
                  exact ⟨[], out, free, rfl, HRp.out, HGp.out, HZ⟩
                | cons f want =>
                  go_wp2_with fail
                  refine (RigG.pop HRA.out).mono ?_
                  rintro e wp ⟨pv, rfl, hpo, hRp, hlp, hfq, hno⟩
                  have HRp := Lib.hid hRp
                  have HGp := Lib.hid (HGA.out.ring hlp (fun k hk => hk) (fun k _ hk => hno k hk))
                  have HPO := Lib.hid hpo
                  obtain ⟨g1, o1, cp1, x1, rfl, hw1, hw2, q1, hx1, hcut1, hcut1'⟩ := HGp.out.rows.first
                  obtain ⟨g2, o2, cp2, rfl, hw3, hw4, q2, hcut2, hcut2'⟩ := HGp.out.heads.first
                  obtain ⟨po, pc, rfl, _, _⟩ := (Rd.of_own hpo).form
                  obtain ⟨xo, xc, rfl, hxc, hxm⟩ := (Rd.of_own hx1).form
                  have hw5 : cp1 ≤ 9223372036854775807 := by unfold maxLen at hw2; omega
                  have hw6 : cp2 ≤ 9223372036854775807 := by unfold maxLen at hw4; omega
                  have hxm2 : xc ≤ 9223372036854775807 := by unfold maxLen at hxm; omega
                  have HX1 := Lib.hid hx1
                  have HC1 := Lib.hid hcut1
                  have HC1' := Lib.hid hcut1'
                  have HC2 := Lib.hid hcut2
                  have HC2' := Lib.hid hcut2'
                  clear hpo hRp hlp hno hx1 hw2 hw4 hxm hcut1 hcut1' hcut2 hcut2'
                  go_wp2_with (go_at_call 16; refine (num2_any _ _).mono ?_; rintro e w' ⟨rfl, rfl⟩)
                  refine (EqBufs_any wp _ _ f.L f.L _ _ (Rd.of_own HPO.out) (Rd.of_own HX1.out) rfl).mono ?_
                  rintro e wq ⟨rfl, hlq⟩
                  have r1 := cell_left' q1 hlq (by simp)
                  have r2 := cell_left' q2 hlq (by simp)
                  have hcnt := HRp.out.count
                  have HRq := Lib.hid (HRp.out.left hlq)
                  have HGq := Lib.hid (HGp.out.alloc HRp.out.bw_lt hlq)
                  obtain ⟨oo, oc, rfl, hoc, hocm⟩ := (show Row wq base 3 1 u12 (2 * out.length) (outCells out) from HGq.out.outs).form
                  have hlB := (Left.refl [] wq).alloc (.cells #[.int .i64 (f.L.length : Nat), .int .i64 (f.h : Nat)] 3)
                  have HRB := Lib.hid (HRq.out.left hlB)
                  have HGB := Lib.hid (HGq.out.alloc HRq.out.bw_lt hlB)
                  have hbwq := HGB.out.bw
                  clear hlq hlB q1 q2 hocm
                  go_wp2_with (at_builtin; refine wpList_row _ rfl (.tmp 174) (.tmp 180) _ rfl base 3 (.int .i64 0) 1 8 Try.underlying22 info_int rfl (by omega) _ (2 * out.length) (outCells out) rfl HGB.out.outs ⟨wq.heap.size, 0, none⟩ 2 2 [.int .i64 (f.L.length : Nat), .int .i64 (f.h : Nat)] rfl rfl (two_new _ _ _ _) (by simp [Value.oneCell']) ?_ ?_ ?_ ?_)
                  · unfold maxLen; omega
                  · omega
                  · exact hbwq
                  intro v1 ws2 hrow1 hg1 hat1
                  have HG1 := Lib.hid (HGB.out.app_out (p := (f, 0)) HRB.out.fresh' hrow1 hg1 (by simpa using hat1))
                  have HR1 := Lib.hid (HRB.out.leftB (left_of_grown hg1) (HGB.out.side HGB.out.lt3 HGB.out.n3))
                  obtain ⟨oo1, oc1, rfl, hoc1, hocm1⟩ := hrow1.form
                  clear hrow1 hg1 hat1 hocm1
                  have h1w : (1 : Int) ≤ (want.length : Int) + 1 := by omega
                  go_upto_region 34 with fail
                  go_cut [10, 11] (fun a b wx => Wants ws2 base a want ∧ a.ownBlock = some g1 ∧ Heads ws2 base b want ∧ b.ownBlock = some g2 ∧ wx = ws2.drew)
                  case first =>
                    by_cases hcp1 : cp1 = 1
                    · subst hcp1
                      obtain rfl : want = [] := List.eq_nil_of_length_eq_zero (by omega)
                      by_cases hcp2 : cp2 = 1
                      · subst hcp2
                        refine wp_region_held_drew (S := fun _ => True) (by kernel_rfl) trivial (fun hHeld => ?_)
                        refine take_h 0 ⟨?_, ?_, ?_, by kernel_rfl, by kernel_rfl, by kernel_rfl, ?_, ?_, by assumption, ?_⟩
                        rotate_left 2
                        · (simp only [List.getElem?_toArray, List.getElem?_cons_zero]; exact rfl)
                        · exact fun _ _ _ h => h
                        · first
                            | (refine Or.inr ⟨by rfl, ?_⟩; exact rfl)
                            | (refine Or.inl ⟨by rfl, ?_⟩
                               intro w hSw
                               (try dsimp only at hSw)
                               (try go_split_ands)
                               go_simp
                               (first | done | with_reducible rfl))
                        try simp only [Act.put, List.setIfInBounds_toArray, List.set_cons_zero, List.set_cons_succ]
                        refine take_h 1 ⟨?_, ?_, ?_, by kernel_rfl, by kernel_rfl, by kernel_rfl, ?_, ?_, by assumption, ?_⟩
                        rotate_left 2
                        · (simp only [List.getElem?_toArray, List.getElem?_cons_succ, List.getElem?_cons_zero]; exact rfl)
                        · exact fun _ _ _ h => h
                        · first
                            | (refine Or.inr ⟨by rfl, ?_⟩; exact rfl)
                            | (refine Or.inl ⟨by rfl, ?_⟩
                               intro w hSw
                               (try dsimp only at hSw)
                               (try go_split_ands)
                               go_simp
                               (first | done | with_reducible rfl))
                        try simp only [Act.put, List.setIfInBounds_toArray, List.set_cons_zero, List.set_cons_succ]
                        refine take_h 2 ⟨?_, ?_, ?_, by kernel_rfl, by kernel_rfl, by kernel_rfl, ?_, ?_, by assumption, ?_⟩
                        rotate_left 2
                        · (simp only [List.getElem?_toArray, List.getElem?_cons_succ, List.getElem?_cons_zero]; exact rfl)
                        · exact fun _ _ _ h => h
                        · first
                            | (refine Or.inr ⟨by rfl, ?_⟩; exact rfl)
                            | (refine Or.inl ⟨by rfl, ?_⟩
                               intro w hSw
                               (try dsimp only at hSw)
                               (try go_split_ands)
                               go_simp
                               (first | done | with_reducible rfl))
                        try simp only [Act.put, List.setIfInBounds_toArray, List.set_cons_zero, List.set_cons_succ]
                        refine take_h 3 ⟨?_, ?_, ?_, by kernel_rfl, by kernel_rfl, by kernel_rfl, ?_, ?_, by assumption, ?_⟩
                        rotate_left 2
                        · (simp only [List.getElem?_toArray, List.getElem?_cons_succ, List.getElem?_cons_zero]; exact rfl)
                        · exact fun _ _ _ h => h
                        · first
                            | (refine Or.inr ⟨by rfl, ?_⟩; exact rfl)
                            | (refine Or.inl ⟨by rfl, ?_⟩
                               intro w hSw
                               (try dsimp only at hSw)
                               (try go_split_ands)
                               go_simp
                               (first | done | with_reducible rfl))
                        try simp only [Act.put, List.setIfInBounds_toArray, List.set_cons_zero, List.set_cons_succ]
                        refine take_h 4 ⟨?_, ?_, ?_, by kernel_rfl, by kernel_rfl, by kernel_rfl, ?_, ?_, by assumption, ?_⟩
                        rotate_left 2
                        · (simp only [List.getElem?_toArray, List.getElem?_cons_succ, List.getElem?_cons_zero]; exact rfl)
                        · exact fun _ _ _ h => h
                        · first
                            | (refine Or.inr ⟨by rfl, ?_⟩; exact rfl)
                            | (refine Or.inl ⟨by rfl, ?_⟩
                               intro w hSw
                               (try dsimp only at hSw)
                               (try go_split_ands)
                               go_simp
                               (first | done | with_reducible rfl))
                        try simp only [Act.put, List.setIfInBounds_toArray, List.set_cons_zero, List.set_cons_succ]
                        refine take_h 5 ⟨?_, ?_, ?_, by kernel_rfl, by kernel_rfl, by kernel_rfl, ?_, ?_, by assumption, ?_⟩
                        rotate_left 2
                        · (simp only [List.getElem?_toArray, List.getElem?_cons_succ, List.getElem?_cons_zero]; exact rfl)
                        · exact fun _ _ _ h => h
                        · first
                            | (refine Or.inr ⟨by rfl, ?_⟩; exact rfl)
                            | (refine Or.inl ⟨by rfl, ?_⟩
                               intro w hSw
                               (try dsimp only at hSw)
                               (try go_split_ands)
                               go_simp
                               (first | done | with_reducible rfl))
                        try simp only [Act.put, List.setIfInBounds_toArray, List.set_cons_zero, List.set_cons_succ]
                        refine wpAnyH_done (by kernel_rfl) ?_ _
                        clear hHeld
                        go_wp2
                        go_meet
                        exact ⟨(wants_cut HG1.out.rows).2 rfl, rfl, (heads_cut HG1.out.heads).2 rfl, rfl, rfl⟩
                      · have hcp2' : 1 < cp2 := by omega
                        refine wp_region_held_drew (S := fun _ => True) (by kernel_rfl) trivial (fun hHeld => ?_)
                        refine take_h 0 ⟨?_, ?_, ?_, by kernel_rfl, by kernel_rfl, by kernel_rfl, ?_, ?_, by assumption, ?_⟩
                        rotate_left 2
                        · (simp only [List.getElem?_toArray, List.getElem?_cons_zero]; exact rfl)
                        · exact fun _ _ _ h => h
                        · first
                            | (refine Or.inr ⟨by rfl, ?_⟩; exact rfl)
                            | (refine Or.inl ⟨by rfl, ?_⟩
                               intro w hSw
                               (try dsimp only at hSw)
                               (try go_split_ands)
                               go_simp
                               (first | done | with_reducible rfl))
                        try simp only [Act.put, List.setIfInBounds_toArray, List.set_cons_zero, List.set_cons_succ]
                        refine take_h 1 ⟨?_, ?_, ?_, by kernel_rfl, by kernel_rfl, by kernel_rfl, ?_, ?_, by assumption, ?_⟩
                        rotate_left 2
                        · (simp only [List.getElem?_toArray, List.getElem?_cons_succ, List.getElem?_cons_zero]; exact rfl)
                        · exact fun _ _ _ h => h
                        · first
                            | (refine Or.inr ⟨by rfl, ?_⟩; exact rfl)
                            | (refine Or.inl ⟨by rfl, ?_⟩
                               intro w hSw
                               (try dsimp only at hSw)
                               (try go_split_ands)
                               go_simp
                               (first | done | with_reducible rfl))
                        try simp only [Act.put, List.setIfInBounds_toArray, List.set_cons_zero, List.set_cons_succ]
                        refine take_h 2 ⟨?_, ?_, ?_, by kernel_rfl, by kernel_rfl, by kernel_rfl, ?_, ?_, by assumption, ?_⟩
                        rotate_left 2
                        · (simp only [List.getElem?_toArray, List.getElem?_cons_succ, List.getElem?_cons_zero]; exact rfl)
                        · exact fun _ _ _ h => h
                        · first
                            | (refine Or.inr ⟨by rfl, ?_⟩; exact rfl)
                            | (refine Or.inl ⟨by rfl, ?_⟩
                               intro w hSw
                               (try dsimp only at hSw)
                               (try go_split_ands)
                               go_simp
                               (first | done | with_reducible rfl))
                        try simp only [Act.put, List.setIfInBounds_toArray, List.set_cons_zero, List.set_cons_succ]
                        refine take_h 3 ⟨?_, ?_, ?_, by kernel_rfl, by kernel_rfl, by kernel_rfl, ?_, ?_, by assumption, ?_⟩
                        rotate_left 2
                        · (simp only [List.getElem?_toArray, List.getElem?_cons_succ, List.getElem?_cons_zero]; exact rfl)
                        · exact fun _ _ _ h => h
                        · first
                            | (refine Or.inr ⟨by rfl, ?_⟩; exact rfl)
                            | (refine Or.inl ⟨by rfl, ?_⟩
                               intro w hSw
                               (try dsimp only at hSw)
                               (try go_split_ands)
                               go_simp
                               (first | done | with_reducible rfl))
                        try simp only [Act.put, List.setIfInBounds_toArray, List.set_cons_zero, List.set_cons_succ]
                        refine take_h 4 ⟨?_, ?_, ?_, by kernel_rfl, by kernel_rfl, by kernel_rfl, ?_, ?_, by assumption, ?_⟩
                        rotate_left 2
                        · (simp only [List.getElem?_toArray, List.getElem?_cons_succ, List.getElem?_cons_zero]; exact rfl)
                        · exact fun _ _ _ h => h
                        · first
                            | (refine Or.inr ⟨by rfl, ?_⟩; exact rfl)
                            | (refine Or.inl ⟨by rfl, ?_⟩
                               intro w hSw
                               (try dsimp only at hSw)
                               (try go_split_ands)
                               go_simp
                               (first | done | with_reducible rfl))
                        try simp only [Act.put, List.setIfInBounds_toArray, List.set_cons_zero, List.set_cons_succ]
                        refine take_h 5 ⟨?_, ?_, ?_, by kernel_rfl, by kernel_rfl, by kernel_rfl, ?_, ?_, by assumption, ?_⟩
                        rotate_left 2
                        · (simp only [List.getElem?_toArray, List.getElem?_cons_succ, List.getElem?_cons_zero]; exact rfl)
                        · exact fun _ _ _ h => h
                        · first
                            | (refine Or.inr ⟨by rfl, ?_⟩; exact rfl)
                            | (refine Or.inl ⟨by rfl, ?_⟩
                               intro w hSw
                               (try dsimp only at hSw)
                               (try go_split_ands)
                               go_simp
                               (first | done | with_reducible rfl))
                        try simp only [Act.put, List.setIfInBounds_toArray, List.set_cons_zero, List.set_cons_succ]
                        refine wpAnyH_done (by kernel_rfl) ?_ _
                        clear hHeld
                        go_wp2
                        go_meet
                        exact ⟨(wants_cut HG1.out.rows).2 rfl, rfl, (heads_cut HG1.out.heads).1 hcp2', rfl, rfl⟩
                    · have hcp1' : 1 < cp1 := by omega
                      by_cases hcp2 : cp2 = 1
                      · subst hcp2
                        obtain rfl : want = [] := List.eq_nil_of_length_eq_zero (by omega)
                        refine wp_region_held_drew (S := fun _ => True) (by kernel_rfl) trivial (fun hHeld => ?_)
                        refine take_h 0 ⟨?_, ?_, ?_, by kernel_rfl, by kernel_rfl, by kernel_rfl, ?_, ?_, by assumption, ?_⟩
                        rotate_left 2
                        · (simp only [List.getElem?_toArray, List.getElem?_cons_zero]; exact rfl)
                        · exact fun _ _ _ h => h
                        · first
                            | (refine Or.inr ⟨by rfl, ?_⟩; exact rfl)
                            | (refine Or.inl ⟨by rfl, ?_⟩
                               intro w hSw
                               (try dsimp only at hSw)
                               (try go_split_ands)
                               go_simp
                               (first | done | with_reducible rfl))
                        try simp only [Act.put, List.setIfInBounds_toArray, List.set_cons_zero, List.set_cons_succ]
                        refine take_h 1 ⟨?_, ?_, ?_, by kernel_rfl, by kernel_rfl, by kernel_rfl, ?_, ?_, by assumption, ?_⟩
                        rotate_left 2
                        · (simp only [List.getElem?_toArray, List.getElem?_cons_succ, List.getElem?_cons_zero]; exact rfl)
                        · exact fun _ _ _ h => h
                        · first
                            | (refine Or.inr ⟨by rfl, ?_⟩; exact rfl)
                            | (refine Or.inl ⟨by rfl, ?_⟩
                               intro w hSw
                               (try dsimp only at hSw)
                               (try go_split_ands)
                               go_simp
                               (first | done | with_reducible rfl))
                        try simp only [Act.put, List.setIfInBounds_toArray, List.set_cons_zero, List.set_cons_succ]
                        refine take_h 2 ⟨?_, ?_, ?_, by kernel_rfl, by kernel_rfl, by kernel_rfl, ?_, ?_, by assumption, ?_⟩
                        rotate_left 2
                        · (simp only [List.getElem?_toArray, List.getElem?_cons_succ, List.getElem?_cons_zero]; exact rfl)
                        · exact fun _ _ _ h => h
                        · first
                            | (refine Or.inr ⟨by rfl, ?_⟩; exact rfl)
                            | (refine Or.inl ⟨by rfl, ?_⟩
                               intro w hSw
                               (try dsimp only at hSw)
                               (try go_split_ands)
                               go_simp
                               (first | done | with_reducible rfl))
                        try simp only [Act.put, List.setIfInBounds_toArray, List.set_cons_zero, List.set_cons_succ]
                        refine take_h 3 ⟨?_, ?_, ?_, by kernel_rfl, by kernel_rfl, by kernel_rfl, ?_, ?_, by assumption, ?_⟩
                        rotate_left 2
                        · (simp only [List.getElem?_toArray, List.getElem?_cons_succ, List.getElem?_cons_zero]; exact rfl)
                        · exact fun _ _ _ h => h
                        · first
                            | (refine Or.inr ⟨by rfl, ?_⟩; exact rfl)
                            | (refine Or.inl ⟨by rfl, ?_⟩
                               intro w hSw
                               (try dsimp only at hSw)
                               (try go_split_ands)
                               go_simp
                               (first | done | with_reducible rfl))
                        try simp only [Act.put, List.setIfInBounds_toArray, List.set_cons_zero, List.set_cons_succ]
                        refine take_h 4 ⟨?_, ?_, ?_, by kernel_rfl, by kernel_rfl, by kernel_rfl, ?_, ?_, by assumption, ?_⟩
                        rotate_left 2
                        · (simp only [List.getElem?_toArray, List.getElem?_cons_succ, List.getElem?_cons_zero]; exact rfl)
                        · exact fun _ _ _ h => h
                        · first
                            | (refine Or.inr ⟨by rfl, ?_⟩; exact rfl)
                            | (refine Or.inl ⟨by rfl, ?_⟩
                               intro w hSw
                               (try dsimp only at hSw)
                               (try go_split_ands)
                               go_simp
                               (first | done | with_reducible rfl))
                        try simp only [Act.put, List.setIfInBounds_toArray, List.set_cons_zero, List.set_cons_succ]
                        refine take_h 5 ⟨?_, ?_, ?_, by kernel_rfl, by kernel_rfl, by kernel_rfl, ?_, ?_, by assumption, ?_⟩
                        rotate_left 2
                        · (simp only [List.getElem?_toArray, List.getElem?_cons_succ, List.getElem?_cons_zero]; exact rfl)
                        · exact fun _ _ _ h => h
                        · first
                            | (refine Or.inr ⟨by rfl, ?_⟩; exact rfl)
                            | (refine Or.inl ⟨by rfl, ?_⟩
                               intro w hSw
                               (try dsimp only at hSw)
                               (try go_split_ands)
                               go_simp
                               (first | done | with_reducible rfl))
                        try simp only [Act.put, List.setIfInBounds_toArray, List.set_cons_zero, List.set_cons_succ]
                        refine wpAnyH_done (by kernel_rfl) ?_ _
                        clear hHeld
                        go_wp2
                        go_meet
                        exact ⟨(wants_cut HG1.out.rows).1 hcp1', rfl, (heads_cut HG1.out.heads).2 rfl, rfl, rfl⟩
                      · have hcp2' : 1 < cp2 := by omega
                        refine wp_region_held_drew (S := fun _ => True) (by kernel_rfl) trivial (fun hHeld => ?_)
                        refine take_h 0 ⟨?_, ?_, ?_, by kernel_rfl, by kernel_rfl, by kernel_rfl, ?_, ?_, by assumption, ?_⟩
                        rotate_left 2
                        · (simp only [List.getElem?_toArray, List.getElem?_cons_zero]; exact rfl)
                        · exact fun _ _ _ h => h
                        · first
                            | (refine Or.inr ⟨by rfl, ?_⟩; exact rfl)
                            | (refine Or.inl ⟨by rfl, ?_⟩
                               intro w hSw
                               (try dsimp only at hSw)
                               (try go_split_ands)
                               go_simp
                               (first | done | with_reducible rfl))
                        try simp only [Act.put, List.setIfInBounds_toArray, List.set_cons_zero, List.set_cons_succ]
                        refine take_h 1 ⟨?_, ?_, ?_, by kernel_rfl, by kernel_rfl, by kernel_rfl, ?_, ?_, by assumption, ?_⟩
                        rotate_left 2
                        · (simp only [List.getElem?_toArray, List.getElem?_cons_succ, List.getElem?_cons_zero]; exact rfl)
                        · exact fun _ _ _ h => h
                        · first
                            | (refine Or.inr ⟨by rfl, ?_⟩; exact rfl)
                            | (refine Or.inl ⟨by rfl, ?_⟩
                               intro w hSw
                               (try dsimp only at hSw)
                               (try go_split_ands)
                               go_simp
                               (first | done | with_reducible rfl))
                        try simp only [Act.put, List.setIfInBounds_toArray, List.set_cons_zero, List.set_cons_succ]
                        refine take_h 2 ⟨?_, ?_, ?_, by kernel_rfl, by kernel_rfl, by kernel_rfl, ?_, ?_, by assumption, ?_⟩
                        rotate_left 2
                        · (simp only [List.getElem?_toArray, List.getElem?_cons_succ, List.getElem?_cons_zero]; exact rfl)
                        · exact fun _ _ _ h => h
                        · first
                            | (refine Or.inr ⟨by rfl, ?_⟩; exact rfl)
                            | (refine Or.inl ⟨by rfl, ?_⟩
                               intro w hSw
                               (try dsimp only at hSw)
                               (try go_split_ands)
                               go_simp
                               (first | done | with_reducible rfl))
                        try simp only [Act.put, List.setIfInBounds_toArray, List.set_cons_zero, List.set_cons_succ]
                        refine take_h 3 ⟨?_, ?_, ?_, by kernel_rfl, by kernel_rfl, by kernel_rfl, ?_, ?_, by assumption, ?_⟩
                        rotate_left 2
                        · (simp only [List.getElem?_toArray, List.getElem?_cons_succ, List.getElem?_cons_zero]; exact rfl)
                        · exact fun _ _ _ h => h
                        · first
                            | (refine Or.inr ⟨by rfl, ?_⟩; exact rfl)
                            | (refine Or.inl ⟨by rfl, ?_⟩
                               intro w hSw
                               (try dsimp only at hSw)
                               (try go_split_ands)
                               go_simp
                               (first | done | with_reducible rfl))
                        try simp only [Act.put, List.setIfInBounds_toArray, List.set_cons_zero, List.set_cons_succ]
                        refine take_h 4 ⟨?_, ?_, ?_, by kernel_rfl, by kernel_rfl, by kernel_rfl, ?_, ?_, by assumption, ?_⟩
                        rotate_left 2
                        · (simp only [List.getElem?_toArray, List.getElem?_cons_succ, List.getElem?_cons_zero]; exact rfl)
                        · exact fun _ _ _ h => h
                        · first
                            | (refine Or.inr ⟨by rfl, ?_⟩; exact rfl)
                            | (refine Or.inl ⟨by rfl, ?_⟩
                               intro w hSw
                               (try dsimp only at hSw)
                               (try go_split_ands)
                               go_simp
                               (first | done | with_reducible rfl))
                        try simp only [Act.put, List.setIfInBounds_toArray, List.set_cons_zero, List.set_cons_succ]
                        refine take_h 5 ⟨?_, ?_, ?_, by kernel_rfl, by kernel_rfl, by kernel_rfl, ?_, ?_, by assumption, ?_⟩
                        rotate_left 2
                        · (simp only [List.getElem?_toArray, List.getElem?_cons_succ, List.getElem?_cons_zero]; exact rfl)
                        · exact fun _ _ _ h => h
                        · first
                            | (refine Or.inr ⟨by rfl, ?_⟩; exact rfl)
                            | (refine Or.inl ⟨by rfl, ?_⟩
                               intro w hSw
                               (try dsimp only at hSw)
                               (try go_split_ands)
                               go_simp
                               (first | done | with_reducible rfl))
                        try simp only [Act.put, List.setIfInBounds_toArray, List.set_cons_zero, List.set_cons_succ]
                        refine wpAnyH_done (by kernel_rfl) ?_ _
                        clear hHeld
                        go_wp2
                        go_meet
                        exact ⟨(wants_cut HG1.out.rows).1 hcp1', rfl, (heads_cut HG1.out.heads).1 hcp2', rfl, rfl⟩
                  case rest =>
                    obtain ⟨hWa, hob1, hHb, hob2, hcw⟩ := hcut
                    subst hcw
                    have hd : Left [] ws2 ws2.drew := (Left.refl [] ws2).drew
                    have hpu := RigP.push (n := 0) (HR1.out.left hd) (by have := HR1.out.wsum_nn; simpa using this) (by omega)
                    have HPU := Lib.hid hpu
                    have HG2 := Lib.hid (((HG1.out.cut_want hWa hob1).cut_head hHb hob2).alloc HR1.out.bw_lt hd)
                    clear hpu hd hWa hob1 hHb hob2
                    go_wp2_with fail
                    refine Calls.mono (show Calls Try.prog 42 #[.pointer (some ⟨s.V, 0, none⟩), .int .i64 (f.h : Nat), .int .i64 0] ws2.drew _ from HPU.out) ?_
                    rintro e wt ⟨rfl, hRt, hlt, hnt⟩
                    have HRt := Lib.hid hRt
                    have HGt := Lib.hid (HG2.out.ring hlt (fun k hk => hk) (fun k _ hk => hnt k hk))
                    clear hRt hlt hnt
                    go_wp2_with (go_at_call 16; refine (num2_any _ _).mono ?_; rintro e w' ⟨rfl, rfl⟩)
                    go_meet
                    exact ⟨want, out ++ [(f, 0)], free, rfl, HRt.out, HGt.out, Lib.hid (fun p hp => by rcases List.mem_append.1 hp with h | h; exact HZ.out p h; simp at h; rw [h])⟩
            · by_cases hy2 : y = 2
              · as_aux_lemma =>
                  subst hy2
                  cases out with
                  | nil =>
                    obtain ⟨oo, oc, rfl, _, _⟩ := (show Row wA base 3 1 u12 0 (outCells []) from HGA.out.outs).form
                    go_wp2_with fail
                    refine (RigG.used_none HRA.out).mono ?_
                    rintro e wp ⟨rfl, hlp⟩
                    have HRp := Lib.hid (HRA.out.left hlp)
                    have HGp := Lib.hid (HGA.out.alloc HRA.out.bw_lt hlp)
                    clear hlp
                    go_wp2_with (go_at_call 16; refine (num2_any _ _).mono ?_; rintro e w' ⟨rfl, rfl⟩)
                    go_meet
                    exact ⟨want, [], free, rfl, HRp.out, HGp.out, HZ⟩
                  | cons p out =>
                    obtain ⟨f, n0⟩ := p
                    obtain rfl : n0 = 0 := HZ.out (f, n0) (by simp)
                    obtain ⟨g3, o3, oc, rfl, hw1, hw2, _⟩ := HGA.out.outs.first
                    have hus0 := RigG.used HRA.out
                    have HUS0 := Lib.hid hus0
                    have hw3 : oc ≤ 9223372036854775807 := by unfold maxLen at hw2; omega
                    clear hus0 hw2
                    go_wp2_with fail
                    refine Calls.mono (show Calls Try.prog 43 #[.pointer (some ⟨s.D, 0, none⟩)] wA (fun e w' => e = .returned (.tuple #[.int .i64 (f.h : Nat), .int .i64 0, .bool true, .int .i64 0]) ∧ _) from HUS0.out) ?_
                    rintro e wp ⟨rfl, hRp, hlp, hno⟩
                    have HRp := Lib.hid hRp
                    have HGp := Lib.hid (HGA.out.ring hlp (fun k hk => hk) (fun k _ hk => hno k hk))
                    obtain ⟨g', o', oc', he, _, _, q0, q1, _⟩ := HGp.out.outs.first
                    injection he with he1 _ he3
                    injection he1 with he1
                    injection he1 with he1 he2
                    subst he1 he2 he3
                    have hcnt := HRp.out.count
                    have hfl := HRp.out.free_le
                    have hh2 : (2 : Int) ≤ 2 * (out.length : Int) + 2 := by omega
                    have hh3 : (1 : Int) < 2 * (out.length : Int) + 2 := by omega
                    have hwf : IntKind.i64.wrap ((free : Int) + (f.L.length : Int)) = (free : Int) + (f.L.length : Int) := IntWalk.i64_in _ ⟨by omega, by omega⟩
                    clear hRp hlp hno
                    by_cases hoc : oc = 2
                    · subst hoc
                      obtain rfl : out = [] := List.eq_nil_of_length_eq_zero (by omega)
                      have HG2 := Lib.hid (HGp.out.cut_out ((outs_cut HGp.out.outs).2 rfl) rfl)
                      go_wp2_with (go_at_call 16; refine (num2_any _ _).mono ?_; rintro e w' ⟨rfl, rfl⟩)
                      go_meet
                      exact ⟨want, [], free + f.L.length, by go_num, HRp.out, HG2.out, Lib.hid (fun p hp => HZ.out p (by simp [hp]))⟩
                    · have hoc' : 2 < oc := by omega
                      have HG2 := Lib.hid (HGp.out.cut_out ((outs_cut HGp.out.outs).1 hoc') rfl)
                      go_wp2_with (go_at_call 16; refine (num2_any _ _).mono ?_; rintro e w' ⟨rfl, rfl⟩)
                      go_meet
                      exact ⟨want, out, free + f.L.length, by go_num, HRp.out, HG2.out, Lib.hid (fun p hp => HZ.out p (by simp [hp]))⟩
              · as_aux_lemma =>
                  have hn1 : (y == 1) = false := beq_eq_false_iff_ne.2 hy1
                  have hn2 : (y == 2) = false := beq_eq_false_iff_ne.2 hy2
                  have hgall : gA ∉ s.all := fun hm => by have := (HGA.out.low gA hm).2; omega
                  have hdd := HGA.out.low s.d (by simp [Spot.all])
                  have hdb := HGA.out.low s.bs (by simp [Spot.all])
                  clear hy1 hy2 hy0 hy4
                  go_wp2_with fail
                  refine (rBufs_any wA _ a.L w.heap.size HD5A.out (by omega)).mono ?_
                  rintro e wb ⟨rfl, hbb⟩
                  have hlb := Left.of_below hbb []
                  have HRb := Lib.hid (HRA.out.left hlb)
                  have HGb := Lib.hid (HGA.out.alloc HRA.out.bw_lt hlb)
                  have e3b := cell_bel e3 hbb
                  have HDb := Lib.hid (HD5A.out.below (hbb.mono (show w.heap.size ≤ wA.heap.size by omega)))
                  have hzb := hbb.size
                  clear hlb hbb
                  cases hbuf : bufsB a.L
                  · clear hbuf
                    go_wp2
                    go_roundw
                    case rel => exact ⟨k + 1, want, out, free, by omega, by omega, by go_num, rfl, HRb.out, HGb.out, HZ⟩
                    case measure => simp [intOf]; omega
                  · have HBF := Lib.hid hbuf
                    have hlen := bufsB_pos hbuf
                    have hne : (Value.slice lo a.L.length lc).ownBlock ≠ some s.d ∧ (Value.slice lo a.L.length lc).ownBlock ≠ some s.bs := by
                      obtain ⟨_, ao', cap', ee, _, _, _, h6⟩ := HDb.out
                      injection ee with ee
                      subst ee
                      obtain ⟨b', o', e', hlt', _⟩ := h6 (by omega)
                      subst e'
                      simp only [Value.ownBlock]
                      refine ⟨fun h => ?_, fun h => ?_⟩ <;> injection h with h <;> omega
                    have HNE := Lib.hid hne
                    clear hbuf hne
                    by_cases hfree : a.L.length ≤ free
                    · have hfi : (a.L.length : Int) ≤ (free : Int) := by omega
                      go_wp2_with fail
                      refine (RigG.add HRb.out (HDb.out.more (by omega)) HNE.out HBF.out hfree).mono ?_
                      rintro e wd ⟨own, hh, rfl, hRd, hld, hno⟩
                      obtain ⟨f, hf⟩ : ∃ f : Fl, f = ⟨own, a.L⟩ := ⟨_, rfl⟩
                      have hfL : f.L = a.L := by rw [hf]
                      rw [← hf] at hh hRd ⊢
                      have HRd := Lib.hid hRd
                      have HGd := Lib.hid (HGb.out.ring hld (fun k hk => hk) hno)
                      have e3d := cell_left' e3b hld hgall
                      have HDd := Lib.hid (HDb.out.keep (fun p hp => by
                        have hk : p.block < wb.heap.size := by omega
                        have hb := hld.block p.block hk (fun hm => by have := (HGb.out.low p.block hm).1; omega)
                        unfold World.cell?
                        rw [hb]))
                      have hzd := hld.size
                      have HFL := Lib.hid hfL
                      have hwf : IntKind.i64.wrap ((free : Int) - (a.L.length : Int)) = (free : Int) - (a.L.length : Int) := IntWalk.i64_in _ ⟨by omega, by omega⟩
                      have hfn : ((free : Int) - (a.L.length : Int)) = ((free - a.L.length : Nat) : Int) := by omega
                      have HFN := Lib.hid hfn
                      have hcnt := HRd.out.count
                      rw [List.length_append, List.length_singleton] at hcnt
                      clear hf hRd hld hno hfL hfn
                      go_wp2_with (go_at_call 16; refine (num2_any _ _).mono ?_; rintro e w' ⟨rfl, rfl⟩)
                      refine (CopyBufs_any wd _ a.L w.heap.size HDd.out (by omega) (by omega)).mono ?_
                      rintro e we ⟨xv, rfl, hxo, hbe⟩
                      have hle := Left.of_below hbe []
                      have HRe := Lib.hid (HRd.out.left hle)
                      have HGe := Lib.hid (HGd.out.alloc HRd.out.bw_lt hle)
                      have hbd := HGd.out.bw
                      have hxo2 := own_base hxo hbd
                      obtain ⟨xo, xc, rfl, _, _⟩ := (Rd.of_own hxo2).form
                      have HXO := Lib.hid hxo2
                      obtain ⟨ws, hws, hin⟩ := HGe.out.rows
                      have hl1 := (Left.refl [] we).alloc (.cells #[.slice xo a.L.length xc] 75)
                      have HR1 := Lib.hid (HRe.out.left hl1)
                      have HG1 := Lib.hid (HGe.out.alloc HRe.out.bw_lt hl1)
                      have HWS := Lib.hid (hws.left hl1 (by simp))
                      have HIN := Lib.hid (fun j f x h1 h2 => own_leftB (hin j f x h1 h2) hl1 (by simp))
                      have HX1 := Lib.hid (own_leftB hxo2 hl1 (by simp))
                      have hbe2 := HG1.out.bw
                      clear hle hxo hxo2 hbe hws hin hl1
                      go_wp2_with (at_builtin; refine wpList_row _ rfl (.tmp 131) (.tmp 135) _ rfl base 75 (.slice none 0 0) 1 24 Try.underlying74 info_bufs rfl (by omega) _ want.length ws rfl HWS.out ⟨we.heap.size, 0, none⟩ 1 1 [.slice xo a.L.length xc] rfl rfl (cell_one_new _ _ _) (by simp [Value.oneCell']) ?_ ?_ ?_ ?_)
                      · unfold maxLen; omega
                      · omega
                      · exact hbe2
                      intro v1 wf hrow1 hg1 hat1
                      have HGf := Lib.hid (HG1.out.app_want (f := f) HR1.out.fresh' (by rw [HFL.out]; exact HX1.out) HWS.out HIN.out hrow1 hg1 (by simpa using hat1))
                      have HRf := Lib.hid (HR1.out.leftB (left_of_grown hg1) (HG1.out.side HG1.out.lt1 HG1.out.n1))
                      have hl2 := (Left.refl [] wf).alloc (.cells #[.int .i64 (f.h : Nat)] 3)
                      have HR2 := Lib.hid (HRf.out.left hl2)
                      have HG2 := Lib.hid (HGf.out.alloc HRf.out.bw_lt hl2)
                      have hbf2 := HG2.out.bw
                      obtain ⟨w1o, w1c, rfl, _, _⟩ := hrow1.form
                      clear hrow1 hg1 hat1 hl2
                      go_wp2_with (at_builtin; refine wpList_row _ rfl (.tmp 137) (.tmp 139) _ rfl base 3 (.int .i64 0) 1 8 Try.underlying22 info_int rfl (by omega) _ want.length (headCells want) rfl HG2.out.heads ⟨wf.heap.size, 0, none⟩ 1 1 [.int .i64 (f.h : Nat)] rfl rfl (cell_one_new _ _ _) (by simp [Value.oneCell']) ?_ ?_ ?_ ?_)
                      · unfold maxLen; omega
                      · omega
                      · exact hbf2
                      intro v2 wg hrow2 hg2 hat2
                      have HGg := Lib.hid (HG2.out.app_head HR2.out.fresh' hrow2 hg2 (by simpa using hat2))
                      have HRg := Lib.hid (HR2.out.leftB (left_of_grown hg2) (HG2.out.side HG2.out.lt2 HG2.out.n2))
                      clear hrow2 hg2 hat2
                      go_wp2
                      go_meet
                      exact ⟨want ++ [f], out, free - a.L.length, by rw [HFN.out], HRg.out, HGg.out, HZ⟩
                    · have hfi : (free : Int) < (a.L.length : Int) := by omega
                      go_wp2_with fail
                      refine (RigG.add_full HRb.out (HDb.out.more (by omega)) HBF.out (by omega)).mono ?_
                      rintro e wd ⟨rfl, hbd⟩
                      have hld := Left.of_below hbd []
                      have HRd := Lib.hid (HRb.out.left hld)
                      have HGd := Lib.hid (HGb.out.alloc HRb.out.bw_lt hld)
                      have e3d := cell_bel e3b hbd
                      clear hld hbd
                      go_wp2_with (go_at_call 16; refine (num2_any _ _).mono ?_; rintro e w' ⟨rfl, rfl⟩)
                      go_roundw
                      case rel => exact ⟨k + 1, want, out, free, by omega, by omega, by go_num, rfl, HRd.out, HGd.out, HZ⟩
                      case measure => simp [intOf]; omega
          case rest =>
            obtain ⟨want', out', free', rfl, hR', hG', HZ'⟩ := hcut
            have HR' := Lib.hid hR'
            have HG' := Lib.hid hG'
            clear hR' hG'
            go_wp2_with (go_at_call 39; refine (RigG.free_any HR'.out).mono ?_; rintro e w' ⟨rfl, rfl⟩)
            go_roundw
            case rel => exact ⟨k + 1, want', out', free', by omega, by omega, by go_num, rfl, HR'.out, HG'.out, HZ'⟩
            case measure => simp [intOf]; omega
        · have hfl := fieldL wr
          have hbw0 := HGk.out.bl
          go_wp2_with fail
          refine (wakes_any wr).mono ?_
          rintro e wz ⟨rfl, hbz⟩
          go_wp2
          go_ret
          exact ⟨rfl, hbx.trans ((hbw0.trans (hbz.mono hbw0.size)).mono (by omega))⟩
      · have hfl := fieldL wr
        have hbw0 := HGk.out.bl
        go_wp2_with fail
        refine (wakes_any wr).mono ?_
        rintro e wz ⟨rfl, hbz⟩
        go_wp2
        go_ret
        exact ⟨rfl, hbx.trans ((hbw0.trans (hbz.mono hbw0.size)).mono (by omega))⟩
end Go.Proofs.Ytfffehbipcikoaa
