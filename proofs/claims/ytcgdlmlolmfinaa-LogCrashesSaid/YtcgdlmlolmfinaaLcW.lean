/- LogCrashes: the walk. -/

import Derived.Test.YtcgdlmlolmfinaaLcB
import Derived.Test.YtcgdlmlolmfinaaLmHv
namespace Go.Proofs.Ytcgdlmlolmfinaa
open Go.RowKit
/-- A disk that is new, with a fuse or without. -/
structure ND (w0 wx : World) (base RD : Nat) (F : List Nat) (s : DS) (B : List UInt8) : Prop where
  bel : Below w0.heap.size w0 wx
  d : DkG wx base RD F s
  on : On s
  W : s.W = []
  last : s.last = 0
  K : s.K = B
  hb : w0.heap.size ≤ base
  hz : base ≤ wx.heap.size
theorem ND.off {w0 wx w' : World} {base RD : Nat} {F : List Nat} {s : DS} {B : List UInt8} (h : ND w0 wx base RD F s B) {n : Int} (hn : 1 ≤ n) (hd : DkG w' base RD F (offS s n)) (hl : Left F wx w') : ND w0 w' base RD F (offS s n) B :=
  ⟨h.bel.trans (hl.belowB h.bel.size (fun k hk => Nat.le_trans h.hb (h.d.lt k hk).1)), hd, ⟨by unfold offS; simp only; rw [if_neg (by omega)]; exact h.on.off, h.on.q, h.on.len, h.on.w64⟩, h.W, h.last, h.K, h.hb, Nat.le_trans h.hz hl.size⟩
theorem rd_i64 {w : World} {B n cap : Nat} {ao : Option Addr} {l : List Int} (h : Rd w B 1 (.slice ao n cap) n (i64s l)) {i : Nat} {x : Int} (hx : l[i]? = some x) (hi : i < n) : ∃ b o, ao = some ⟨b, o, none⟩ ∧ b < B ∧ w.cell? ⟨b, o + i, none⟩ = some (.int .i64 x) := by
  obtain ⟨b, o, u, e, hb, hu, hc⟩ := h.at_ (k := i) (by have := h.1; omega)
  have hu2 : u = .int .i64 x := by
    unfold i64s at hu
    rw [List.getElem?_map, hx] at hu
    injection hu with hu
    exact hu.symm
  subst hu2
  exact ⟨b, o, e, hb, hc⟩
theorem ND.offs {w0 wx : World} {base RD : Nat} {F : List Nat} {s : DS} {B : List UInt8} (h : ND w0 wx base RD F s B) (n : Int) (h1 : 1 ≤ n) (h2 : n ≤ 9223372036854775807) :
    Calls Try.prog 20 #[.pointer (some ⟨RD, 0, none⟩), .int .i64 n] wx fun e w' => e = .returned (.tuple #[]) ∧ ND w0 w' base RD F (offS s n) B ∧ Left F wx w' :=
  (Off_g h.d n h2).mono fun e w' ⟨he, hd, hl⟩ => ⟨he, h.off h1 hd hl, hl⟩
/-- Opened, or the power went in the opening. -/
def P0 (w0 wx : World) (base R RD : Nat) (z : Int) : Prop :=
  Below w0.heap.size w0 wx ∧ w0.heap.size ≤ base ∧ base ≤ wx.heap.size ∧ ((z = 0 ∧ ∃ X, KA wx base R RD X [] [] 0 5000000) ∨ (z = 10 ∧ ∃ F, KS wx base RD F (fun l' => l' = [])))
/-- Through the first loop. -/
def P1 (w0 wx : World) (base R RD : Nat) (z : Int) (k : Nat) (r cv : Value) : Prop :=
  ∃ C V, C.length ≤ k + 1 ∧ ((z = 0 ∧ ∃ X ls l, CM w0 wx base R RD X ls l r cv C V (k : Int) (5000000 + 20000 * (k : Int))) ∨ (z = 10 ∧ ∃ F S, CE w0 wx base RD F S cv C V))
theorem P1.bel {w0 wx : World} {base R RD : Nat} {z : Int} {k : Nat} {r cv : Value} (h : P1 w0 wx base R RD z k r cv) : Below w0.heap.size w0 wx := by
  obtain ⟨C, V, _, ⟨_, X, ls, l, h⟩ | ⟨_, F, S, h⟩⟩ := h
  · exact h.bel
  · exact h.bel
def P2 (w0 wx : World) (RD : Nat) (cv : Value) : Prop := ∃ base F S C V, C.length ≤ 30 ∧ CE w0 wx base RD F S cv C V
theorem P1.e {w0 wx : World} {base R RD : Nat} {z : Int} {k : Nat} {r cv : Value} (h : P1 w0 wx base R RD z k r cv) (hk : k ≤ 20) : P2 w0 wx RD cv := by
  obtain ⟨C, V, hC, ⟨_, X, ls, l, h⟩ | ⟨_, F, S, h⟩⟩ := h
  · obtain ⟨F, S, h'⟩ := h.e
    exact ⟨base, F, S, C, V, by omega, h'⟩
  · exact ⟨base, F, S, C, V, by omega, h⟩
theorem P0.go {w0 wx : World} {base R RD : Nat} {z : Int} (h : P0 w0 wx base R RD z) : P1 w0 (wx.alloc (.cells #[.slice none 0 0] 35)) base R RD z 0 (.slice none 0 0) (.slice (some ⟨wx.heap.size, 0, none⟩) 1 1) := by
  obtain ⟨h1, h2, h3, h4⟩ := h
  have hb : Below wx.heap.size wx (wx.alloc (.cells #[.slice none 0 0] 35)) := (Below.refl _ _).alloc (Nat.le_refl _) _
  have hn : ∀ X, RK wx (.slice none 0 0) [] X := fun X => ⟨Rd.nil_ _ _ _, fun h => absurd h (by simp)⟩
  refine ⟨[[]], [.slice none 0 0], by simp, ?_⟩
  rcases h4 with ⟨rfl, X, hk⟩ | ⟨rfl, F, hk⟩
  · exact .inl ⟨rfl, X, [], [], h1.trans (hb.mono h1.size), by simpa using hk.below hb, h2, Nat.le_trans h3 hb.size, ⟨Rd.nil_ _ _ _, fun h => absurd h (by simp)⟩, CanO.one h1.size (hn X) (fun k hk' => (hk.lt k hk').2), fun l' _ hp => by rw [List.prefix_nil.1 hp]; simp⟩
  · exact .inr ⟨rfl, F, _, h1.trans (hb.mono h1.size), hk.left (Left.of_below hb []) (by simp), h2, Nat.le_trans h3 hb.size, (CanO.one h1.size (hn F) (fun k hk' => (hk.lt k hk').2)).r (fun k hk => hk), fun l' hp => by rw [hp]; simp⟩
/-- A new disk with a fuse or none, and what may be found on it. -/
structure NE (w0 wx : World) (base RD : Nat) (F : List Nat) (s : DS) (B : List UInt8) (cv : Value) (C : List (List (List UInt8))) (V : List Value) (k : Nat) : Prop where
  nd : ND w0 wx base RD F s B
  can : CanR wx cv C V F
  ar : s.armed = true → k < 2
theorem CanR.leftF {w w' : World} {cv : Value} {C : List (List (List UInt8))} {V : List Value} {F : List Nat} (h : CanR w cv C V F) (hl : Left F w w') : CanR w' cv C V F := h.step hl (fun k hk => .inl hk) (fun k hk => .inl hk)
theorem NE.dead {w0 wx w7 : World} {base RD : Nat} {F F7 : List Nat} {s : DS} {B : List UInt8} {cv : Value} {C : List (List (List UInt8))} {V : List Value} {k : Nat} {l1 : List (List UInt8)} (h : NE w0 wx base RD F s B cv C V k) (hl : Left F wx w7) (hF : ∀ k ∈ F7, k ∈ F ∨ wx.heap.size ≤ k) (hk : KS w7 base RD F7 (fun l' => l' = l1)) (hin : l1 ∈ C) : CE w0 w7 base RD F7 (fun l' => l' = l1) cv C V :=
  ⟨h.nd.bel.trans (hl.belowB h.nd.bel.size (fun k hk => Nat.le_trans h.nd.hb (h.nd.d.lt k hk).1)), hk, h.nd.hb, Nat.le_trans h.nd.hz hl.size, h.can.step hl (fun k hk => .inl hk) hF, fun l' e => by rw [e]; exact hin⟩
theorem NE.live {w0 wx w7 w8 w9 : World} {base R RD : Nat} {F X7 : List Nat} {s : DS} {B : List UInt8} {cv v8 : Value} {C : List (List (List UInt8))} {V : List Value} {k : Nat} {l1 : List (List UInt8)} {g N : Int} (h : NE w0 wx base RD F s B cv C V k) (hl : Left F wx w7) (hk : KA w7 base R RD X7 l1 l1 g N) (hv : w8.ownsRow w7.heap.size 9 1 v8 l1.length (sts l1)) (hb8 : Below w7.heap.size w7 w8) (hb9 : Below w8.heap.size w8 w9) :
    ∃ F' S, CE w0 (w9.alloc (.cells #[v8] 35)) base RD F' S (.slice (some ⟨w9.heap.size, 0, none⟩) 1 1) [l1] [v8] := by
  obtain ⟨F', hks, hsub⟩ := hk.disk
  have hlt := hk.lt
  have hba : Below w9.heap.size w9 (w9.alloc (.cells #[v8] 35)) := (Below.refl _ _).alloc (Nat.le_refl _) _
  have hb79 : Below w7.heap.size w7 (w9.alloc (.cells #[v8] 35)) := (hb8.trans (hb9.mono hb8.size)).trans (hba.mono (Nat.le_trans hb8.size hb9.size))
  have hbel := h.nd.bel.trans (hl.belowB h.nd.bel.size (fun k hk => Nat.le_trans h.nd.hb (h.nd.d.lt k hk).1))
  have hr : RK w9 v8 l1 F' := (RK.of_own hv (fun k hk => (hlt k (hsub k hk)).2)).step (Left.of_below hb9 []) (by simp) (fun k hk => .inl hk)
  refine ⟨F', _, hbel.trans (hb79.mono hbel.size), hks.left (Left.of_below hb79 []) (by simp), h.nd.hb, Nat.le_trans (Nat.le_trans h.nd.hz hl.size) hb79.size, (CanO.one (B := 0) (Nat.zero_le _) hr (fun k hk => by have := (hlt k (hsub k hk)).2; have := hb8.size; have := hb9.size; omega)).r (fun k hk => hk), fun l' e => ?_⟩
  have : l' = l1 := List.IsPrefix.eq_of_length_le e.2 (List.IsPrefix.length_le e.1)
  simp [this]
theorem ex_succ {C : List (List (List UInt8))} {l1 c : List (List UInt8)} {j : Nat} (hc : C[j]? = some c) : (∃ i, i < j + 1 ∧ C[i]? = some l1) ↔ (∃ i, i < j ∧ C[i]? = some l1) ∨ c = l1 := by
  constructor
  · rintro ⟨i, hi, h⟩
    by_cases e : i = j
    · subst e; rw [hc] at h; injection h with h; exact .inr h
    · exact .inl ⟨i, by omega, h⟩
  · rintro (⟨i, hi, h⟩ | rfl)
    · exact ⟨i, by omega, h⟩
    · exact ⟨j, by omega, hc⟩
set_option maxRecDepth 20000 in
set_option maxHeartbeats 8000000 in
theorem kcrash (w : World) (lv ov : Value) (A : List Act6) (O : List Int) (hA : ActsAt6 w w.heap.size lv A) (hO : Rd w w.heap.size 1 ov O.length (i64s O)) :
    Calls Try.prog 5 #[.agg #[lv, ov]] w fun e w' => e = .returned (.bool true) ∧ Below w.heap.size w w' := by
  have hA0 := hA
  obtain ⟨ao, cap, rfl, hc1, hc2, _⟩ := hA
  obtain ⟨oo, oc, rfl, ho1, ho2⟩ := hO.form
  have hO0 := hO
  obtain ⟨w0, hw0⟩ : ∃ w0, w0 = w.alloc (.cells #[.slice ao A.length cap, .slice oo O.length oc] 25) := ⟨_, rfl⟩
  have hb0 : Below w.heap.size w w0 := by rw [hw0]; exact (Below.refl _ _).alloc (Nat.le_refl _) _
  have hW0 : Whole w0 w.heap.size 25 [.slice ao A.length cap, .slice oo O.length oc] := by rw [hw0]; exact Whole.new w 25 _
  have hs0 : w0.heap.size = w.heap.size + 1 := by rw [hw0]; simp
  have hA1 := hA0.below hb0
  have HHV := Lib.hid (heavy6 w0 (.slice ao A.length cap) (.slice oo O.length oc) A O (by
    obtain ⟨a1, a2, a3, a4, a5, a6⟩ := hA1
    exact ⟨a1, a2, a3, a4, a5, fun i a ha => by
      obtain ⟨⟨b, o, e, hh⟩, hr⟩ := a6 i a ha
      obtain ⟨v1, p1, p2⟩ := hh.l
      obtain ⟨v2, q1, q2⟩ := hh.k
      exact ⟨⟨b, o, e, by have := hh.lt; omega, hh.d, hh.s, ⟨v1, p1, p2.more (by omega)⟩, ⟨v2, q1, q2.more (by omega)⟩⟩, hr⟩⟩) ((hO.below hb0).more (by omega)))
  have b0 : w0.cell? ⟨w.heap.size, 0, none⟩ = some (.slice ao A.length cap) := by rw [hW0.cell]; rfl
  have b1 : w0.cell? ⟨w.heap.size, 1, none⟩ = some (.slice oo O.length oc) := by rw [hW0.cell]; rfl
  have HA1 := Lib.hid hA1
  have HO1 := Lib.hid (hO0.below hb0)
  have H0 := Lib.hid (And.intro hb0 (And.intro hs0 hW0))
  have hch := hw0.symm
  clear hA0 hA1 hO hO0 hb0 hW0 hs0 hw0 ho2
  go_enter Try.func5, Try.ntmps5
  go_wp2_with fail
  refine HHV.out.mono ?_
  rintro e w1 ⟨b, rfl, hlt, hb1⟩
  have HLT := Lib.hid hlt
  have HB1 := Lib.hid hb1
  clear hlt hb1 hch
  cases b
  case true =>
    have HB := Lib.hid (H0.out.1.trans (HB1.out.mono H0.out.1.size))
    clear b0 b1
    go_wp2
    go_ret
    exact ⟨rfl, HB.out⟩
  case false =>
    have HLI := Lib.hid (HLT.out rfl)
    have HDI := Lib.hid (kdisk w1)
    clear b0 b1
    go_wp2_with fail
    refine HDI.out.mono ?_
    rintro e w2 ⟨RD, F, rfl, hd, hl⟩
    have hFlt := hd.lt
    have hz1 : w1.heap.size + 1 ≤ w2.heap.size := by
      obtain ⟨_, _, _, _, _, h⟩ := hd
      have := h.lt RD h.blk.1
      omega
    have hnd : ND w0 w2 (w1.heap.size + 1) RD F (newS noughts) noughts := ⟨HB1.out.trans (hl.below.mono HB1.out.size), hd, on_new noughts_len, rfl, rfl, rfl, by have := HB1.out.size; omega, hz1⟩
    have HND := Lib.hid hnd
    have hW2 : Whole w2 w.heap.size 25 [.slice ao A.length cap, .slice oo O.length oc] := H0.out.2.2.belowH hnd.bel
    have b1 : w2.cell? ⟨w.heap.size, 1, none⟩ = some (.slice oo O.length oc) := by rw [hW2.cell]; rfl
    clear hd hl hFlt hz1 hnd hW2
    go_upto_if 28 with fail
    go_cut [36] (fun _ wx => Hid (∃ s, ND w0 wx (w1.heap.size + 1) RD F s noughts))
    case first =>
      as_aux_lemma =>
        by_cases h0 : (0 : Int) < (O.length : Int)
        · obtain ⟨o0, ho0⟩ : ∃ o0, O[0]? = some o0 := ⟨_, List.getElem?_eq_getElem (by omega)⟩
          obtain ⟨b, o, rfl, _, co⟩ := rd_i64 (HO1.out.below (HND.out.bel.mono (by have := H0.out.2.1; omega))) ho0 (by omega)
          replace co : w2.cell? ⟨b, o, none⟩ = some (.int .i64 o0) := co
          obtain ⟨q, hq⟩ : ∃ q, within o0 20000 = q := ⟨_, rfl⟩
          have hq0 : 0 ≤ q := by rw [← hq]; exact within_nn _ _ (by omega)
          have hq1 : q < 20000 := by rw [← hq]; exact within_lt _ _ (by omega)
          have HQW := Lib.hid hq
          have HOF := Lib.hid (HND.out.offs (1 + q) (by omega) (by omega))
          clear hq ho0
          go_wp2_with (go_at_call 18; refine (Within_any _ _ 20000 (by omega) (by omega)).mono ?_; rintro e w' ⟨rfl, rfl⟩; rw [HQW.out])
          refine HOF.out.mono ?_
          rintro e w3 ⟨rfl, hn, _⟩
          have HN3 : Hid (∃ s, ND w0 w3 (w1.heap.size + 1) RD F s noughts) := Lib.hid ⟨_, hn⟩
          clear hn
          go_wp2
          go_meet
          exact HN3
        · go_wp2
          go_meet
          exact Lib.hid ⟨_, HND.out⟩
    case rest =>
      obtain ⟨s3, hs3⟩ := hcut.out
      clear b1
      have HN3 := Lib.hid hs3
      have HOP := Lib.hid (aopen hs3.d hs3.hz hs3.on hs3.W hs3.last (r := 0) (g := 0) (l := []) (same_zero (fun m hm => by rw [hs3.K]; exact secN_nought m hm)))
      obtain ⟨R, hR⟩ : ∃ R, wc.heap.size = R := ⟨_, rfl⟩
      obtain ⟨bs, hbs⟩ : ∃ bs, w1.heap.size + 1 = bs := ⟨_, rfl⟩
      rw [hR, hbs] at HOP
      rw [hbs] at HN3
      clear hs3 hcut HND hR hbs
      go_upto_region 8 with fail
      go_cut [4, 5] (fun le ee wx => ∃ lp z, le = .pointer lp ∧ ee = .int .i64 z ∧ ((z = 0 ∧ lp = some ⟨R, 0, none⟩) ∨ (z = 10 ∧ lp = none)) ∧ Hid (P0 w0 wx bs R RD z))
      case first =>
        as_aux_lemma =>
          go_wp2_with fail
          refine HOP.out.mono ?_
          rintro e w4 (⟨rfl, X, hk, hl, hX⟩ | ⟨_, rfl, F, hk, hl, hX⟩)
          · have hp : P0 w0 w4 bs R RD 0 := ⟨HN3.out.bel.trans (hl.belowB HN3.out.bel.size (fun k hk => Nat.le_trans HN3.out.hb (HN3.out.d.lt k hk).1)), HN3.out.hb, Nat.le_trans HN3.out.hz hl.size, .inl ⟨rfl, X, hk⟩⟩
            have HP := Lib.hid hp
            clear hk hl hX hp
            go_wp2
            go_meet
            exact ⟨_, 0, rfl, rfl, .inl ⟨rfl, rfl⟩, HP⟩
          · have hp : P0 w0 w4 bs R RD 10 := ⟨HN3.out.bel.trans (hl.belowB HN3.out.bel.size (fun k hk => Nat.le_trans HN3.out.hb (HN3.out.d.lt k hk).1)), HN3.out.hb, Nat.le_trans HN3.out.hz hl.size, .inr ⟨rfl, F, hk⟩⟩
            have HP := Lib.hid hp
            clear hk hl hX hp
            go_wp2
            go_meet
            exact ⟨_, 10, rfl, rfl, .inr ⟨rfl, rfl⟩, HP⟩
      case rest =>
        obtain ⟨lp, z, rfl, rfl, hlz, HP0⟩ := hcut
        clear HOP HN3
        go_upto_region 9 with fail
        go_cut [57] (fun be wx => be = .bool false ∧ wx = wc)
        case first =>
          as_aux_lemma =>
            rcases hlz with ⟨rfl, rfl⟩ | ⟨rfl, rfl⟩
            · go_wp2_with (go_at_call 8; refine (knum _ _).mono ?_; rintro e w' ⟨rfl, rfl⟩)
              go_meet
              exact ⟨rfl, rfl⟩
            · go_wp2_with (go_at_call 8; refine (knum _ _).mono ?_; rintro e w' ⟨rfl, rfl⟩)
              go_meet
              exact ⟨rfl, rfl⟩
        case rest =>
          obtain ⟨rfl, hwc⟩ := hcut
          subst hwc
          have HP1 := Lib.hid HP0.out.go
          clear HP0
          go_upto_block 0 with (go_at_call 8; refine (knum _ _).mono ?_; rintro e w' ⟨rfl, rfl⟩)
          generalize (wc.alloc (.cells #[.slice none 0 0] 35)) = wq at HP1 ⊢
          generalize wc.heap.size = g at HP1 ⊢
          go_cut [7] (fun ce wx => ∃ (co : Option Addr) (cn cc : Nat), ce = .slice co cn cc ∧ Hid (P2 w0 wx RD (.slice co cn cc)))
          case first =>
            as_aux_lemma =>
              go_wp2
              go_loopw [6, 7, 8, 9] (fun r c b i wr => ∃ (k : Nat) (z : Int) (ro : Option Addr) (rn rc : Nat) (co : Option Addr) (cn cc : Nat), r = .slice ro rn rc ∧ c = .slice co cn cc ∧ b = .int .i64 z ∧ i = .int .i64 k ∧ k ≤ 20 ∧ k ≤ A.length ∧ (z = 0 → lp = some ⟨R, 0, none⟩) ∧ Hid (P1 w0 wr bs R RD z k (.slice ro rn rc) (.slice co cn cc))) (fun _ _ _ i _ => 30 - (intOf i).toNat)
              case atStart => exact ⟨0, z, _, _, _, _, _, _, rfl, rfl, rfl, rfl, by omega, by omega, fun h => by rcases hlz with h' | h'; exact h'.2; omega, HP1⟩
              case round =>
                obtain ⟨k, z, ro, rn, rc, co, cn, cc, rfl, rfl, rfl, rfl, hk20, hkA, hzl, HP⟩ := hrel
                have hWr : Whole wr w.heap.size 25 [.slice ao A.length cap, .slice oo O.length oc] := H0.out.2.2.belowH HP.out.bel
                have t0 : wr.cell? ⟨w.heap.size, 0, none⟩ = some (.slice ao A.length cap) := by rw [hWr.cell]; rfl
                by_cases hgo : (k < A.length ∧ k < 20) ∧ z = 0
                · obtain ⟨⟨hg1, hg2⟩, rfl⟩ := hgo
                  obtain rfl := hzl rfl
                  obtain ⟨C, V, hC, hcs⟩ := HP.out
                  have hM : ∃ X ls l, CM w0 wr bs R RD X ls l (.slice ro rn rc) (.slice co cn cc) C V (k : Int) (5000000 + 20000 * (k : Int)) := by
                    rcases hcs with ⟨_, X, ls, l, hM⟩ | ⟨hbad, _⟩
                    · exact ⟨X, ls, l, hM⟩
                    · omega
                  clear hcs
                  obtain ⟨X, ls, l, hM⟩ := hM
                  obtain ⟨_, _, ern, _, _⟩ := hM.row.rd.form
                  injection ern with e1 e2 e3
                  subst e2
                  clear e1 e3
                  obtain ⟨_, _, ecn, _, _⟩ := (Rd.of_own hM.can.own).form
                  injection ecn with e1 e2 e3
                  subst e2
                  clear e1 e3
                  have hg1' : (k : Int) < (A.length : Int) := by omega
                  have hg2' : (k : Int) < 20 := by omega
                  obtain ⟨a, ha⟩ : ∃ a, A[k]? = some a := ⟨_, List.getElem?_eq_getElem hg1⟩
                  have hbel := hM.bel.mono (by have := H0.out.2.1; omega : w.heap.size ≤ w0.heap.size)
                  obtain ⟨⟨b, o, rfl, hAt0⟩, hR6⟩ := act6_get HA1.out ha
                  have hAt := hAt0.below hbel
                  obtain ⟨lv, c2, hL⟩ := hAt.l
                  obtain ⟨kv, c3, hK⟩ := hAt.k
                  have c0 := hAt.d
                  have c1 := hAt.s
                  obtain ⟨lo, lc, rfl, _, _⟩ := hL.form
                  obtain ⟨ko, kc, rfl, _, _⟩ := hK.form
                  obtain ⟨q1, q2, q3, q4, q5⟩ := light_act (HLI.out.1 a (List.mem_of_getElem? ha))
                  have HLA := Lib.hid (And.intro q1 (And.intro q2 (And.intro q3 (And.intro q4 q5))))
                  obtain ⟨wA, hwA⟩ : ∃ wA, wA = wr.alloc (.cells #[.int .i64 a.d, .string ⟨a.s.toArray⟩, .slice lo a.l.length lc, .slice ko a.k.length kc] 42) := ⟨_, rfl⟩
                  have hbA : Below wr.heap.size wr wA := by rw [hwA]; exact (Below.refl _ _).alloc (Nat.le_refl _) _
                  have hWA : Whole wA wr.heap.size 42 [.int .i64 a.d, .string ⟨a.s.toArray⟩, .slice lo a.l.length lc, .slice ko a.k.length kc] := by rw [hwA]; exact Whole.new wr 42 _
                  have hsA : wA.heap.size = wr.heap.size + 1 := by rw [hwA]; simp
                  have d0 : wA.cell? ⟨wr.heap.size, 0, none⟩ = some (.int .i64 a.d) := by rw [hWA.cell]; rfl
                  have d1 : wA.cell? ⟨wr.heap.size, 1, none⟩ = some (.string ⟨a.s.toArray⟩) := by rw [hWA.cell]; rfl
                  have d2 : wA.cell? ⟨wr.heap.size, 2, none⟩ = some (.slice lo a.l.length lc) := by rw [hWA.cell]; rfl
                  have d3 : wA.cell? ⟨wr.heap.size, 3, none⟩ = some (.slice ko a.k.length kc) := by rw [hWA.cell]; rfl
                  have hqA := hM.quiet hbA
                  have hLA : Rd wA wA.heap.size 1 (.slice lo a.l.length lc) a.l.length (sts a.l) := (hL.below (hbA.mono (by have := hM.bel.size; have := H0.out.2.1; omega))).more (by have := hqA.bel.size; have := H0.out.2.1; omega)
                  have HNX0 := Lib.hid (knext wA (.slice ro l.length rc) l a (.slice lo a.l.length lc) (.slice ko a.k.length kc) hqA.row.rd hqA.ka.wt hLA (fun x hx => by have := q3 x hx; omega) (by omega) q4 (by omega))
                  obtain ⟨D, hD⟩ : ∃ D, nextD l a = D := ⟨_, rfl⟩
                  have hDE := nextD_err l a
                  rw [hD] at HNX0 hDE
                  have HDD := Lib.hid hD
                  have HM := Lib.hid hM
                  have HSA := Lib.hid (And.intro hsA hbA)
                  have HLR := Lib.hid hLA
                  have HCL := Lib.hid (And.intro hC hk20)
                  have hch := hwA.symm
                  clear ha hbel hAt0 hAt hR6 hL hK hWr q1 q2 q3 q4 q5 hwA hbA hWA hsA hqA hLA hD hM hC
                  go_wp2_with fail
                  refine HNX0.out.mono ?_
                  rintro e w1' ⟨v1, rfl, hv1, hb1⟩
                  have hbr : Below wr.heap.size wr w1' := HSA.out.2.trans (hb1.mono HSA.out.2.size)
                  have hr1 : RK w1' v1 D.1 (X ++ Value.ownL (.slice co C.length cc)) := HM.out.b.own HSA.out.2.size hbr hv1
                  obtain ⟨vo1, vc1, rfl, _, _⟩ := hr1.rd.form
                  have gb1 := HM.out.b.quiet KA.lc hbr
                  have hL1 : Rd w1' w1'.heap.size 1 (.slice lo a.l.length lc) a.l.length (sts a.l) := (HLR.out.below hb1).more hb1.size
                  have HDO := Lib.hid (adoes w1' gb1.q gb1.hz (by omega) (by omega) a (.slice lo a.l.length lc) (.slice ko a.k.length kc) hL1 (fun x hx => by have := HLA.out.2.2.1 x hx; omega) (by have := HLA.out.2.1; omega) (by have := HLA.out.1; omega))
                  rw [HDD.out] at HDO
                  obtain ⟨K, hKK⟩ : ∃ K, within a.d 7 = K := ⟨_, rfl⟩
                  rw [hKK] at HDO
                  have HK := Lib.hid hKK
                  have HG1 := Lib.hid (And.intro gb1 hr1)
                  have hfar : wr.heap.size ∉ X := fun hm => by have := (HM.out.ka.lt _ hm).2; omega
                  have hl1 := Left.of_below hb1 []
                  replace d0 := cell_left' d0 hl1 (by simp)
                  replace d1 := cell_left' d1 hl1 (by simp)
                  replace d2 := cell_left' d2 hl1 (by simp)
                  replace d3 := cell_left' d3 hl1 (by simp)
                  have HFAR := Lib.hid hfar
                  clear hv1 hb1 hr1 gb1 hL1 c0 c1 c2 c3 t0 hch hbr hfar hl1 hKK
                  go_wp2_with fail
                  refine HDO.out.mono ?_
                  rintro e w2 ⟨z2, rfl, hq⟩
                  rcases hq with ⟨rfl, ls2, hNx, hP⟩ | ⟨rfl, hP⟩
                  · obtain ⟨X2, hgo, hl2⟩ := HG1.out.1.go hP (fun w X h => h.lt)
                    have gb2 := hgo _ _ HG1.out.2
                    have HNX := Lib.hid hNx
                    replace d0 := cell_left' d0 hl2 HFAR.out
                    have hbB : Below w2.heap.size w2 (w2.alloc (.cells #[.slice vo1 D.1.length vc1] 35)) := (Below.refl _ _).alloc (Nat.le_refl _) _
                    have hee : (D.snd == D.snd) = true := beq_self_eq_true _
                    clear hP hgo hl2 hNx d1 d2 d3
                    by_cases h0 : D.2 = 0
                    · have h0' : (D.snd == 0) = true := beq_iff_eq.2 h0
                      by_cases hk4 : (4 : Int) ≤ K
                      · have HG := Lib.hid (gb2.clear.quiet KA.lc hbB)
                        clear gb2 hbB
                        go_wp2_with (first | (go_at_call 18; refine (Within_any _ _ 7 (by omega) (by omega)).mono ?_; rintro e w' ⟨rfl, rfl⟩; rw [HK.out]) | (at_builtin; refine wpList_app _ rfl (.tmp 102) (.tmp 104) 50 rfl w0.heap.size 35 (.slice none 0 0) 1 24 Try.underlying50 inf_Tss rfl (by omega) _ 0 [] rfl HG.out.can.own _ _ 1 [.slice vo1 D.1.length vc1] rfl (Rd.of_own (own_lit _ _ (Nat.le_refl _) _)) (by simp [Value.oneCell']) ?_ ?_ ?_ ?_))
                        · unfold maxLen; have := HCL.out; first | omega | (simp only [List.length_nil]; omega)
                        · have := HCL.out; first | omega | (simp only [List.length_nil]; omega)
                        · exact HG.out.bel.size
                        intro v3 w3 hrow hg hat
                        obtain ⟨vo3, vc3, rfl, _, _⟩ := (Rd.of_own hrow).form
                        have gb3 := HG.out.push KA.lc hrow hg (hat.imp id (fun h => by rw [h]; simp))
                        have hp3 : P1 w0 w3 bs R RD 0 (k + 1) (.slice vo1 D.1.length vc1) (.slice vo3 1 vc3) := ⟨[] ++ [D.1], [] ++ [.slice vo1 D.1.length vc1], by have := HCL.out; simp only [List.length_append, List.length_cons, List.length_nil]; omega, .inl ⟨rfl, X2, ls2, D.1, by have hm := gb3.m (has_new HNX.out ⟨h0, hk4⟩); exact ⟨hm.bel, hm.ka.mono (by omega) (by omega), hm.hb, hm.hz, hm.row, hm.can, hm.has⟩⟩⟩
                        have HP3 := Lib.hid hp3
                        clear hrow hg hat gb3 hp3
                        go_wp2
                        go_roundw
                        case rel => exact ⟨k + 1, 0, _, _, _, _, _, _, rfl, rfl, rfl, by go_num, by omega, by omega, (by first | trivial | (intro _; rfl)), HP3⟩
                        case measure => simp [intOf]; omega
                      · have HG := Lib.hid (gb2.quiet KA.lc hbB)
                        have hk4n : ¬ (D.2 = 0 ∧ 4 ≤ K) := fun h => hk4 h.2
                        clear gb2 hbB
                        go_wp2_with (first | (go_at_call 18; refine (Within_any _ _ 7 (by omega) (by omega)).mono ?_; rintro e w' ⟨rfl, rfl⟩; rw [HK.out]) | (at_builtin; refine wpList_app _ rfl (.tmp 102) (.tmp 104) 50 rfl w0.heap.size 35 (.slice none 0 0) 1 24 Try.underlying50 inf_Tss rfl (by omega) _ C.length V rfl HG.out.can.own _ _ 1 [.slice vo1 D.1.length vc1] rfl (Rd.of_own (own_lit _ _ (Nat.le_refl _) _)) (by simp [Value.oneCell']) ?_ ?_ ?_ ?_))
                        · unfold maxLen; have := HCL.out; first | omega | (simp only [List.length_nil]; omega)
                        · have := HCL.out; first | omega | (simp only [List.length_nil]; omega)
                        · exact HG.out.bel.size
                        intro v3 w3 hrow hg hat
                        obtain ⟨vo3, vc3, rfl, _, _⟩ := (Rd.of_own hrow).form
                        have gb3 := HG.out.push KA.lc hrow hg (hat.imp id (fun h => by rw [h]; simp))
                        have hp3 : P1 w0 w3 bs R RD 0 (k + 1) (.slice vo1 D.1.length vc1) (.slice vo3 (C.length + 1) vc3) := ⟨C ++ [D.1], V ++ [.slice vo1 D.1.length vc1], by have := HCL.out; simp only [List.length_append, List.length_cons, List.length_nil]; omega, .inl ⟨rfl, X2, ls2, D.1, by have hm := gb3.m (has_keep HNX.out hk4n HM.out.has); exact ⟨hm.bel, hm.ka.mono (by omega) (by omega), hm.hb, hm.hz, hm.row, hm.can, hm.has⟩⟩⟩
                        have HP3 := Lib.hid hp3
                        clear hrow hg hat gb3 hp3
                        go_wp2
                        go_roundw
                        case rel => exact ⟨k + 1, 0, _, _, _, _, _, _, rfl, rfl, rfl, by go_num, by omega, by omega, (by first | trivial | (intro _; rfl)), HP3⟩
                        case measure => simp [intOf]; omega
                    · have h0' : (D.snd == 0) = false := beq_eq_false_iff_ne.2 h0
                      have hk4n : ¬ (D.2 = 0 ∧ 4 ≤ K) := fun h => h0 h.1
                      have HG := Lib.hid (gb2.quiet KA.lc hbB)
                      clear gb2 hbB
                      go_wp2_with (first | (go_at_call 18; refine (Within_any _ _ 7 (by omega) (by omega)).mono ?_; rintro e w' ⟨rfl, rfl⟩; rw [HK.out]) | (at_builtin; refine wpList_app _ rfl (.tmp 102) (.tmp 104) 50 rfl w0.heap.size 35 (.slice none 0 0) 1 24 Try.underlying50 inf_Tss rfl (by omega) _ C.length V rfl HG.out.can.own _ _ 1 [.slice vo1 D.1.length vc1] rfl (Rd.of_own (own_lit _ _ (Nat.le_refl _) _)) (by simp [Value.oneCell']) ?_ ?_ ?_ ?_))
                      · unfold maxLen; have := HCL.out; first | omega | (simp only [List.length_nil]; omega)
                      · have := HCL.out; first | omega | (simp only [List.length_nil]; omega)
                      · exact HG.out.bel.size
                      intro v3 w3 hrow hg hat
                      obtain ⟨vo3, vc3, rfl, _, _⟩ := (Rd.of_own hrow).form
                      have gb3 := HG.out.push KA.lc hrow hg (hat.imp id (fun h => by rw [h]; simp))
                      have hp3 : P1 w0 w3 bs R RD 0 (k + 1) (.slice vo1 D.1.length vc1) (.slice vo3 (C.length + 1) vc3) := ⟨C ++ [D.1], V ++ [.slice vo1 D.1.length vc1], by have := HCL.out; simp only [List.length_append, List.length_cons, List.length_nil]; omega, .inl ⟨rfl, X2, ls2, D.1, by have hm := gb3.m (has_keep HNX.out hk4n HM.out.has); exact ⟨hm.bel, hm.ka.mono (by omega) (by omega), hm.hb, hm.hz, hm.row, hm.can, hm.has⟩⟩⟩
                      have HP3 := Lib.hid hp3
                      clear hrow hg hat gb3 hp3
                      go_wp2
                      go_roundw
                      case rel => exact ⟨k + 1, 0, _, _, _, _, _, _, rfl, rfl, rfl, by go_num, by omega, by omega, (by first | trivial | (intro _; rfl)), HP3⟩
                      case measure => simp [intOf]; omega
                  · as_aux_lemma =>
                      obtain ⟨X2, hgo, hl2⟩ := HG1.out.1.go hP (fun w X h => KD.lt h)
                      have gb2 := hgo _ _ HG1.out.2
                      have gbr := hgo _ _ HG1.out.1.row
                      have hne : ((10 : Int) == D.snd) = false := beq_eq_false_iff_ne.2 (by rcases hDE with h | h | h <;> omega)
                      have HAL := Lib.hid (KD.all gb2.q)
                      have HG2 := Lib.hid (And.intro gb2 gbr)
                      clear hP hgo hl2 gb2 gbr d0 d1 d2 d3 hDE
                      go_wp2_with fail
                      refine HAL.out.mono ?_
                      rintro e w3 ⟨v3, rfl, hv3, hb3⟩
                      obtain ⟨vo3, vc3, rfl, _, _⟩ := (Rd.of_own hv3).form
                      have HEQ := Lib.hid (keqs w3 (.slice vo3 l.length vc3) (.slice ro l.length rc) l l _ _ (Rd.of_own hv3) (HG2.out.2.quiet KD.lc hb3).row.rd)
                      rw [decide_eq_true rfl] at HEQ
                      have HG3 := Lib.hid (HG2.out.1.quiet KD.lc hb3)
                      clear hv3 hb3
                      go_wp2_with fail
                      refine HEQ.out.mono ?_
                      rintro e w4 ⟨rfl, nd, rfl⟩
                      have gb4 := HG3.out.quiet KD.lc (below_drewN (Below.refl _ w3) nd)
                      have HSY := Lib.hid (KD.sync gb4.q)
                      have HAP := Lib.hid (KD.append gb4.q [120])
                      have HG := Lib.hid (gb4.quiet KD.lc ((Below.refl _ _).alloc (Nat.le_refl _) (.cells #[.slice vo1 D.1.length vc1] 35)))
                      clear gb4
                      go_wp2_with (first | (go_at_call 8; refine (knum _ _).mono ?_; rintro e w' ⟨rfl, rfl⟩) | (go_at_call 21; refine HSY.out.mono ?_; rintro e w' ⟨rfl, rfl⟩) | (go_at_call 9; refine HAP.out.mono ?_; rintro e w' ⟨rfl, rfl⟩) | (at_builtin; refine wpList_app _ rfl (.tmp 127) (.tmp 129) 50 rfl w0.heap.size 35 (.slice none 0 0) 1 24 Try.underlying50 inf_Tss rfl (by omega) _ C.length V rfl HG.out.can.own _ _ 1 [.slice vo1 D.1.length vc1] rfl (Rd.of_own (own_lit _ _ (Nat.le_refl _) _)) (by simp [Value.oneCell']) ?_ ?_ ?_ ?_))
                      · unfold maxLen; have := HCL.out; omega
                      · have := HCL.out; omega
                      · exact HG.out.bel.size
                      intro v5 w5 hrow hg hat
                      obtain ⟨vo5, vc5, rfl, _, _⟩ := (Rd.of_own hrow).form
                      have gb5 := HG.out.push KD.lc hrow hg (hat.imp id (fun h => by rw [h]; simp))
                      have hp5 : P1 w0 w5 bs R RD 10 (k + 1) (.slice ro l.length rc) (.slice vo5 (C.length + 1) vc5) := ⟨C ++ [D.1], V ++ [.slice vo1 D.1.length vc1], by have := HCL.out; simp only [List.length_append, List.length_cons, List.length_nil]; omega, .inr ⟨rfl, gb5.e (has_dead HM.out.has)⟩⟩
                      have HP5 := Lib.hid hp5
                      clear hrow hg hat gb5 hp5
                      go_wp2
                      go_roundw
                      case rel => exact ⟨k + 1, 10, _, _, _, _, _, _, rfl, rfl, rfl, by go_num, by omega, by omega, (by first | trivial | (intro h; omega)), HP5⟩
                      case measure => simp [intOf]; omega
                · have HE := Lib.hid (HP.out.e hk20)
                  clear hWr
                  by_cases hg1 : (k : Int) < (A.length : Int)
                  · by_cases hg2 : (k : Int) < 20
                    · have hz : (z == 0) = false := beq_eq_false_iff_ne.2 (fun h => hgo ⟨⟨by omega, by omega⟩, h⟩)
                      clear hgo
                      go_wp2
                      go_meet
                      exact ⟨_, _, _, rfl, HE⟩
                    · clear hgo
                      go_wp2
                      go_meet
                      exact ⟨_, _, _, rfl, HE⟩
                  · clear hgo
                    go_wp2
                    go_meet
                    exact ⟨_, _, _, rfl, HE⟩
          case rest =>
            obtain ⟨co, cn, cc, rfl, HP2⟩ := hcut
            clear HP1 hlz
            as_aux_lemma =>
              go_wp2
              go_loopw [3, 7, 13] (fun d c i wr => ∃ (k RD : Nat) (co : Option Addr) (cn cc : Nat), d = .pointer (some ⟨RD, 0, none⟩) ∧ c = .slice co cn cc ∧ i = .int .i64 k ∧ k ≤ 4 ∧ Hid (P2 w0 wr RD (.slice co cn cc))) (fun _ _ i _ => 10 - (intOf i).toNat)
              case atStart => exact ⟨0, RD, co, cn, cc, rfl, rfl, rfl, by omega, HP2⟩
              case round =>
                obtain ⟨k, RD, co, cn, cc, rfl, rfl, rfl, hk4, HP⟩ := hrel
                have hbl : Below w0.heap.size w0 wr := by
                  obtain ⟨_, _, _, _, _, _, hE⟩ := HP.out
                  exact hE.bel
                have hWr : Whole wr w.heap.size 25 [.slice ao A.length cap, .slice oo O.length oc] := H0.out.2.2.belowH hbl
                have t0 : wr.cell? ⟨w.heap.size, 0, none⟩ = some (.slice ao A.length cap) := by rw [hWr.cell]; rfl
                have HBL := Lib.hid hbl
                clear hWr hbl
                by_cases hg : (k : Int) < 4
                · go_upto_if 139 with fail
                  go_cut [14] (fun p wx => wx = wr ∧ ∃ (po : Option Addr) (pc : Nat) (ps : List Int), p = .slice po ps.length pc ∧ Hid (Rd wr w.heap.size 1 (.slice po ps.length pc) ps.length (i64s ps) ∧ ps.length ≤ 1000000 ∧ ∀ p ∈ ps, InR p))
                  case first =>
                    by_cases hkA : (k : Int) < (A.length : Int)
                    · obtain ⟨a, ha⟩ : ∃ a, A[k]? = some a := ⟨_, List.getElem?_eq_getElem (by omega)⟩
                      obtain ⟨⟨b, o, rfl, hAt0⟩, hR6⟩ := act6_get HA1.out ha
                      have hAt := hAt0.below (HBL.out.mono (by have := H0.out.2.1; omega : w.heap.size ≤ w0.heap.size))
                      obtain ⟨kv, c3, hK⟩ := hAt.k
                      obtain ⟨ko, kc, rfl, _, _⟩ := hK.form
                      have HKK : Hid (Rd wr w.heap.size 1 (.slice ko a.k.length kc) a.k.length (i64s a.k) ∧ a.k.length ≤ 1000000 ∧ ∀ p ∈ a.k, InR p) := Lib.hid ⟨hK, by have := (light_act (HLI.out.1 a (List.mem_of_getElem? ha))).2.2.2.2; omega, hR6.k⟩
                      clear ha hAt0 hAt hR6 hK
                      go_wp2
                      go_meet
                      exact ⟨rfl, _, _, a.k, rfl, HKK⟩
                    · go_wp2
                      go_meet
                      exact ⟨rfl, none, 0, [], rfl, Lib.hid ⟨Rd.nil_ _ _ _, by simp, by simp⟩⟩
                  case rest =>
                    obtain ⟨hwc, po, pc, ps, rfl, HPK⟩ := hcut
                    subst hwc
                    obtain ⟨base, F, S, C, V, hC, hE⟩ := HP.out
                    obtain ⟨s, hd, hcr⟩ := hE.ks
                    obtain ⟨_, _, ecn, _, _⟩ := hE.can.rd.form
                    injection ecn with e1 e2 e3
                    subst e2
                    clear e1 e3
                    have HAG := Lib.hid (kagain hd hE.hz hcr.w64 hcr.len HPK.out.1 (by have := HBL.out.size; have := H0.out.2.1; omega) HPK.out.2.1 HPK.out.2.2)
                    have hfind := hcr.img _ (crash_img s ps hcr.w64 hcr.len)
                    have hBl := crash_len s ps hcr.w64 hcr.len
                    obtain ⟨B, hB⟩ : ∃ B, crashK s.W ps s.K = B := ⟨_, rfl⟩
                    rw [hB] at HAG hfind hBl
                    obtain ⟨l1, r1, g1, hS1, hsm⟩ := hfind
                    have hin := hE.has l1 hS1
                    have HSM := Lib.hid (And.intro hsm hin)
                    have HE := Lib.hid (And.intro hE (And.intro hd.lt (And.intro hC hBl)))
                    clear hd hcr hB hsm hin hE hS1 hBl hC HP
                    go_wp2_with fail
                    refine HAG.out.mono ?_
                    rintro e w5 ⟨R2, F2, base2, rfl, hd2, hl2, hz2, hz2'⟩
                    have hbel5 : Below w0.heap.size w0 w5 := HE.out.1.bel.trans (hl2.belowB HE.out.1.bel.size (fun k hk => Nat.le_trans HE.out.1.hb (HE.out.2.1 k hk).1))
                    have hne : NE w0 w5 base2 R2 F2 (newS B) B (.slice co C.length cc) C V k := ⟨⟨hbel5, hd2, on_new HE.out.2.2.2, rfl, rfl, rfl, by have := HE.out.1.bel.size; omega, hz2'⟩, HE.out.1.can.step hl2 (fun k hk => .inl hk) (fun k hk => .inr (by have := (hd2.lt k hk).1; omega)), fun h => by cases h⟩
                    have HN5 := Lib.hid hne
                    have hW5 : Whole w5 w.heap.size 25 [.slice ao A.length cap, .slice oo O.length oc] := H0.out.2.2.belowH hbel5
                    have t1 : w5.cell? ⟨w.heap.size, 1, none⟩ = some (.slice oo O.length oc) := by rw [hW5.cell]; rfl
                    clear hd2 hl2 hz2 hz2' hbel5 hne hW5 t0
                    go_upto_region 38 with fail
                    go_cut [160] (fun be wx => ∃ bb : Bool, be = .bool bb ∧ (bb = true → (k : Int) + 1 < (O.length : Int) ∧ (k : Int) < 2) ∧ wx = w5)
                    case first =>
                      by_cases h1 : (k : Int) + 1 < (O.length : Int)
                      · by_cases h2 : (k : Int) < 2
                        · go_wp2
                          go_meet
                          exact ⟨true, rfl, fun _ => ⟨h1, h2⟩, rfl⟩
                        · go_wp2
                          go_meet
                          exact ⟨false, rfl, fun h => (by cases h), rfl⟩
                      · go_wp2
                        go_meet
                        exact ⟨false, rfl, fun h => (by cases h), rfl⟩
                    case rest =>
                      obtain ⟨bb, rfl, hbb, hwc⟩ := hcut
                      subst hwc
                      go_upto_if 160 with fail
                      go_cut [170] (fun _ wx => Hid (∃ s, NE w0 wx base2 R2 F2 s B (.slice co C.length cc) C V k))
                      case first =>
                        cases bb
                        case false =>
                          go_wp2
                          go_meet
                          exact Lib.hid ⟨_, HN5.out⟩
                        case true =>
                          obtain ⟨h1, h2⟩ := hbb rfl
                          obtain ⟨o0, ho0⟩ : ∃ o0, O[k + 1]? = some o0 := ⟨_, List.getElem?_eq_getElem (by omega)⟩
                          obtain ⟨b, o, rfl, _, co1⟩ := rd_i64 (HO1.out.below (HN5.out.nd.bel.mono (by have := H0.out.2.1; omega))) ho0 (by omega)
                          obtain ⟨q, hq⟩ : ∃ q, within o0 20000 = q := ⟨_, rfl⟩
                          have hq0 : 0 ≤ q := by rw [← hq]; exact within_nn _ _ (by omega)
                          have hq1 : q < 20000 := by rw [← hq]; exact within_lt _ _ (by omega)
                          have HQW := Lib.hid hq
                          have HOF := Lib.hid (HN5.out.nd.offs (1 + q) (by omega) (by omega))
                          have hk1 : (k : Int) + 1 < (O.length : Int) := h1
                          clear hq ho0
                          go_wp2_with (go_at_call 18; refine (Within_any _ _ 20000 (by omega) (by omega)).mono ?_; rintro e w' ⟨rfl, rfl⟩; rw [HQW.out])
                          refine HOF.out.mono ?_
                          rintro e w6 ⟨rfl, hn, hl⟩
                          have HN6 : Hid (∃ s, NE w0 w6 base2 R2 F2 s B (.slice co C.length cc) C V k) := Lib.hid ⟨_, hn, HN5.out.can.leftF hl, fun _ => by omega⟩
                          clear hn hl
                          go_wp2
                          go_meet
                          exact HN6
                      case rest =>
                        obtain ⟨s6, h6⟩ := hcut.out
                        have HN6 := Lib.hid h6
                        have HOP := Lib.hid (aopen h6.nd.d h6.nd.hz h6.nd.on h6.nd.W h6.nd.last (by rw [h6.nd.K]; exact HSM.out.1))
                        clear h6 hcut t1
                        go_wp2_with fail
                        refine HOP.out.mono ?_
                        rintro e w7 (⟨rfl, X7, hk7, hl7, hX7⟩ | ⟨har, rfl, F7, hk7, hl7, hX7⟩)
                        · have HAL := Lib.hid (KA.all hk7)
                          have HL7 := Lib.hid (And.intro hk7 hl7)
                          have HC7 := Lib.hid (HN6.out.can.leftF hl7)
                          clear hk7 hl7 hX7
                          generalize wc.heap.size = R7 at HAL HL7 ⊢
                          go_wp2_with (go_at_call 8; refine (knum _ _).mono ?_; rintro e w' ⟨rfl, rfl⟩)
                          refine HAL.out.mono ?_
                          rintro e w8 ⟨v8, rfl, hv8, hb8⟩
                          obtain ⟨vo8, vc8, rfl, _, _⟩ := (Rd.of_own hv8).form
                          have HC8 := Lib.hid (HC7.out.step (X' := F2) (Left.of_below hb8 []) (by simp) (fun k hk => .inl hk))
                          have H8 := Lib.hid (And.intro hv8 hb8)
                          clear hv8 hb8
                          go_upto_block 4 with fail
                          go_cut [18] (fun be wx => be = .bool true ∧ ∃ nd, wx = w8.drewN nd)
                          case first =>
                            go_wp2
                            go_loopw [18, 19] (fun f i wr => ∃ (j nd : Nat) (ff : Bool), f = .bool ff ∧ i = .int .i64 j ∧ j ≤ C.length ∧ wr = w8.drewN nd ∧ Hid (ff = true ↔ ∃ i, i < j ∧ C[i]? = some l1)) (fun _ i _ => 40 - (intOf i).toNat)
                            case atStart => exact ⟨0, 0, false, rfl, rfl, by omega, rfl, Lib.hid ⟨fun h => (by cases h), fun ⟨i, hi, _⟩ => by omega⟩⟩
                            case round =>
                              obtain ⟨j, nd, ff, rfl, rfl, hj, rfl, HFF⟩ := hrel
                              have hC30 := HE.out.2.2.1
                              by_cases hjl : (j : Int) < (C.length : Int)
                              · obtain ⟨c, hc⟩ : ∃ c, C[j]? = some c := ⟨_, List.getElem?_eq_getElem (by omega)⟩
                                have hb8n := below_drewN (Below.refl w8.heap.size w8) nd
                                have hcn : CanR (w8.drewN nd) (.slice co C.length cc) C V F2 := HC8.out.step (Left.of_below hb8n []) (by simp) (fun k hk => .inl hk)
                                obtain ⟨b, o, u, ecv, _, hu, hcell⟩ := hcn.rd.at_ (k := j) (by have := hcn.rd.1; omega)
                                subst ecv
                                have hru := hcn.el j u c hu hc
                                obtain ⟨uo, uc, rfl, _, _⟩ := hru.rd.form
                                have HEQ := Lib.hid (keqs (w8.drewN nd) (.slice uo c.length uc) (.slice vo8 l1.length vc8) c l1 _ _ hru.rd (Rd.of_own (own_below H8.out.1 hb8n)))
                                have HX := Lib.hid (ex_succ (l1 := l1) hc)
                                obtain ⟨ec, hec⟩ : ∃ ec : Bool, decide (c = l1) = ec := ⟨_, rfl⟩
                                rw [hec] at HEQ
                                have HEC : Hid (ec = true ↔ c = l1) := Lib.hid (by rw [← hec]; exact decide_eq_true_iff)
                                clear hc hb8n hcn hu hru hec
                                cases ff
                                case true =>
                                  have HF2 : Hid (true = true ↔ ∃ i, i < j + 1 ∧ C[i]? = some l1) := Lib.hid ⟨fun _ => HX.out.2 (.inl (HFF.out.1 rfl)), fun _ => rfl⟩
                                  go_wp2
                                  go_roundw
                                  case rel => exact ⟨j + 1, nd, true, rfl, by go_num, by omega, rfl, HF2⟩
                                  case measure => simp [intOf]; omega
                                case false =>
                                  have HF2 : Hid (ec = true ↔ ∃ i, i < j + 1 ∧ C[i]? = some l1) := Lib.hid ⟨fun h => HX.out.2 (.inr (HEC.out.1 h)), fun h => by
                                    rcases HX.out.1 h with h' | h'
                                    · exact absurd (HFF.out.2 h') (by simp)
                                    · exact HEC.out.2 h'⟩
                                  go_wp2_with fail
                                  refine HEQ.out.mono ?_
                                  rintro e w9 ⟨rfl, nd9, rfl⟩
                                  have hdd : (w8.drewN nd).drewN nd9 = w8.drewN (nd + nd9) := World.drewN_drewN _ _ _
                                  rw [hdd]
                                  clear hdd
                                  go_wp2
                                  go_roundw
                                  case rel => exact ⟨j + 1, nd + nd9, ec, rfl, by go_num, by omega, rfl, HF2⟩
                                  case measure => simp [intOf]; omega
                              · have hff : ff = true := HFF.out.2 (by
                                  obtain ⟨i, hi⟩ := List.getElem?_of_mem HSM.out.2
                                  exact ⟨i, by have := (List.getElem?_eq_some_iff.1 hi).1; omega, hi⟩)
                                subst hff
                                go_wp2
                                go_meet
                                exact ⟨rfl, nd, rfl⟩
                          case rest =>
                            obtain ⟨rfl, nd9, hwc9⟩ := hcut
                            subst hwc9
                            obtain ⟨F9, S9, h9⟩ := HN6.out.live HL7.out.2 HL7.out.1 H8.out.1 H8.out.2 (below_drewN (Below.refl _ w8) nd9)
                            have hp9 : P2 w0 ((w8.drewN nd9).alloc (.cells #[.slice vo8 l1.length vc8] 35)) R2 (.slice (some ⟨(w8.drewN nd9).heap.size, 0, none⟩) 1 1) := ⟨base2, F9, S9, _, _, by simp, h9⟩
                            have HP9 := Lib.hid hp9
                            clear h9 hp9
                            go_wp2
                            go_roundw
                            case rel => exact ⟨k + 1, R2, _, _, _, rfl, rfl, by go_num, by omega, HP9⟩
                            case measure => simp [intOf]; omega
                        · have hk2 : (k : Int) < 2 := by have := HN6.out.ar har; omega
                          have hp2 : P2 w0 w7 R2 (.slice co C.length cc) := ⟨base2, F7, _, C, V, HE.out.2.2.1, HN6.out.dead hl7 hX7 hk7 HSM.out.2⟩
                          have HP7 := Lib.hid hp2
                          clear har hk7 hl7 hX7 hp2
                          go_wp2_with (go_at_call 8; refine (knum _ _).mono ?_; rintro e w' ⟨rfl, rfl⟩)
                          go_roundw
                          case rel => exact ⟨k + 1, R2, _, _, _, rfl, rfl, by go_num, by omega, HP7⟩
                          case measure => simp [intOf]; omega
                · have HWK := Lib.hid (kwakes wr)
                  go_wp2_with fail
                  refine HWK.out.mono ?_
                  rintro e w9 ⟨rfl, hb9⟩
                  have HB9 : Hid (Below w.heap.size w w9) := Lib.hid (H0.out.1.trans ((HBL.out.trans (hb9.mono HBL.out.size)).mono (by have := H0.out.2.1; omega)))
                  clear hb9
                  go_wp2
                  go_ret
                  exact ⟨rfl, HB9.out⟩
end Go.Proofs.Ytcgdlmlolmfinaa
