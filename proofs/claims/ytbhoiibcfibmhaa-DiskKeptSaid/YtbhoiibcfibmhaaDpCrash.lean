/- The page's disk: Crash. -/


import Derived.Test.YtbhoiibcfibmhaaDpComp
namespace Go.Proofs.Ytbhoiibcfibmhaa
open Go.RowKit Go.MapKept
set_option maxHeartbeats 400000 in
theorem Mod66 (w : World) (p : Int) (h1 : -9223372036854775808 ≤ p) (h2 : p ≤ 9223372036854775807) :
    Calls Try.prog 45 #[.int .i64 p, .int .i64 66] w fun e w' => e = .returned (.int .i64 ((p.tmod 66 + 64 + 2).tmod 66)) ∧ w' = w := by
  have a1 := Int.tmod_lt_of_pos p (b := 66) (by omega)
  have a2 := Int.lt_tmod_of_pos p (b := 66) (by omega)
  obtain ⟨t, ht⟩ : ∃ t, p.tmod 66 = t := ⟨_, rfl⟩
  rw [ht] at a1 a2 ⊢
  have he : Hid ((t + 64 + 2).tmod 66 = if t < 0 then t + 66 else t) := Lib.hid (by
    rw [Int.tmod_eq_emod_of_nonneg (by omega)]
    split <;> omega)
  rw [he.out]
  by_cases h0 : t < 0
  · rw [if_pos h0]
    go_enter Try.func45, Try.ntmps45
    go_wp2
    go_ret
    exact ⟨rfl, rfl⟩
  · rw [if_neg h0]
    have h0' : 0 ≤ t := by omega
    go_enter Try.func45, Try.ntmps45
    go_wp2
    go_ret
    exact ⟨rfl, rfl⟩
section
variable {w w' : World} {base P : Nat} {F S : List Nat} {kv nv fv wv : Value} {Qv : List RV} {s s' : DS}
def CrashQ (w : World) (base P : Nat) (F : List Nat) (s : DS) (picks : List Int) (e : Ending) (w' : World) : Prop :=
  ∃ v, e = .returned v ∧ w'.ownsRow w.heap.size 5 1 v s.K.length (u8s (crashK s.W picks s.K)) ∧ PgG w' base P F { s with off := true } ∧ Left F w w'
set_option maxRecDepth 20000 in
set_option maxHeartbeats 4000000 in
theorem rCrash_g (h : PgG w base P F s) (hz : base ≤ w.heap.size) {pv : Value} {picks : List Int} {B0 : Nat} (hp : Rd w B0 1 pv picks.length (picks.map (Value.int .i64))) (hB0 : B0 ≤ w.heap.size) (hBF : ∀ k ∈ F, B0 ≤ k) (hpl : picks.length ≤ 1000000) (hpr : ∀ p ∈ picks, -9223372036854775808 ≤ p ∧ p ≤ 9223372036854775807) :
    Calls Try.prog 26 #[.pointer (some ⟨P, 0, none⟩), pv] w (CrashQ w base P F s picks) := by
  obtain ⟨kv, nv, fv, wv, Qv, h⟩ := h
  have hPF := h.blk.1
  have hHS := h.size
  have c5 : w.cell? ⟨P, 5, none⟩ = some (.bool s.off) := by rw [h.head.cell]; rfl
  have f5 := h.head.free 5
  have hlW : Left [P] w (w.setCell ⟨P, 5, none⟩ (.bool true)) := (Left.refl _ _).setCell (Or.inl (by simp)) _
  have hD1 := h.head_ (s' := { s with off := true }) hlW ⟨rfl, rfl, rfl⟩ (by simpa using h.head.put 5 (.bool true)) (fun _ h0 => by cases h0)
  have HP0 := Lib.hid hp
  have HPR := Lib.hid hpr
  have HFLT := Lib.hid (fun x (hx : x ∈ F) => (h.lt x hx).2)
  obtain ⟨po, pc, rfl, hpc, hpm⟩ := hp.form
  have hpc2 : pc ≤ 9223372036854775807 := by unfold maxLen at hpm; omega
  have HSZ := Lib.hid hHS
  clear h hp hpr hpm
  go_enter Try.func26, Try.ntmps26
  go_upto_region 2 with fail
  obtain ⟨w1, hw1⟩ : ∃ w1, w1 = w.setCell ⟨P, 5, none⟩ (.bool true) := ⟨_, rfl⟩
  rw [← hw1] at hlW hD1 ⊢
  clear hw1 c5 f5
  have hz1 := hlW.size
  obtain ⟨kg, kc, hkv, _, _, hkc, hkm⟩ := hD1.keptForm
  obtain ⟨ng, nc, hnv, _, _, hnc, hnm⟩ := hD1.nowForm
  obtain ⟨fg, fc, hfv, _, _, hfc, hfm⟩ := hD1.freshForm
  dsimp only at hkv hnv hfv hkc hnc hfc
  subst hkv hnv hfv
  have hC := CopyBytes_n w1 _ _ s.K w1.heap.size rfl (Rd.of_own hD1.kept) (Nat.le_refl _) (by omega)
  have HC := Lib.hid hC
  have c0 : w1.cell? ⟨P, 0, none⟩ = some (.slice (some ⟨kg, 0, none⟩) s.K.length kc) := by rw [hD1.head.cell]; rfl
  have HD1 := Lib.hid hD1
  have HL1 := Lib.hid hlW
  have HP1 := Lib.hid (HP0.out.below (hlW.belowB (B := B0) hB0 (fun k hk => by simp only [List.mem_singleton] at hk; exact hk ▸ hBF P hPF)))
  obtain ⟨len, hlen⟩ : ∃ len, s.K.length = len := ⟨_, rfl⟩
  obtain ⟨N, hN⟩ : ∃ N, s.K.length / 64 = N := ⟨_, rfl⟩
  have HLEN := Lib.hid (And.intro hlen hN)
  have HM := Lib.hid (And.intro hkm (And.intro hnm hfm))
  have hlen2 : len ≤ 262144 := by omega
  have hNl : N ≤ 4096 := by omega
  rw [hlen] at HC c0 hkc hnc
  rw [hN] at hfc
  have hnc2 : nc ≤ 9223372036854775807 := by unfold maxLen at hnm; omega
  have hfc2 : fc ≤ 9223372036854775807 := by unfold maxLen at hfm; omega
  have hlen3 : 64 ≤ len := by omega
  clear hlW hD1 hC hlen hN hkm hnm hfm hHS
  go_wp2_with fail
  refine HC.out.mono ?_
  rintro e w2 ⟨v5, rfl, hown, hb2⟩
  obtain ⟨g, gc, rfl, hBg, hgl, hgc, hgm⟩ := own_form hown (by omega)
  have hgF : g ∉ F := fun hm => by have := (HD1.out.lt g hm).2; omega
  have HD := Lib.hid (HD1.out.left (Left.of_below hb2 []) (by simp))
  have HL := Lib.hid (HL1.out.trans (Left.of_below hb2 [P]) (fun x hx => .inl hx))
  have HP := Lib.hid (HP1.out.belowH hb2 (by omega))
  have HO2 : Hid (w2.ownsRow w.heap.size 5 1 (.slice (some ⟨g, 0, none⟩) len gc) len (u8s s.K)) := Lib.hid (own_base hown hz1)
  have hgc2 : gc ≤ 9223372036854775807 := by unfold maxLen at hgm; omega
  have hzz := hb2.size
  have HA : Hid (crashGo s.W picks (List.range' 0 (N - 0)) 0 s.K = crashK s.W picks s.K) := Lib.hid (by unfold crashK; rw [HLEN.out.2, List.range_eq_range', Nat.sub_zero])
  obtain ⟨A, hA⟩ : ∃ A, crashK s.W picks s.K = A := ⟨_, rfl⟩
  rw [hA] at HA
  have HAA := Lib.hid hA
  clear hown hb2 hgm hA
  go_wp2
  go_loopw [6, 7] (fun kk i wr => ∃ (k m : Nat) (cur : List UInt8), kk = .int .i64 k ∧ i = .int .i64 m ∧ m ≤ N ∧ k ≤ m ∧ cur.length = len ∧ Hid (wr.ownsRow w.heap.size 5 1 (.slice (some ⟨g, 0, none⟩) len gc) len (u8s cur)) ∧ Hid (crashGo s.W picks (List.range' m (N - m)) k cur = A) ∧ Hid (Left [g] w2 wr)) (fun _ i _ => N - (intOf i).toNat)
  case atStart => exact ⟨0, 0, s.K, rfl, rfl, Nat.zero_le _, Nat.le_refl _, HLEN.out.1, HO2, HA, Lib.hid (Left.refl _ _)⟩
  case round =>
    obtain ⟨k, m, cur, rfl, rfl, hm, hkm, hcur, HO, HAr, HLr⟩ := hrel
    have HCUR := Lib.hid hcur
    have hzr := HLr.out.size
    have hDr := HD.out.left HLr.out (by simpa using hgF)
    have r2 : wr.cell? ⟨P, 2, none⟩ = some (.slice (some ⟨fg, 0, none⟩) N fc) := by rw [hDr.head.cell, ← HLEN.out.2]; rfl
    have r1 : wr.cell? ⟨P, 1, none⟩ = some (.slice (some ⟨ng, 0, none⟩) len nc) := by rw [hDr.head.cell, ← HLEN.out.1]; rfl
    clear hcur
    by_cases hlt : m < N
    · have hm64 : 64 * m + 64 ≤ len := by have := HLEN.out; omega
      have hcl : 64 * m + 64 ≤ cur.length := by rw [HCUR.out]; exact hm64
      have HCL := Lib.hid hcl
      have hrg : List.range' m (N - m) = m :: List.range' (m + 1) (N - (m + 1)) := by
        rw [show N - m = (N - (m + 1)) + 1 by omega, List.range'_succ]
      have hAr := HAr.out
      rw [hrg] at hAr
      have hfr := hDr.fresh
      dsimp only at hfr
      rw [HLEN.out.2] at hfr
      have fcell : wr.cell? ⟨fg, m, none⟩ = some (.bool (lookW s.W (m : Nat)).isSome) := by
        rw [hfr.cellAt m (by omega)]
        unfold bools
        rw [List.getElem?_map, frL_at (by rw [HLEN.out.1]; exact hm64)]
        rfl
      cases hlk : lookW s.W (m : Nat) with
      | none =>
        rw [hlk] at fcell
        rw [crashGo_none hlk] at hAr
        have HAn := Lib.hid hAr
        simp only [Option.isSome_none] at fcell
        clear hrg hAr hfr hcl hDr
        go_wp2
        go_roundw
        case rel => exact ⟨k, m + 1, cur, by go_num, by go_num, by omega, by omega, by have := HCUR.out; first | exact this | (rw [setSec_length HCL.out (by first | exact HB64.out | exact HTL.out)]; exact this), HO, HAn, HLr⟩
        case measure => simp [intOf]; omega
      | some b =>
        rw [hlk] at fcell
        simp only [Option.isSome_some] at fcell
        have hW64 : ∀ p ∈ s.W, p.2.length = 64 := wOk_of hDr.wok
        have hb64 : b.length = 64 := hW64 _ (lookW_mem hlk)
        have hbs : secN (flushK s.K s.W) m = b := by rw [flushK_sec hW64 (by rw [HLEN.out.1]; exact hm64), hlk]; rfl
        have hnow : wr.ownsRow base 5 1 (.slice (some ⟨ng, 0, none⟩) len nc) len (u8s (flushK s.K s.W)) := by
          have := hDr.now
          dsimp only at this
          rw [HLEN.out.1] at this
          exact this
        have hsrc := own_sec hnow hm64 hnc HM.out.2.1
        rw [hbs] at hsrc
        unfold oldV at hsrc
        have HSTEP := Lib.hid (fun p (hp : pickAt picks k = p) => show crashGo s.W picks (List.range' (m + 1) (N - (m + 1))) (k + 1) (setSec cur m (tear p (secN cur m) b)) = A by rw [crashGo_some hlk, hp] at hAr; exact hAr)
        obtain ⟨cw, hWh, hcn, hmk⟩ := own_whole HO.out
        have HCP := Lib.hid (fun (q : Nat) (h0 : 0 < q) (h1 : q ≤ 64) => run_copyN (w := wr.drew) (g := g) (off := 64 * m) (q := q) (dCap := gc - 64 * m) (ty := 3) (cur := cw) hWh (show Rd wr.drew wr.heap.size 1 _ 64 _ from hsrc) h0 h1 (by omega) (u8s_one b))
        have HFIN := Lib.hid (fun (w5 : World) (q : Nat) (hq : q ≤ 64) (h5 : Whole w5 g 5 (cw.take (64 * m) ++ ((u8s b).take q ++ cw.drop (64 * m + q)))) => hmk w5 (64 * m) (b.take q) (by rw [List.length_take]; omega) (by
          have e1 : (b.take q).length = q := by rw [List.length_take]; omega
          have e2 : u8s (b.take q) = (u8s b).take q := by unfold u8s; rw [List.map_take]
          rw [e1, e2]
          exact h5))
        have HATG := Lib.hid (at_any wr.drew g len gc m hm64 hgc hlen2 (by unfold maxLen; omega))
        have HATN := Lib.hid (at_any wr.drew ng len nc m hm64 hnc hlen2 HM.out.2.1)
        have HB64 := Lib.hid hb64
        have hPg : P ∉ [g] := by simp only [List.mem_singleton]; exact fun e => hgF (e ▸ hPF)
        have hac : 64 * m + 64 ≤ gc := by omega
        clear hrg hAr hfr hcl hDr hW64 hb64 hbs hnow hsrc hWh hcn hmk hlk
        obtain ⟨p, hpk⟩ : ∃ p, pickAt picks k = p := ⟨_, rfl⟩
        have hp66 : p < 66 := hpk ▸ pickAt_lt picks k
        have HST := Lib.hid (HSTEP.out p hpk)
        by_cases hkp : k < picks.length
        · obtain ⟨pb, pi, pu, rfl, hpb, hpu, hpc0⟩ := HP.out.at_ (k := k) (by omega)
          obtain ⟨e, he⟩ : ∃ e, picks[k]? = some e := ⟨_, List.getElem?_eq_getElem hkp⟩
          have hpe : pu = .int .i64 e := by
            rw [List.getElem?_map, he] at hpu
            simpa using hpu.symm
          subst hpe
          have p0 := cell_left' hpc0 HLr.out (by
            simp only [List.mem_singleton]
            omega)
          obtain ⟨hpk1, hpk2, hpk3⟩ := pickAt_some he
          rw [hpk] at hpk1
          obtain ⟨he1, he2⟩ := HPR.out e (List.mem_of_getElem? he)
          have HMOD := Lib.hid (fun w0 => Mod66 w0 e he1 he2)
          have HPK := Lib.hid hpk1
          clear hpu hpc0 he hpk hpk1 hpk2 hpk3
          rcases (show p = 0 ∨ p = 1 ∨ ∃ q, p = q + 1 ∧ 1 ≤ q by rcases p with _ | _ | q; exact .inl rfl; exact .inr (.inl rfl); exact .inr (.inr ⟨q + 1, rfl, by omega⟩)) with rfl | rfl | ⟨q, rfl, hq1⟩
          · have HSAME : Hid (crashGo s.W picks (List.range' (m + 1) (N - (m + 1))) (k + 1) cur = A) := Lib.hid (by
              have := HST.out
              rw [show tear 0 (secN cur m) b = secN cur m from if_pos rfl, setSec_same HCL.out] at this
              exact this)
            have hP : (e.tmod 66 + 64 + 2).tmod 66 = 0 := by have := HPK.out; omega
            have HPP := Lib.hid hP
            clear hP
            go_wp2_with (go_at_call 45; refine (HMOD.out _).mono ?_; rintro e w' ⟨rfl, rfl⟩; rw [HPP.out])
            go_roundw
            case rel => exact ⟨k + 1, m + 1, cur, by go_num, by go_num, by omega, by omega, by have := HCUR.out; first | exact this | (rw [setSec_length HCL.out (by first | exact HB64.out | exact HTL.out)]; exact this), HO, HSAME, HLr⟩
            case measure => simp [intOf]; omega
          · have hP : (e.tmod 66 + 64 + 2).tmod 66 = 1 := by have := HPK.out; omega
            have HPP := Lib.hid hP
            obtain ⟨w5, hcp, hW5, hl5⟩ := HCP.out 64 (by omega) (by omega)
            have hTQ := tear_q (cur := cur) (b := b) (m := m) (q := 64) HCL.out (by omega) (by omega) HB64.out 1 (.inl ⟨rfl, rfl⟩)
            have HN5 := Lib.hid (HFIN.out w5 64 (by omega) hW5)
            rw [hTQ] at HN5
            have HTL := Lib.hid (tear_length (p := 1) (old := secN cur m) (by omega) (secN_length HCL.out) HB64.out)
            have HL6 := Lib.hid (HLr.out.trans (Left.of_drew hl5) (fun x hx => .inl hx))
            have r5 := cell_left' r1 (Left.of_drew hl5) hPg
            clear hP hTQ hW5 hl5
            go_upto_region 13 with (go_at_call 45; refine (HMOD.out _).mono ?_; rintro e w' ⟨rfl, rfl⟩; rw [HPP.out])
            refine wp_region_held_drew (S := fun wx => wx.cell? ⟨P, 1, none⟩ = some (.slice (some ⟨ng, 0, none⟩) len nc)) (by kernel_rfl) r1 (fun hHeld => ?_)
            refine take_h 0 ⟨?_, ?_, ?_, by kernel_rfl, by kernel_rfl, by kernel_rfl, ?_, ?_, by assumption, ?_⟩
            rotate_left 2
            · (simp only [List.getElem?_toArray, List.getElem?_cons_zero]; exact rfl)
            · exact fun _ _ _ h => h
            · first
                | (refine Or.inr ⟨by rfl, ?_⟩; exact rfl)
                | (refine Or.inl ⟨by rfl, ?_⟩
                   intro w hSw
                   (try dsimp only at hSw)
                   (try go_split_ands)
                   go_simp
                   (first | done | with_reducible rfl))
            try simp only [Act.put, List.setIfInBounds_toArray, List.set_cons_zero, List.set_cons_succ]
            refine take_h 1 ⟨?_, ?_, ?_, by kernel_rfl, by kernel_rfl, by kernel_rfl, ?_, ?_, by assumption, ?_⟩
            rotate_left 2
            · (simp only [List.getElem?_toArray, List.getElem?_cons_succ, List.getElem?_cons_zero]; exact rfl)
            · exact fun _ _ _ h => h
            · first
                | (refine Or.inr ⟨by rfl, ?_⟩; exact rfl)
                | (refine Or.inl ⟨by rfl, ?_⟩
                   intro w hSw
                   (try dsimp only at hSw)
                   (try go_split_ands)
                   go_simp
                   (first | done | with_reducible rfl))
            try simp only [Act.put, List.setIfInBounds_toArray, List.set_cons_zero, List.set_cons_succ]
            refine take_h 3 ⟨?_, ?_, ?_, by kernel_rfl, by kernel_rfl, by kernel_rfl, ?_, ?_, by assumption, ?_⟩
            rotate_left 2
            · (simp only [List.getElem?_toArray, List.getElem?_cons_succ, List.getElem?_cons_zero]; exact rfl)
            · exact fun _ _ _ h => h
            · first
                | (refine Or.inr ⟨by rfl, ?_⟩; exact rfl)
                | (refine Or.inl ⟨by rfl, ?_⟩
                   intro w hSw
                   (try dsimp only at hSw)
                   (try go_split_ands)
                   go_simp
                   (first | done | with_reducible rfl))
            try simp only [Act.put, List.setIfInBounds_toArray, List.set_cons_zero, List.set_cons_succ]
            refine take_h 4 ⟨?_, ?_, ?_, by kernel_rfl, by kernel_rfl, by kernel_rfl, ?_, ?_, by assumption, ?_⟩
            rotate_left 2
            · (simp only [List.getElem?_toArray, List.getElem?_cons_succ, List.getElem?_cons_zero]; exact rfl)
            · exact fun _ _ _ h => h
            · first
                | (refine Or.inr ⟨by rfl, ?_⟩; exact rfl)
                | (refine Or.inl ⟨by rfl, ?_⟩
                   intro w hSw
                   (try dsimp only at hSw)
                   (try go_split_ands)
                   go_simp
                   (first | done | with_reducible rfl))
            try simp only [Act.put, List.setIfInBounds_toArray, List.set_cons_zero, List.set_cons_succ]
            refine take_h 5 ⟨?_, ?_, ?_, by kernel_rfl, by kernel_rfl, by kernel_rfl, ?_, ?_, by assumption, ?_⟩
            rotate_left 2
            · (simp only [List.getElem?_toArray, List.getElem?_cons_succ, List.getElem?_cons_zero]; exact rfl)
            · exact fun _ _ _ h => h
            · first
                | (refine Or.inr ⟨by rfl, ?_⟩; exact rfl)
                | (refine Or.inl ⟨by rfl, ?_⟩
                   intro w hSw
                   (try dsimp only at hSw)
                   (try go_split_ands)
                   go_simp
                   (first | done | with_reducible rfl))
            try simp only [Act.put, List.setIfInBounds_toArray, List.set_cons_zero, List.set_cons_succ]
            refine take_h 6 ⟨?_, ?_, ?_, by kernel_rfl, by kernel_rfl, by kernel_rfl, ?_, ?_, by assumption, ?_⟩
            rotate_left 2
            · (simp only [List.getElem?_toArray, List.getElem?_cons_succ, List.getElem?_cons_zero]; exact rfl)
            · exact fun _ _ _ h => h
            · first
                | (refine Or.inr ⟨by rfl, ?_⟩; exact rfl)
                | (refine Or.inl ⟨by rfl, ?_⟩
                   intro w hSw
                   (try dsimp only at hSw)
                   (try go_split_ands)
                   go_simp
                   (first | done | with_reducible rfl))
            try simp only [Act.put, List.setIfInBounds_toArray, List.set_cons_zero, List.set_cons_succ]
            refine take_h 7 ⟨?_, ?_, ?_, by kernel_rfl, by kernel_rfl, by kernel_rfl, ?_, ?_, by assumption, ?_⟩
            rotate_left 2
            · (simp only [List.getElem?_toArray, List.getElem?_cons_succ, List.getElem?_cons_zero]; exact rfl)
            · exact fun _ _ _ h => h
            · first
                | (refine Or.inr ⟨by rfl, ?_⟩; exact rfl)
                | (refine Or.inl ⟨by rfl, ?_⟩
                   intro w hSw
                   (try dsimp only at hSw)
                   (try go_split_ands)
                   go_simp
                   (first | done | with_reducible rfl))
            try simp only [Act.put, List.setIfInBounds_toArray, List.set_cons_zero, List.set_cons_succ]
            refine wpAnyH_ready (rs := [2]) (by kernel_rfl) (by simp) ?_
            refine call_h 2 ⟨?_, ?_, fun K hK => ?_⟩
            rotate_left 1
            · (simp only [List.getElem?_toArray, List.getElem?_cons_succ, List.getElem?_cons_zero]; exact rfl)
            go_simp
            (go_at_call 44; refine HATG.out.mono ?_; rintro e w' ⟨rfl, rfl⟩; unfold oldV)
            go_wp2_with fail
            refine hK.out _ _ r1 (fun hHeld => ?_)
            clear hK K
            (try simp only [Act.put, List.setIfInBounds_toArray, List.set_cons_zero, List.set_cons_succ])
            refine wpAnyH_ready (rs := [8]) (by kernel_rfl) (by simp) ?_
            refine call_h 8 ⟨?_, ?_, fun K hK => ?_⟩
            rotate_left 1
            · (simp only [List.getElem?_toArray, List.getElem?_cons_succ, List.getElem?_cons_zero]; exact rfl)
            go_simp
            (go_at_call 44; refine HATN.out.mono ?_; rintro e w' ⟨rfl, rfl⟩; unfold oldV)
            go_wp2_with fail
            refine hK.out _ _ r1 (fun hHeld => ?_)
            clear hK K
            (try simp only [Act.put, List.setIfInBounds_toArray, List.set_cons_zero, List.set_cons_succ])
            refine wpAnyH_ready (rs := [9]) (by kernel_rfl) (by simp) ?_
            refine call_h 9 ⟨?_, ?_, fun K hK => ?_⟩
            rotate_left 1
            · (simp only [List.getElem?_toArray, List.getElem?_cons_succ, List.getElem?_cons_zero]; exact rfl)
            go_simp
            skip
            go_wp2_with fail
            refine hK.out _ _ r5 (fun hHeld => ?_)
            clear hK K
            (try simp only [Act.put, List.setIfInBounds_toArray, List.set_cons_zero, List.set_cons_succ])
            refine wpAnyH_done (by kernel_rfl) ?_ _
            clear hHeld
            go_wp2
            go_roundw
            case rel => exact ⟨k + 1, m + 1, setSec cur m (tear 1 (secN cur m) b), by go_num, by go_num, by omega, by omega, by have := HCUR.out; first | exact this | (rw [setSec_length HCL.out (by first | exact HB64.out | exact HTL.out)]; exact this), HN5, HST, HL6⟩
            case measure => simp [intOf]; omega
          · have hP : (e.tmod 66 + 64 + 2).tmod 66 = (q : Int) + 1 := by have := HPK.out; omega
            have HPP := Lib.hid hP
            obtain ⟨w5, hcp, hW5, hl5⟩ := HCP.out q (by omega) (by omega)
            have hTQ := tear_q (cur := cur) (b := b) (m := m) (q := q) HCL.out (by omega) (by omega) HB64.out (q + 1) (.inr rfl)
            have HN5 := Lib.hid (HFIN.out w5 q (by omega) hW5)
            rw [hTQ] at HN5
            have HTL := Lib.hid (tear_length (p := q + 1) (old := secN cur m) (by omega) (secN_length HCL.out) HB64.out)
            have HL6 := Lib.hid (HLr.out.trans (Left.of_drew hl5) (fun x hx => .inl hx))
            have r5 := cell_left' r1 (Left.of_drew hl5) hPg
            have q4 : IntKind.i64.wrap (q : Int) = (q : Int) := IntWalk.i64_in _ ⟨by omega, by omega⟩
            have q6 : (q : Int) ≤ ((gc - 64 * m : Nat) : Int) := by omega
            clear hP hTQ hW5 hl5
            go_upto_region 15 with (go_at_call 45; refine (HMOD.out _).mono ?_; rintro e w' ⟨rfl, rfl⟩; rw [HPP.out])
            refine wp_region_held_drew (S := fun wx => wx.cell? ⟨P, 1, none⟩ = some (.slice (some ⟨ng, 0, none⟩) len nc)) (by kernel_rfl) r1 (fun hHeld => ?_)
            refine take_h 0 ⟨?_, ?_, ?_, by kernel_rfl, by kernel_rfl, by kernel_rfl, ?_, ?_, by assumption, ?_⟩
            rotate_left 2
            · (simp only [List.getElem?_toArray, List.getElem?_cons_zero]; exact rfl)
            · exact fun _ _ _ h => h
            · first
                | (refine Or.inr ⟨by rfl, ?_⟩; exact rfl)
                | (refine Or.inl ⟨by rfl, ?_⟩
                   intro w hSw
                   (try dsimp only at hSw)
                   (try go_split_ands)
                   go_simp
                   (first | done | with_reducible rfl))
            try simp only [Act.put, List.setIfInBounds_toArray, List.set_cons_zero, List.set_cons_succ]
            refine take_h 1 ⟨?_, ?_, ?_, by kernel_rfl, by kernel_rfl, by kernel_rfl, ?_, ?_, by assumption, ?_⟩
            rotate_left 2
            · (simp only [List.getElem?_toArray, List.getElem?_cons_succ, List.getElem?_cons_zero]; exact rfl)
            · exact fun _ _ _ h => h
            · first
                | (refine Or.inr ⟨by rfl, ?_⟩; exact rfl)
                | (refine Or.inl ⟨by rfl, ?_⟩
                   intro w hSw
                   (try dsimp only at hSw)
                   (try go_split_ands)
                   go_simp
                   (first | done | with_reducible rfl))
            try simp only [Act.put, List.setIfInBounds_toArray, List.set_cons_zero, List.set_cons_succ]
            refine take_h 3 ⟨?_, ?_, ?_, by kernel_rfl, by kernel_rfl, by kernel_rfl, ?_, ?_, by assumption, ?_⟩
            rotate_left 2
            · (simp only [List.getElem?_toArray, List.getElem?_cons_succ, List.getElem?_cons_zero]; exact rfl)
            · exact fun _ _ _ h => h
            · first
                | (refine Or.inr ⟨by rfl, ?_⟩; exact rfl)
                | (refine Or.inl ⟨by rfl, ?_⟩
                   intro w hSw
                   (try dsimp only at hSw)
                   (try go_split_ands)
                   go_simp
                   (first | done | with_reducible rfl))
            try simp only [Act.put, List.setIfInBounds_toArray, List.set_cons_zero, List.set_cons_succ]
            refine take_h 4 ⟨?_, ?_, ?_, by kernel_rfl, by kernel_rfl, by kernel_rfl, ?_, ?_, by assumption, ?_⟩
            rotate_left 2
            · (simp only [List.getElem?_toArray, List.getElem?_cons_succ, List.getElem?_cons_zero]; exact rfl)
            · exact fun _ _ _ h => h
            · first
                | (refine Or.inr ⟨by rfl, ?_⟩; exact rfl)
                | (refine Or.inl ⟨by rfl, ?_⟩
                   intro w hSw
                   (try dsimp only at hSw)
                   (try go_split_ands)
                   go_simp
                   (first | done | with_reducible rfl))
            try simp only [Act.put, List.setIfInBounds_toArray, List.set_cons_zero, List.set_cons_succ]
            refine take_h 6 ⟨?_, ?_, ?_, by kernel_rfl, by kernel_rfl, by kernel_rfl, ?_, ?_, by assumption, ?_⟩
            rotate_left 2
            · (simp only [List.getElem?_toArray, List.getElem?_cons_succ, List.getElem?_cons_zero]; exact rfl)
            · exact fun _ _ _ h => h
            · first
                | (refine Or.inr ⟨by rfl, ?_⟩; exact rfl)
                | (refine Or.inl ⟨by rfl, ?_⟩
                   intro w hSw
                   (try dsimp only at hSw)
                   (try go_split_ands)
                   go_simp
                   (first | done | with_reducible rfl))
            try simp only [Act.put, List.setIfInBounds_toArray, List.set_cons_zero, List.set_cons_succ]
            refine take_h 7 ⟨?_, ?_, ?_, by kernel_rfl, by kernel_rfl, by kernel_rfl, ?_, ?_, by assumption, ?_⟩
            rotate_left 2
            · (simp only [List.getElem?_toArray, List.getElem?_cons_succ, List.getElem?_cons_zero]; exact rfl)
            · exact fun _ _ _ h => h
            · first
                | (refine Or.inr ⟨by rfl, ?_⟩; exact rfl)
                | (refine Or.inl ⟨by rfl, ?_⟩
                   intro w hSw
                   (try dsimp only at hSw)
                   (try go_split_ands)
                   go_simp
                   (first | done | with_reducible rfl))
            try simp only [Act.put, List.setIfInBounds_toArray, List.set_cons_zero, List.set_cons_succ]
            refine take_h 8 ⟨?_, ?_, ?_, by kernel_rfl, by kernel_rfl, by kernel_rfl, ?_, ?_, by assumption, ?_⟩
            rotate_left 2
            · (simp only [List.getElem?_toArray, List.getElem?_cons_succ, List.getElem?_cons_zero]; exact rfl)
            · exact fun _ _ _ h => h
            · first
                | (refine Or.inr ⟨by rfl, ?_⟩; exact rfl)
                | (refine Or.inl ⟨by rfl, ?_⟩
                   intro w hSw
                   (try dsimp only at hSw)
                   (try go_split_ands)
                   go_simp
                   (first | done | with_reducible rfl))
            try simp only [Act.put, List.setIfInBounds_toArray, List.set_cons_zero, List.set_cons_succ]
            refine take_h 9 ⟨?_, ?_, ?_, by kernel_rfl, by kernel_rfl, by kernel_rfl, ?_, ?_, by assumption, ?_⟩
            rotate_left 2
            · (simp only [List.getElem?_toArray, List.getElem?_cons_succ, List.getElem?_cons_zero]; exact rfl)
            · exact fun _ _ _ h => h
            · first
                | (refine Or.inr ⟨by rfl, ?_⟩; exact rfl)
                | (refine Or.inl ⟨by rfl, ?_⟩
                   intro w hSw
                   (try dsimp only at hSw)
                   (try go_split_ands)
                   go_simp
                   (first | done | with_reducible rfl))
            try simp only [Act.put, List.setIfInBounds_toArray, List.set_cons_zero, List.set_cons_succ]
            refine take_h 10 ⟨?_, ?_, ?_, by kernel_rfl, by kernel_rfl, by kernel_rfl, ?_, ?_, by assumption, ?_⟩
            rotate_left 2
            · (simp only [List.getElem?_toArray, List.getElem?_cons_succ, List.getElem?_cons_zero]; exact rfl)
            · exact fun _ _ _ h => h
            · first
                | (refine Or.inr ⟨by rfl, ?_⟩; exact rfl)
                | (refine Or.inl ⟨by rfl, ?_⟩
                   intro w hSw
                   (try dsimp only at hSw)
                   (try go_split_ands)
                   go_simp
                   (first | done | with_reducible rfl))
            try simp only [Act.put, List.setIfInBounds_toArray, List.set_cons_zero, List.set_cons_succ]
            refine wpAnyH_ready (rs := [2]) (by kernel_rfl) (by simp) ?_
            refine call_h 2 ⟨?_, ?_, fun K hK => ?_⟩
            rotate_left 1
            · (simp only [List.getElem?_toArray, List.getElem?_cons_succ, List.getElem?_cons_zero]; exact rfl)
            go_simp
            (go_at_call 44; refine HATG.out.mono ?_; rintro e w' ⟨rfl, rfl⟩; unfold oldV)
            go_wp2_with fail
            refine hK.out _ _ r1 (fun hHeld => ?_)
            clear hK K
            (try simp only [Act.put, List.setIfInBounds_toArray, List.set_cons_zero, List.set_cons_succ])
            refine take_h 5 ⟨?_, ?_, ?_, by kernel_rfl, by kernel_rfl, by kernel_rfl, ?_, ?_, by assumption, ?_⟩
            rotate_left 2
            · (simp only [List.getElem?_toArray, List.getElem?_cons_succ, List.getElem?_cons_zero]; exact rfl)
            · exact fun _ _ _ h => h
            · first
                | (refine Or.inr ⟨by rfl, ?_⟩; exact rfl)
                | (refine Or.inl ⟨by rfl, ?_⟩
                   intro w hSw
                   (try dsimp only at hSw)
                   (try go_split_ands)
                   go_simp
                   (first | done | with_reducible rfl))
            try simp only [Act.put, List.setIfInBounds_toArray, List.set_cons_zero, List.set_cons_succ]
            refine wpAnyH_ready (rs := [11]) (by kernel_rfl) (by simp) ?_
            refine call_h 11 ⟨?_, ?_, fun K hK => ?_⟩
            rotate_left 1
            · (simp only [List.getElem?_toArray, List.getElem?_cons_succ, List.getElem?_cons_zero]; exact rfl)
            go_simp
            (go_at_call 44; refine HATN.out.mono ?_; rintro e w' ⟨rfl, rfl⟩; unfold oldV)
            go_wp2_with fail
            refine hK.out _ _ r1 (fun hHeld => ?_)
            clear hK K
            (try simp only [Act.put, List.setIfInBounds_toArray, List.set_cons_zero, List.set_cons_succ])
            refine wpAnyH_ready (rs := [12]) (by kernel_rfl) (by simp) ?_
            refine call_h 12 ⟨?_, ?_, fun K hK => ?_⟩
            rotate_left 1
            · (simp only [List.getElem?_toArray, List.getElem?_cons_succ, List.getElem?_cons_zero]; exact rfl)
            go_simp
            skip
            go_wp2_with fail
            refine hK.out _ _ r5 (fun hHeld => ?_)
            clear hK K
            (try simp only [Act.put, List.setIfInBounds_toArray, List.set_cons_zero, List.set_cons_succ])
            refine wpAnyH_done (by kernel_rfl) ?_ _
            clear hHeld
            go_wp2
            go_roundw
            case rel => exact ⟨k + 1, m + 1, setSec cur m (tear (q + 1) (secN cur m) b), by go_num, by go_num, by omega, by omega, by have := HCUR.out; first | exact this | (rw [setSec_length HCL.out (by first | exact HB64.out | exact HTL.out)]; exact this), HN5, HST, HL6⟩
            case measure => simp [intOf]; omega
        · have hp0 : p = 0 := by rw [← hpk, pickAt_none (by omega)]
          subst hp0
          have HSAME : Hid (crashGo s.W picks (List.range' (m + 1) (N - (m + 1))) (k + 1) cur = A) := Lib.hid (by
            have := HST.out
            rw [show tear 0 (secN cur m) b = secN cur m from if_pos rfl, setSec_same HCL.out] at this
            exact this)
          clear hpk
          go_wp2
          go_roundw
          case rel => exact ⟨k + 1, m + 1, cur, by go_num, by go_num, by omega, by omega, by have := HCUR.out; first | exact this | (rw [setSec_length HCL.out (by first | exact HB64.out | exact HTL.out)]; exact this), HO, HSAME, HLr⟩
          case measure => simp [intOf]; omega
    · have hmN : m = N := by omega
      subst hmN
      have hcA : cur = A := by
        have := HAr.out
        rw [Nat.sub_self] at this
        exact this
      subst hcA
      have hE : CrashQ w base P F s picks (.returned (.slice (some ⟨g, 0, none⟩) len gc)) wr := by
        refine ⟨_, rfl, ?_, ⟨_, _, _, _, _, hDr⟩, ?_⟩
        · rw [HLEN.out.1, HAA.out]
          exact HO.out
        · refine (HL.out.mono (T := F) (by simpa using hPF)).trans HLr.out (fun x hx => .inr ?_)
          simp only [List.mem_singleton] at hx
          omega
      have HE := Lib.hid hE
      clear hE hDr HAr
      go_wp2
      go_ret
      exact HE.out
end
end Go.Proofs.Ytbhoiibcfibmhaa
