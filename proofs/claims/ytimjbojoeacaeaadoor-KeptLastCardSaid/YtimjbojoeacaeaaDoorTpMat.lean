/- Whether a filter matches a name: contracts of topic.Fits, topic.Match, Name, Filter, and of the page's own Filter, Match. -/

import Derived.Test.YtimjbojoeacaeaaDoorTpFil
namespace Go.Proofs.YtimjbojoeacaeaaDoor
open Go.RowKit Go.Shelf Go.Proofs

theorem lev_r1 {x : List UInt8} {l : Bool} (h1 : ¬ hasB x = true) : levelOk x l = true := by
  unfold levelOk; rw [Bool.eq_false_iff.2 h1]; rfl
theorem lev_r3 {x : List UInt8} {l : Bool} (h1 : hasB x = true) (h2 : ¬ x = [43]) (h3 : ¬ x = [35]) : levelOk x l = false := by
  unfold levelOk; rw [h1, beq_eq_false_iff_ne.2 h2, beq_eq_false_iff_ne.2 h3]; rfl

theorem no43 {x : List UInt8} {p : Prop} (h1 : ¬ x = [43]) (h2 : (!x == [43]) = false) : p := by
  simp at h2; exact absurd h2 h1
theorem lvs_mem (l : List UInt8) : ∀ x ∈ lvs l, x.length ≤ l.length := by
  induction l with
  | nil => intro x hx; simp [lvs] at hx; simp [hx]
  | cons c r ih =>
    intro x hx
    rw [lvs] at hx
    split at hx
    · rcases List.mem_cons.1 hx with rfl | h
      · simp
      · have := ih x h; simp; omega
    · rcases List.mem_cons.1 hx with rfl | h
      · have h1 : (lvs r).headD [] ∈ lvs r := by rw [lvs_cons r]; exact List.mem_cons_self
        have := ih _ h1
        simp at this ⊢; omega
      · have := ih x (by rw [lvs_cons r]; exact List.mem_cons_of_mem _ h)
        simp; omega
theorem lvs_at {s : ByteArray} {L : List (List UInt8)} (hL : lvs s.data.toList = L) {k : Nat} (h : k < L.length) : (bs L[k]).size ≤ s.size := by
  rw [bs_size, ← size_list]
  exact lvs_mem _ _ (by rw [hL]; exact List.getElem_mem h)

set_option maxHeartbeats 2000000 in
theorem rFilter_any (w : World) (s : ByteArray) (hs : s.size ≤ 100000) (hE : Env w) :
    Calls Tryd.prog 12 #[.string s] w fun e w' => e = .returned (.bool (ft s)) ∧ Below w.heap.size w w' := by
  have hLs := lvs_length s.data.toList
  rw [size_list] at hLs
  cases ht : tx s
  · have HT := Lib.hid ht
    have HF : Hid (ft s = false) := Lib.hid (by unfold ft; rw [ht]; rfl)
    clear ht
    go_enter Tryd.func12, Tryd.ntmps12
    go_wp2_with (go_at_call 49; refine (rText_any _ s (by omega) hE).mono ?_; rintro e w' ⟨rfl, hb1⟩; rw [HT.out])
    go_ret
    exact ⟨by rw [HF.out]; rfl, hb1⟩
  · have HT := Lib.hid ht
    have HF : Hid (ft s = levelsOk (lvs s.data.toList)) := Lib.hid (by unfold ft; rw [ht]; rfl)
    clear ht
    go_enter Tryd.func12, Tryd.ntmps12
    go_wp2_with (go_at_call 49; refine (rText_any _ s (by omega) hE).mono ?_; rintro e w1 ⟨rfl, hb1⟩; rw [HT.out])
    have hz1 := hb1.size
    go_wp2_with fail
    refine (levels_any _ s hs).mono ?_
    rintro e w2 ⟨v, rfl, hown, hb2⟩
    have hb := hb1.trans (hb2.mono hz1)
    obtain ⟨L, hL⟩ : ∃ L, lvs s.data.toList = L := ⟨_, rfl⟩
    rw [hL] at hown hLs
    have hr := Rd.of_own hown
    rw [← List.length_map (f := strV)] at hr
    obtain ⟨ao, cap, rfl, hc1, hc2⟩ := hr.form
    rw [List.length_map] at hr hc1
    have hc3 : cap ≤ 9223372036854775807 := by unfold maxLen at hc2; omega
    have HR := Lib.hid hr
    have HQ : Hid (ft s = levelsOk L) := Lib.hid (by rw [HF.out, hL])
    simp only [List.length_map]
    have HL := Lib.hid hL
    clear hown hr hc2 hL HF
    go_wp2
    go_loop [4] (fun i => ∃ k : Nat, k ≤ L.length ∧ i = .int .i64 k ∧ Hid (ft s = levelsOk (L.drop k))) (fun i => L.length - (intOf i).toNat)
    case atStart => exact ⟨0, by omega, rfl, HQ⟩
    case round =>
      obtain ⟨k, hk, rfl, HK⟩ := hrel
      by_cases hlt : k < L.length
      · obtain ⟨b, o, rfl, hcell⟩ := rd_str HR.out rfl hlt
        obtain ⟨x, hx⟩ : ∃ x, x = L[k] := ⟨_, rfl⟩
        rw [← hx] at hcell
        have e1 : (bs x).data.toList = x := bs_list x
        have e2 : (bs x).toList = x := by rw [Lib.toList_data, e1]
        have hsx : (bs x).size ≤ 9223372036854775807 := by
          have := lvs_at HL.out hlt
          rw [← hx] at this
          omega
        have HX := Lib.hid hx
        clear hx
        by_cases hle : k + 1 < L.length
        · have HD : Hid (ft s = (levelOk x false && levelsOk (L.drop (k + 1)))) := Lib.hid (by
            rw [HK.out, drop_at hlt, ← HX.out, levelsOk, drop_at hle]; rfl)
          have hle2 : (k : Int) < (L.length : Int) - 1 := by omega
          go_wp2_with (go_at_call 51; refine (has_any _ _ hsx).mono ?_; rintro e w' ⟨rfl, rfl⟩)
          all_goals first
            | exact no43 (by assumption) (by assumption)
            | (go_ret; exact ⟨by rw [fb HD.out (by first | exact lev_r3 (by assumption) (by assumption) (by assumption) | exact lev_b3 (by assumption))]; rfl, hb⟩)
            | (go_round
               case rel => exact ⟨k + 1, by omega, by go_num, Lib.hid (fg HD.out (by first | exact lev_r1 (by assumption) | exact lev_g1 (by assumption) | exact lev_g2 (by assumption)))⟩
               case measure => simp [intOf]; omega)
        · have HD : Hid (ft s = (levelOk x true && levelsOk (L.drop (k + 1)))) := Lib.hid (by
            rw [HK.out, drop_at hlt, ← HX.out, levelsOk, List.drop_eq_nil_of_le (by omega)]; rfl)
          have hle2 : ¬ (k : Int) < (L.length : Int) - 1 := by omega
          go_wp2_with (go_at_call 51; refine (has_any _ _ hsx).mono ?_; rintro e w' ⟨rfl, rfl⟩)
          all_goals first
            | exact no43 (by assumption) (by assumption)
            | (go_ret; exact ⟨by rw [fb HD.out (by first | exact lev_r3 (by assumption) (by assumption) (by assumption) | exact lev_b3 (by assumption))]; rfl, hb⟩)
            | (go_round
               case rel => exact ⟨k + 1, by omega, by go_num, Lib.hid (fg HD.out (by first | exact lev_r1 (by assumption) | exact lev_g1 (by assumption) | exact lev_g2 (by assumption)))⟩
               case measure => simp [intOf]; omega)
      · have : k = L.length := by omega
        subst this
        have HT : Hid (ft s = true) := Lib.hid (by rw [HK.out, List.drop_length]; rfl)
        go_wp2
        go_ret
        exact ⟨by rw [HT.out]; rfl, hb⟩

/-- What the program reckons: whether a filter matches a name. -/
def fitB (f t : ByteArray) : Bool := !(t.data.toList.headD 0 == 36 && ((lvs f.data.toList).headD [] == [43] || (lvs f.data.toList).headD [] == [35])) && matchL (lvs f.data.toList) (lvs t.data.toList)

theorem matchL_hash {L K : List (List UInt8)} {i : Nat} (h : i < L.length) (hx : L[i] = [35]) : matchL (L.drop i) K = true := by
  rw [drop_at h, hx]; unfold matchL; rfl
theorem matchL_end {L K : List (List UInt8)} {i : Nat} (h : i < L.length) (hx : ¬ L[i] = [35]) (hk : K.length ≤ i) : matchL (L.drop i) (K.drop i) = false := by
  rw [drop_at h, List.drop_eq_nil_of_le hk]; unfold matchL; rw [beq_eq_false_iff_ne.2 hx]; rfl
theorem matchL_go {L K : List (List UInt8)} {i : Nat} (h : i < L.length) (hx : ¬ L[i] = [35]) (hk : i < K.length) (hm : L[i] = [43] ∨ L[i] = K[i]) : matchL (L.drop i) (K.drop i) = matchL (L.drop (i + 1)) (K.drop (i + 1)) := by
  rw [drop_at h, drop_at hk]
  have : (L[i] == [43] || L[i] == K[i]) = true := by
    rcases hm with e | e <;> simp [e]
  rw [matchL, beq_eq_false_iff_ne.2 hx, this]; rfl
theorem matchL_no {L K : List (List UInt8)} {i : Nat} (h : i < L.length) (hx : ¬ L[i] = [35]) (hk : i < K.length) (hm : ¬ L[i] = [43]) (hm2 : ¬ L[i] = K[i]) : matchL (L.drop i) (K.drop i) = false := by
  rw [drop_at h, drop_at hk, matchL, beq_eq_false_iff_ne.2 hx, beq_eq_false_iff_ne.2 hm, beq_eq_false_iff_ne.2 hm2]; rfl
theorem matchL_nil {L K : List (List UInt8)} {i : Nat} (h : i = L.length) (hk : i ≤ K.length) : matchL (L.drop i) (K.drop i) = decide (i = K.length) := by
  subst h
  rw [List.drop_length, matchL, Bool.eq_iff_iff]
  simp only [List.isEmpty_iff, List.drop_eq_nil_iff, decide_eq_true_eq]
  omega

theorem fit_no {f t : ByteArray} (h1 : t.data.toList.headD 0 = 36) (h2 : (lvs f.data.toList).headD [] = [43] ∨ (lvs f.data.toList).headD [] = [35]) : fitB f t = false := by
  unfold fitB
  rw [h1]
  rcases h2 with e | e <;> rw [e] <;> rfl
theorem fit_go1 {f t : ByteArray} (h1 : ¬ t.data.toList.headD 0 = 36) : fitB f t = matchL (lvs f.data.toList) (lvs t.data.toList) := by
  unfold fitB
  rw [beq_eq_false_iff_ne.2 h1]; rfl
theorem fit_go2 {f t : ByteArray} (h1 : ¬ (lvs f.data.toList).headD [] = [43]) (h2 : ¬ (lvs f.data.toList).headD [] = [35]) : fitB f t = matchL (lvs f.data.toList) (lvs t.data.toList) := by
  unfold fitB
  rw [beq_eq_false_iff_ne.2 h1, beq_eq_false_iff_ne.2 h2]; simp

theorem head_at {α : Type} (d : α) : ∀ (L : List α) (h : 0 < L.length), L.headD d = L[0]
  | _ :: _, _ => rfl
theorem rd_drewN {w : World} {Bd size n : Nat} {v : Value} {xs : List Value} (h : Rd w Bd size v n xs) (k : Nat) : Rd (w.drewN k) Bd size v n xs := h.below (below_drewN (Below.refl _ _) _)

def GNext (f t : ByteArray) (w : World) (a' : Act) (w' : World) : Prop :=
  ∃ (i : Nat) (v1 v2 : Value), i ≤ (lvs f.data.toList).length ∧ i ≤ (lvs t.data.toList).length ∧ fitB f t = matchL ((lvs f.data.toList).drop i) ((lvs t.data.toList).drop i) ∧ Below w.heap.size w w' ∧
    Rd w' w'.heap.size 1 v1 (lvs f.data.toList).length ((lvs f.data.toList).map strV) ∧ Rd w' w'.heap.size 1 v2 (lvs t.data.toList).length ((lvs t.data.toList).map strV) ∧ ∃ u4 u8 u9 u10 u11 u12 u13 u14 u15 u16 u17 u18 u19 u20 u21 u22 u23 u24 u25 u26 u27 u28 u29 u30 u31 u32 u33 u34 u35 u36 u37 u38 u39 u40 u41 u42 u43 u44 u45 u46 u47 u48 u49 u50 u51 u52 u53 u54 u55 u56 u57 u58 u59 u60 u61 u62 u63 : Value, a' = { tmps := #[.string f, .string t, undef, undef, u4, v1, v2, .int .i64 i, u8, u9, u10, u11, u12, u13, u14, u15, u16, u17, u18, u19, u20, u21, u22, u23, u24, u25, u26, u27, u28, u29, u30, u31, u32, u33, u34, u35, u36, u37, u38, u39, u40, u41, u42, u43, u44, u45, u46, u47, u48, u49, u50, u51, u52, u53, u54, u55, u56, u57, u58, u59, u60, u61, u62, u63], defers := [] }

set_option maxHeartbeats 4000000 in
theorem Fits_any (w : World) (f t : ByteArray) (hf : f.size ≤ 100000) (ht : t.size ≤ 100000) (ht1 : 1 ≤ t.size) (hE : Env w) :
    Calls Tryd.prog 54 #[.string f, .string t] w fun e w' => e = .returned (.bool (fitB f t)) ∧ Below w.heap.size w w' := by
  have hLf := lvs_length f.data.toList
  have hLt := lvs_length t.data.toList
  have hPf := lvs_pos f.data.toList
  rw [size_list] at hLf hLt
  go_enter Tryd.func54, Tryd.ntmps54
  go_wp2
  refine wp_scope_falls 0 (fun l a' w' => l = 0 ∧ GNext f t w a' w') (fun l a' _ => (lvs f.data.toList).length + 1 - (intOf (a'.tmps.getD 7 undef)).toNat) rfl ?_ ?_
  · rintro l a' w' ⟨rfl, i, v1, v2, hi1, hi2, hq, hb, hr1, hr2, u4, u8, u9, u10, u11, u12, u13, u14, u15, u16, u17, u18, u19, u20, u21, u22, u23, u24, u25, u26, u27, u28, u29, u30, u31, u32, u33, u34, u35, u36, u37, u38, u39, u40, u41, u42, u43, u44, u45, u46, u47, u48, u49, u50, u51, u52, u53, u54, u55, u56, u57, u58, u59, u60, u61, u62, u63, rfl⟩
    refine ⟨_, rfl, ?_⟩
    obtain ⟨ao, cap, rfl, hc1, hc2⟩ := hr1.form
    have hc3 : cap ≤ 9223372036854775807 := by unfold maxLen at hc2; omega
    obtain ⟨bo, cap2, rfl, hd1, hd2⟩ := hr2.form
    have hd3 : cap2 ≤ 9223372036854775807 := by unfold maxLen at hd2; omega
    obtain ⟨L, hL⟩ : ∃ L, lvs f.data.toList = L := ⟨_, rfl⟩
    obtain ⟨K, hK⟩ : ∃ K, lvs t.data.toList = K := ⟨_, rfl⟩
    rw [hL] at hi1 hq hr1 hc1 hLf hPf ⊢
    rw [hK] at hi2 hq hr2 hd1 hLt ⊢
    have HQ := Lib.hid hq
    have HR1 := Lib.hid hr1
    have HR2 := Lib.hid hr2
    have HL := Lib.hid hL
    have HK := Lib.hid hK
    clear hq hr1 hr2 hc2 hd2 hL hK
    by_cases hlt : i < L.length
    · obtain ⟨b, o, rfl, hcell⟩ := rd_str HR1.out rfl hlt
      have hne : ((i : Int) == (L.length : Int)) = false := beq_eq_false_iff_ne.2 (by omega)
      obtain ⟨x, hx⟩ : ∃ x, x = L[i] := ⟨_, rfl⟩
      rw [← hx] at hcell
      have e2 : (bs x).toList = x := by rw [Lib.toList_data, bs_list]
      have HX := Lib.hid hx
      clear hx
      by_cases h35 : x = [35]
      · have HT : Hid (fitB f t = true) := Lib.hid (by rw [HQ.out]; exact matchL_hash hlt (by rw [← HX.out]; exact h35))
        subst h35
        go_wp2
        simp only [exitJumps]
        go_ret
        exact ⟨by rw [HT.out]; rfl, hb⟩
      · have h35b : (x == [35]) = false := beq_eq_false_iff_ne.2 h35
        have H35 : Hid (¬ L[i] = [35]) := Lib.hid (by rw [← HX.out]; exact h35)
        by_cases hlt2 : i < K.length
        · obtain ⟨b2, o2, rfl, hcell2⟩ := rd_str HR2.out rfl hlt2
          obtain ⟨y, hy⟩ : ∃ y, y = K[i] := ⟨_, rfl⟩
          rw [← hy] at hcell2
          have e3 : (bs y).toList = y := by rw [Lib.toList_data, bs_list]
          have HY := Lib.hid hy
          clear hy
          have hz : decide ((i : Int) < (K.length : Int)) = true := decide_eq_true (by omega)
          by_cases h43 : x = [43]
          · have HT : Hid (fitB f t = matchL (L.drop (i + 1)) (K.drop (i + 1))) := Lib.hid (by rw [HQ.out]; exact matchL_go hlt H35.out hlt2 (.inl (by rw [← HX.out]; exact h43)))
            subst h43
            go_wp2
            go_quiet (fail)
            go_wp2
            go_step3
            exact ⟨⟨rfl, i + 1, _, _, by rw [HL.out]; omega, by rw [HK.out]; omega, by rw [HL.out, HK.out]; exact HT.out, below_drewN hb _, by rw [HL.out]; exact rd_drewN HR1.out _, by rw [HK.out]; exact rd_drewN HR2.out _, _, _, _, _, _, _, _, _, _, _, _, _, _, _, _, _, _, _, _, _, _, _, _, _, _, _, _, _, _, _, _, _, _, _, _, _, _, _, _, _, _, _, _, _, _, _, _, _, _, _, _, _, _, _, _, _, _, rfl⟩, by simp [intOf]; omega⟩
          · have h43b : (x == [43]) = false := beq_eq_false_iff_ne.2 h43
            by_cases hxy : x = y
            · have HT : Hid (fitB f t = matchL (L.drop (i + 1)) (K.drop (i + 1))) := Lib.hid (by rw [HQ.out]; exact matchL_go hlt H35.out hlt2 (.inr (by rw [← HX.out, ← HY.out]; exact hxy)))
              subst hxy
              go_wp2
              go_quiet (fail)
              go_wp2
              go_step3
              exact ⟨⟨rfl, i + 1, _, _, by rw [HL.out]; omega, by rw [HK.out]; omega, by rw [HL.out, HK.out]; exact HT.out, below_drewN hb _, by rw [HL.out]; exact rd_drewN HR1.out _, by rw [HK.out]; exact rd_drewN HR2.out _, _, _, _, _, _, _, _, _, _, _, _, _, _, _, _, _, _, _, _, _, _, _, _, _, _, _, _, _, _, _, _, _, _, _, _, _, _, _, _, _, _, _, _, _, _, _, _, _, _, _, _, _, _, _, _, _, _, rfl⟩, by simp [intOf]; omega⟩
            · have hxyb : (x == y) = false := beq_eq_false_iff_ne.2 hxy
              have HT : Hid (fitB f t = false) := Lib.hid (by rw [HQ.out]; exact matchL_no hlt H35.out hlt2 (by rw [← HX.out]; exact h43) (by rw [← HX.out, ← HY.out]; exact hxy))
              go_wp2
              go_quiet (fail)
              go_wp2
              simp only [exitJumps]
              go_ret
              exact ⟨by rw [HT.out]; rfl, below_drewN hb _⟩
        · have HT : Hid (fitB f t = false) := Lib.hid (by rw [HQ.out]; exact matchL_end hlt H35.out (by omega))
          have hz : decide ((i : Int) < (K.length : Int)) = false := decide_eq_false (by omega)
          go_wp2
          go_quiet (fail)
          go_wp2
          simp only [exitJumps]
          go_ret
          exact ⟨by rw [HT.out]; rfl, below_drewN hb _⟩
    · have : i = L.length := by omega
      subst this
      have HT : Hid (fitB f t = decide (L.length = K.length)) := Lib.hid (by rw [HQ.out]; exact matchL_nil rfl hi2)
      have HB : Hid (((L.length : Int) == (K.length : Int)) = decide (L.length = K.length)) := Lib.hid (by
        rw [Bool.eq_iff_iff]; simp only [beq_iff_eq, decide_eq_true_eq]; omega)
      go_wp2
      simp only [exitJumps]
      go_ret
      exact ⟨by rw [HT.out, ← HB.out]; rfl, hb⟩
  · intro hgo
    have HGO := Lib.hid hgo
    clear hgo
    have HLf := Lib.hid hLf
    have HLt := Lib.hid hLt
    have HPf := Lib.hid hPf
    clear hLf hLt hPf
    go_wp2_with fail
    refine (Split_any w f (by omega) hE).mono ?_
    rintro e w1 ⟨v1, rfl, hr1, hb1, hsz1⟩
    have hE1 := hE.below hb1
    have hz1 := hb1.size
    have HZ1 := Lib.hid hsz1
    have HR1 := Lib.hid hr1
    clear hr1 hsz1
    go_wp2_with fail
    refine (Split_any w1 t (by omega) hE1).mono ?_
    rintro e w2 ⟨v2, rfl, hr2, hb2, hsz2⟩
    have HZ2 := Lib.hid hsz2
    have HR2 := Lib.hid hr2
    have HR1' := Lib.hid (HR1.out.below (hb2.mono (Nat.le_of_eq HZ1.out.symm)))
    have hb := hb1.trans (hb2.mono hz1)
    clear hr2 hsz2 HR1
    obtain ⟨ao, cap, rfl, hc1, hc2⟩ := HR1'.out.form
    have hc3 : cap ≤ 9223372036854775807 := by unfold maxLen at hc2; omega
    obtain ⟨bo, cap2, rfl, hd1, hd2⟩ := HR2.out.form
    have hd3 : cap2 ≤ 9223372036854775807 := by unfold maxLen at hd2; omega
    obtain ⟨b, o, rfl, hcell⟩ := rd_str HR1'.out rfl HPf.out
    rw [Nat.add_zero] at hcell
    have hpos := HPf.out
    have hgrow : Hid (w.heap.size + 1 ≤ w2.heap.size ∧ w1.heap.size + 1 = w2.heap.size) := Lib.hid ⟨by rw [HZ2.out, HZ1.out]; omega, HZ2.out.symm⟩
    obtain ⟨x, hx⟩ : ∃ x, x = (lvs f.data.toList)[0]'HPf.out := ⟨_, rfl⟩
    rw [← hx] at hcell
    have e2 : (bs x).toList = x := by rw [Lib.toList_data, bs_list]
    have HX : Hid ((lvs f.data.toList).headD [] = x) := Lib.hid (by rw [hx]; exact head_at _ _ _)
    obtain ⟨z, hz⟩ : ∃ z, z = t[0]'(by omega) := ⟨_, rfl⟩
    have HZ : Hid (t.data.toList.headD 0 = z) := Lib.hid (by
      have h0 : 0 < t.data.toList.length := by rw [size_list]; omega
      rw [hz, ← list_at t 0 (by omega) h0]
      exact head_at _ _ h0)
    clear hx hd2 hc2
    have hlo : 0 < t.size := by omega
    by_cases h36 : z = 36
    · have hb36 : ((t[0].toNat : Int) == 36) = true := by rw [← hz, h36]; rfl
      by_cases h43 : x = [43]
      · have HT : Hid (fitB f t = false) := Lib.hid (fit_no (by rw [HZ.out, h36]) (.inl (by rw [HX.out, h43])))
        subst h43
        clear hz h36
        go_wp2
        simp only [exitJumps]
        go_ret
        exact ⟨by rw [HT.out]; rfl, hb⟩
      · have h43b : (x == [43]) = false := beq_eq_false_iff_ne.2 h43
        by_cases h35 : x = [35]
        · have HT : Hid (fitB f t = false) := Lib.hid (fit_no (by rw [HZ.out, h36]) (.inr (by rw [HX.out, h35])))
          subst h35
          clear hz h36
          go_wp2
          simp only [exitJumps]
          go_ret
          exact ⟨by rw [HT.out]; rfl, hb⟩
        · have h35b : (x == [35]) = false := beq_eq_false_iff_ne.2 h35
          have HT : Hid (fitB f t = matchL (lvs f.data.toList) (lvs t.data.toList)) := Lib.hid (fit_go2 (by rw [HX.out]; exact h43) (by rw [HX.out]; exact h35))
          clear hz h36
          go_wp2
          go_step3
          refine (by assumption : ∀ (a : Act) (w : World), Code.wp _ _ _ a w → _) _ _ ?_
          refine HGO.out _ _ ⟨by trivial, 0, _, _, by omega, by omega, by rw [List.drop_zero, List.drop_zero]; exact HT.out, hb, HR1'.out.more hgrow.out.1, HR2.out.more (Nat.le_of_eq hgrow.out.2), _, _, _, _, _, _, _, _, _, _, _, _, _, _, _, _, _, _, _, _, _, _, _, _, _, _, _, _, _, _, _, _, _, _, _, _, _, _, _, _, _, _, _, _, _, _, _, _, _, _, _, _, _, _, _, _, _, rfl⟩
    · have hb36 : ((t[0].toNat : Int) == 36) = false := by
        rw [← hz]
        exact beq_eq_false_iff_ne.2 (fun e => h36 (UInt8.toNat_inj.1 (by have : (36 : UInt8).toNat = 36 := rfl; omega)))
      have HT : Hid (fitB f t = matchL (lvs f.data.toList) (lvs t.data.toList)) := Lib.hid (fit_go1 (by rw [HZ.out]; exact h36))
      clear hz h36
      go_wp2
      go_step3
      refine (by assumption : ∀ (a : Act) (w : World), Code.wp _ _ _ a w → _) _ _ ?_
      refine HGO.out _ _ ⟨by trivial, 0, _, _, by omega, by omega, by rw [List.drop_zero, List.drop_zero]; exact HT.out, hb, HR1'.out.more hgrow.out.1, HR2.out.more (Nat.le_of_eq hgrow.out.2), _, _, _, _, _, _, _, _, _, _, _, _, _, _, _, _, _, _, _, _, _, _, _, _, _, _, _, _, _, _, _, _, _, _, _, _, _, _, _, _, _, _, _, _, _, _, _, _, _, _, _, _, _, _, _, _, _, rfl⟩
end Go.Proofs.YtimjbojoeacaeaaDoor
