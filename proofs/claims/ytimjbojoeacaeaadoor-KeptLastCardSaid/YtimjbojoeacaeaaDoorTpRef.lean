/- Whether a filter matches a name, by the page; topic.Match, Name, Filter. -/

import Derived.Test.YtimjbojoeacaeaaDoorTpMat
namespace Go.Proofs.YtimjbojoeacaeaaDoor
open Go.RowKit Go.Shelf Go.Proofs

/-- What the page reckons. -/
def refB (f t : ByteArray) : Bool := !(t.data.toList.headD 0 == 36 && (f.data.toList.headD 0 == 43 || f.data.toList.headD 0 == 35)) && matchL (lvs f.data.toList) (lvs t.data.toList)

theorem ref_no {f t : ByteArray} (h1 : t.data.toList.headD 0 = 36) (h2 : f.data.toList.headD 0 = 43 ∨ f.data.toList.headD 0 = 35) : refB f t = false := by
  unfold refB
  rw [h1]
  rcases h2 with e | e <;> rw [e] <;> rfl
theorem ref_go1 {f t : ByteArray} (h1 : ¬ t.data.toList.headD 0 = 36) : refB f t = matchL (lvs f.data.toList) (lvs t.data.toList) := by
  unfold refB
  rw [beq_eq_false_iff_ne.2 h1]; rfl
theorem ref_go2 {f t : ByteArray} (h1 : ¬ f.data.toList.headD 0 = 43) (h2 : ¬ f.data.toList.headD 0 = 35) : refB f t = matchL (lvs f.data.toList) (lvs t.data.toList) := by
  unfold refB
  rw [beq_eq_false_iff_ne.2 h1, beq_eq_false_iff_ne.2 h2]; simp

theorem head_level (l : List UInt8) (c : UInt8) (hc : c = 43 ∨ c = 35) (h : levelsOk (lvs l) = true) : ((lvs l).headD [] == [c]) = (l.headD 0 == c) := by
  cases l with
  | nil => rcases hc with rfl | rfl <;> rfl
  | cons b r =>
    by_cases hb : b = 47
    · subst hb
      have : lvs (47 :: r) = [] :: lvs r := by simp [lvs]
      rw [this]
      rcases hc with rfl | rfl <;> rfl
    · have : lvs (b :: r) = (b :: (lvs r).headD []) :: (lvs r).tail := by rw [lvs, if_neg hb]
      rw [this] at h ⊢
      rw [levelsOk, Bool.and_eq_true] at h
      have h1 := h.1
      show ((b :: (lvs r).headD []) == [c]) = (b == c)
      by_cases he : b = c
      · subst he
        have hh : hasB (b :: (lvs r).headD []) = true := by
          unfold hasB
          rw [List.any_cons]
          rcases hc with rfl | rfl <;> simp
        unfold levelOk at h1
        rw [hh] at h1
        have : (lvs r).headD [] = [] := by
          rcases hc with rfl | rfl
          · simpa using h1
          · have : ((35 : UInt8) :: (lvs r).headD []) = [35] := by simpa using (show ((35 : UInt8) :: (lvs r).headD [] == [35]) = true by
              have h2 : ((35 : UInt8) :: (lvs r).headD [] == [43]) = false := beq_eq_false_iff_ne.2 (fun e => by injection e with e1 _; revert e1; decide)
              rw [h2] at h1
              simp only [Bool.not_true, Bool.false_or, Bool.and_eq_true] at h1
              exact h1.1)
            injection this
        rw [this]; simp
      · have h3 : (b == c) = false := beq_eq_false_iff_ne.2 he
        rw [h3]
        exact beq_eq_false_iff_ne.2 (fun e => by injection e with e1 _; exact he e1)

theorem ref_fit {f t : ByteArray} (h : ft f = true) : refB f t = fitB f t := by
  unfold ft at h
  rw [Bool.and_eq_true] at h
  unfold refB fitB
  rw [head_level _ 43 (.inl rfl) h.2, head_level _ 35 (.inr rfl) h.2]

theorem head_byte {s : ByteArray} (h : 0 < s.size) : s.data.toList.headD 0 = s[0] := by
  have h0 : 0 < s.data.toList.length := by rw [size_list]; omega
  rw [← list_at s 0 h h0]
  exact head_at _ _ h0
theorem byte_eq {a : UInt8} {n : Nat} (h : a = UInt8.ofNat n) (hn : n < 256) : ((a.toNat : Int) == (n : Int)) = true := by
  subst h; simp; omega
theorem byte_ne {a c : UInt8} (h : ¬ a = c) : ((a.toNat : Int) == (c.toNat : Int)) = false :=
  beq_eq_false_iff_ne.2 (fun e => h (UInt8.toNat_inj.1 (by omega)))

set_option maxHeartbeats 1000000 in
theorem rMatch_any (w : World) (f t : ByteArray) (hf : f.size ≤ 100000) (ht : t.size ≤ 100000) (hf1 : 1 ≤ f.size) (ht1 : 1 ≤ t.size) :
    Calls Tryd.prog 14 #[.string f, .string t] w fun e w' => e = .returned (.bool (refB f t)) ∧ Below w.heap.size w w' := by
  have hLf := lvs_length f.data.toList
  have hLt := lvs_length t.data.toList
  rw [size_list] at hLf hLt
  have hf0 : 0 < f.size := hf1
  have ht0 : 0 < t.size := ht1
  by_cases hd : t[0] = 36 ∧ (f[0] = 43 ∨ f[0] = 35)
  · have HT : Hid (refB f t = false) := Lib.hid (ref_no (by rw [head_byte ht0]; exact hd.1) (by rw [head_byte hf0]; exact hd.2))
    have hb36 : ((t[0].toNat : Int) == 36) = true := by rw [hd.1]; rfl
    rcases hd.2 with h | h
    · have hb43 : ((f[0].toNat : Int) == 43) = true := by rw [h]; rfl
      clear hd h
      go_enter Tryd.func14, Tryd.ntmps14
      go_wp2
      go_ret
      exact ⟨by rw [HT.out]; rfl, Below.refl _ _⟩
    · have hb43 : ((f[0].toNat : Int) == 43) = false := by rw [h]; rfl
      have hb35 : ((f[0].toNat : Int) == 35) = true := by rw [h]; rfl
      clear hd h
      go_enter Tryd.func14, Tryd.ntmps14
      go_wp2
      go_ret
      exact ⟨by rw [HT.out]; rfl, Below.refl _ _⟩
  · have HT : Hid (refB f t = matchL (lvs f.data.toList) (lvs t.data.toList)) := Lib.hid (by
      by_cases h36 : t[0] = 36
      · have h2 : ¬ (f[0] = 43 ∨ f[0] = 35) := fun e => hd ⟨h36, e⟩
        exact ref_go2 (by rw [head_byte hf0]; exact fun e => h2 (.inl e)) (by rw [head_byte hf0]; exact fun e => h2 (.inr e))
      · exact ref_go1 (by rw [head_byte ht0]; exact h36))
    have hways : ((t[0].toNat : Int) == 36) = false ∨ (((t[0].toNat : Int) == 36) = true ∧ ((f[0].toNat : Int) == 43) = false ∧ ((f[0].toNat : Int) == 35) = false) := by
      by_cases h36 : t[0] = 36
      · exact .inr ⟨by rw [h36]; rfl, byte_ne (fun e => hd ⟨h36, .inl e⟩), byte_ne (fun e => hd ⟨h36, .inr e⟩)⟩
      · exact .inl (byte_ne h36)
    clear hd
    rcases hways with hb36 | ⟨hb36, hb43, hb35⟩
    all_goals
      go_enter Tryd.func14, Tryd.ntmps14
      go_upto_region 3 with fail
      go_wp2_with fail
      refine (levels_any _ f hf).mono ?_
      rintro e w1 ⟨v1, rfl, hown1, hb1⟩
      have hz1 := hb1.size
      have hr1 := Rd.of_own hown1
      have HR1 := Lib.hid hr1
      clear hown1 hr1
      go_wp2_with fail
      refine (levels_any _ t ht).mono ?_
      rintro e w2 ⟨v2, rfl, hown2, hb2⟩
      have hr2 := Rd.of_own hown2
      have hb := hb1.trans (hb2.mono hz1)
      have HR1' := Lib.hid ((HR1.out.below (hb2.mono (Nat.le_refl _))).more hb2.size)
      have HR2 := Lib.hid hr2
      clear hown2 hr2 HR1
      obtain ⟨ao, cap, rfl, hc1, hc2⟩ := HR1'.out.form
      have hc3 : cap ≤ 9223372036854775807 := by unfold maxLen at hc2; omega
      obtain ⟨bo, cap2, rfl, hd1, hd2⟩ := HR2.out.form
      have hd3 : cap2 ≤ 9223372036854775807 := by unfold maxLen at hd2; omega
      clear hc2 hd2
      obtain ⟨L, hL⟩ : ∃ L, lvs f.data.toList = L := ⟨_, rfl⟩
      obtain ⟨K, hK⟩ : ∃ K, lvs t.data.toList = K := ⟨_, rfl⟩
      rw [hL] at hc1 hLf ⊢
      rw [hK] at hd1 hLt ⊢
      have HL1 : Hid (Rd w2 w2.heap.size 1 (.slice ao L.length cap) L.length (L.map strV)) := by rw [← hL]; exact HR1'
      have HL2 : Hid (Rd w2 w2.heap.size 1 (.slice bo K.length cap2) K.length (K.map strV)) := by rw [← hK]; exact HR2
      have HQ0 : Hid (refB f t = matchL (L.drop 0) (K.drop 0)) := Lib.hid (by rw [HT.out, hL, hK]; simp)
      clear HR1' HR2 hL hK
      go_wp2
      go_loopw [7] (fun i wr => ∃ k : Nat, k ≤ L.length ∧ k ≤ K.length ∧ i = .int .i64 k ∧ Hid (refB f t = matchL (L.drop k) (K.drop k)) ∧ Below w.heap.size w wr ∧ Below w2.heap.size w2 wr) (fun i _ => L.length - (intOf i).toNat)
      case atStart => exact ⟨0, by omega, by omega, rfl, HQ0, hb, Below.refl _ _⟩
      case round =>
        obtain ⟨i, hi1, hi2, rfl, HQ, hbr, hbr2⟩ := hrel
        have HL1 := Lib.hid (HL1.out.below hbr2)
        have HL2 := Lib.hid (HL2.out.below hbr2)
        by_cases hlt : i < L.length
        · obtain ⟨b, o, rfl, hcell⟩ := rd_str HL1.out rfl hlt
          obtain ⟨x, hx⟩ : ∃ x, x = L[i] := ⟨_, rfl⟩
          rw [← hx] at hcell
          have e2 : (bs x).toList = x := by rw [Lib.toList_data, bs_list]
          have HX := Lib.hid hx
          clear hx
          by_cases h35 : x = [35]
          · have HF : Hid (refB f t = true) := Lib.hid (by rw [HQ.out]; exact matchL_hash hlt (by rw [← HX.out]; exact h35))
            subst h35
            go_wp2
            go_ret
            exact ⟨by rw [HF.out]; rfl, hbr⟩
          · have h35b : (x == [35]) = false := beq_eq_false_iff_ne.2 h35
            have H35 : Hid (¬ L[i] = [35]) := Lib.hid (by rw [← HX.out]; exact h35)
            by_cases hlt2 : i < K.length
            · obtain ⟨b2, o2, rfl, hcell2⟩ := rd_str HL2.out rfl hlt2
              obtain ⟨y, hy⟩ : ∃ y, y = K[i] := ⟨_, rfl⟩
              rw [← hy] at hcell2
              have e3 : (bs y).toList = y := by rw [Lib.toList_data, bs_list]
              have HY := Lib.hid hy
              clear hy
              have hz : decide (K.length ≤ i) = false := decide_eq_false (by omega)
              by_cases h43 : x = [43]
              · have HF : Hid (refB f t = matchL (L.drop (i + 1)) (K.drop (i + 1))) := Lib.hid (by rw [HQ.out]; exact matchL_go hlt H35.out hlt2 (.inl (by rw [← HX.out]; exact h43)))
                have h43b : (x == [43]) = true := beq_iff_eq.2 h43
                clear h43
                go_wp2
                go_quiet (fail)
                go_wp2
                go_roundw
                case rel => exact ⟨i + 1, by omega, by omega, by go_num, HF, below_drewN hbr _, below_drewN hbr2 _⟩
                case measure => simp [intOf]; omega
              · have h43b : (x == [43]) = false := beq_eq_false_iff_ne.2 h43
                by_cases hxy : x = y
                · have HF : Hid (refB f t = matchL (L.drop (i + 1)) (K.drop (i + 1))) := Lib.hid (by rw [HQ.out]; exact matchL_go hlt H35.out hlt2 (.inr (by rw [← HX.out, ← HY.out]; exact hxy)))
                  have hxyb : (x == y) = true := beq_iff_eq.2 hxy
                  clear hxy
                  go_wp2
                  go_quiet (fail)
                  go_wp2
                  go_roundw
                  case rel => exact ⟨i + 1, by omega, by omega, by go_num, HF, below_drewN hbr _, below_drewN hbr2 _⟩
                  case measure => simp [intOf]; omega
                · have hxyb : (x == y) = false := beq_eq_false_iff_ne.2 hxy
                  have HF : Hid (refB f t = false) := Lib.hid (by rw [HQ.out]; exact matchL_no hlt H35.out hlt2 (by rw [← HX.out]; exact h43) (by rw [← HX.out, ← HY.out]; exact hxy))
                  go_wp2
                  go_quiet (fail)
                  go_wp2
                  go_ret
                  exact ⟨by rw [HF.out]; rfl, below_drewN hbr _⟩
            · have HF : Hid (refB f t = false) := Lib.hid (by rw [HQ.out]; exact matchL_end hlt H35.out (by omega))
              have hz : decide (K.length ≤ i) = true := decide_eq_true (by omega)
              go_wp2
              go_quiet (fail)
              go_wp2
              go_ret
              exact ⟨by rw [HF.out]; rfl, below_drewN hbr _⟩
        · have : i = L.length := by omega
          subst this
          have HF : Hid (refB f t = decide (L.length = K.length)) := Lib.hid (by rw [HQ.out]; exact matchL_nil rfl hi2)
          have HB : Hid (((L.length : Int) == (K.length : Int)) = decide (L.length = K.length)) := Lib.hid (by
            rw [Bool.eq_iff_iff]; simp only [beq_iff_eq, decide_eq_true_eq]; omega)
          go_wp2
          go_ret
          exact ⟨by rw [HF.out, ← HB.out]; rfl, hbr⟩

theorem ft_len {s : ByteArray} (h : ft s = true) : 1 ≤ s.size ∧ s.size ≤ 64 := by
  unfold ft at h
  rw [Bool.and_eq_true] at h
  exact tx_le h.1
theorem nm_len {s : ByteArray} (h : nm s = true) : 1 ≤ s.size ∧ s.size ≤ 64 := by
  unfold nm at h
  rw [Bool.and_eq_true] at h
  exact tx_le h.1

/-- What topic.Match answers. -/
def mRes (f t : ByteArray) : Value := if ft f && nm t then .tuple #[.bool (fitB f t), .int .i64 0] else .tuple #[.bool false, .int .i64 1]

set_option maxHeartbeats 1000000 in
theorem pMatch_any (w : World) (f t : ByteArray) (hf : f.size ≤ 100000) (ht : t.size ≤ 100000) (hE : Env w) :
    Calls Tryd.prog 15 #[.string f, .string t] w fun e w' => e = .returned (mRes f t) ∧ Below w.heap.size w w' := by
  have ht2 : t.size < 4294967281 := by omega
  cases h1 : ft f
  · have HT : Hid (mRes f t = .tuple #[.bool false, .int .i64 1]) := Lib.hid (by unfold mRes; rw [h1]; rfl)
    have H1 := Lib.hid h1
    clear h1
    go_enter Tryd.func15, Tryd.ntmps15
    go_wp2_with (go_at_call 52; refine (IsFilter_any _ f hf hE).mono ?_; rintro e w' ⟨rfl, hb⟩; rw [H1.out])
    go_ret2
    exact ⟨by rw [HT.out]; rfl, hb⟩
  · have H1 := Lib.hid h1
    cases h2 : nm t
    · have HT : Hid (mRes f t = .tuple #[.bool false, .int .i64 1]) := Lib.hid (by unfold mRes; rw [h1, h2]; rfl)
      have H2 := Lib.hid h2
      clear h1 h2
      go_enter Tryd.func15, Tryd.ntmps15
      go_wp2_with fail
      refine (IsFilter_any _ f hf hE).mono ?_
      rintro e w1 ⟨rfl, hb1⟩
      rw [H1.out]
      have hE1 := hE.below hb1
      have hz1 := hb1.size
      go_wp2_with (go_at_call 53; refine (IsName_any _ t ht2 hE1).mono ?_; rintro e w' ⟨rfl, hb⟩; rw [H2.out])
      go_ret2
      exact ⟨by rw [HT.out]; rfl, hb1.trans (hb.mono hz1)⟩
    · have HT : Hid (mRes f t = .tuple #[.bool (fitB f t), .int .i64 0]) := Lib.hid (by unfold mRes; rw [h1, h2]; rfl)
      have H2 := Lib.hid h2
      have hlt := (nm_len h2).1
      clear h1 h2
      go_enter Tryd.func15, Tryd.ntmps15
      go_wp2_with fail
      refine (IsFilter_any _ f hf hE).mono ?_
      rintro e w1 ⟨rfl, hb1⟩
      rw [H1.out]
      have hE1 := hE.below hb1
      have hz1 := hb1.size
      go_wp2_with fail
      refine (IsName_any _ t ht2 hE1).mono ?_
      rintro e w2 ⟨rfl, hb2⟩
      rw [H2.out]
      have hE2 := hE1.below hb2
      have hz2 := hb2.size
      have hb12 := hb1.trans (hb2.mono hz1)
      go_wp2_with (go_at_call 54; refine (Fits_any _ f t hf ht hlt hE2).mono ?_; rintro e w' ⟨rfl, hb⟩)
      go_ret2
      exact ⟨by rw [HT.out]; rfl, hb12.trans (hb.mono (by omega))⟩

theorem pName_any (w : World) (s : ByteArray) (hs : s.size < 4294967281) (hE : Env w) :
    Calls Tryd.prog 18 #[.string s] w fun e w' => e = .returned (.int .i64 (if nm s then 0 else 1)) ∧ Below w.heap.size w w' := by
  cases h : nm s
  all_goals
    have H := Lib.hid h
    clear h
    go_enter Tryd.func18, Tryd.ntmps18
    go_wp2_with (go_at_call 53; refine (IsName_any _ s hs hE).mono ?_; rintro e w' ⟨rfl, hb⟩; rw [H.out])
    go_ret
    exact ⟨rfl, hb⟩
theorem pFilter_any (w : World) (s : ByteArray) (hs : s.size ≤ 100000) (hE : Env w) :
    Calls Tryd.prog 19 #[.string s] w fun e w' => e = .returned (.int .i64 (if ft s then 0 else 1)) ∧ Below w.heap.size w w' := by
  cases h : ft s
  all_goals
    have H := Lib.hid h
    clear h
    go_enter Tryd.func19, Tryd.ntmps19
    go_wp2_with (go_at_call 52; refine (IsFilter_any _ s hs hE).mono ?_; rintro e w' ⟨rfl, hb⟩; rw [H.out])
    go_ret
    exact ⟨rfl, hb⟩
end Go.Proofs.YtimjbojoeacaeaaDoor
