/- Whether a filter matches a name: contracts of topic.Fits, topic.Match, Name, Filter, and of the page's own Filter, Match. -/

import Derived.Test.YtknnaeejkmlnbaaGreatDoorTpFil
namespace Go.Proofs.YtknnaeejkmlnbaaGreatDoor
open Go.RowKit Go.Shelf Go.Proofs

theorem lev_r1 {x : List UInt8} {l : Bool} (h1 : ¬ hasB x = true) : levelOk x l = true := by
  unfold levelOk; rw [Bool.eq_false_iff.2 h1]; rfl
theorem lev_r3 {x : List UInt8} {l : Bool} (h1 : hasB x = true) (h2 : ¬ x = [43]) (h3 : ¬ x = [35]) : levelOk x l = false := by
  unfold levelOk; rw [h1, beq_eq_false_iff_ne.2 h2, beq_eq_false_iff_ne.2 h3]; rfl

theorem no43 {x : List UInt8} {p : Prop} (h1 : ¬ x = [43]) (h2 : (!x == [43]) = false) : p := by
  simp at h2; exact absurd h2 h1
theorem lvs_mem (l : List UInt8) : ∀ x ∈ lvs l, x.length ≤ l.length := by
  induction l with
  | nil => intro x hx; simp [lvs] at hx; simp [hx]
  | cons c r ih =>
    intro x hx
    rw [lvs] at hx
    split at hx
    · rcases List.mem_cons.1 hx with rfl | h
      · simp
      · have := ih x h; simp; omega
    · rcases List.mem_cons.1 hx with rfl | h
      · have h1 : (lvs r).headD [] ∈ lvs r := by rw [lvs_cons r]; exact List.mem_cons_self
        have := ih _ h1
        simp at this ⊢; omega
      · have := ih x (by rw [lvs_cons r]; exact List.mem_cons_of_mem _ h)
        simp; omega
theorem lvs_at {s : ByteArray} {L : List (List UInt8)} (hL : lvs s.data.toList = L) {k : Nat} (h : k < L.length) : (bs L[k]).size ≤ s.size := by
  rw [bs_size, ← size_list]
  exact lvs_mem _ _ (by rw [hL]; exact List.getElem_mem h)

set_option maxHeartbeats 2000000 in
theorem rFilter_any (w : World) (s : ByteArray) (hs : s.size ≤ 100000) (hE : Env w) :
    Calls Tryz.prog 111 #[.string s] w fun e w' => e = .returned (.bool (ft s)) ∧ Below w.heap.size w w' := by
  have hLs := lvs_length s.data.toList
  rw [size_list] at hLs
  cases ht : tx s
  · have HT := Lib.hid ht
    have HF : Hid (ft s = false) := Lib.hid (by unfold ft; rw [ht]; rfl)
    clear ht
    go_enter Tryz.func111, Tryz.ntmps111
    go_wp2_with (go_at_call 76; refine (rText_any _ s (by omega) hE).mono ?_; rintro e w' ⟨rfl, hb1⟩; rw [HT.out])
    go_ret
    exact ⟨by rw [HF.out]; rfl, hb1⟩
  · have HT := Lib.hid ht
    have HF : Hid (ft s = levelsOk (lvs s.data.toList)) := Lib.hid (by unfold ft; rw [ht]; rfl)
    clear ht
    go_enter Tryz.func111, Tryz.ntmps111
    go_wp2_with (go_at_call 76; refine (rText_any _ s (by omega) hE).mono ?_; rintro e w1 ⟨rfl, hb1⟩; rw [HT.out])
    have hz1 := hb1.size
    go_wp2_with fail
    refine (levels_any _ s hs).mono ?_
    rintro e w2 ⟨v, rfl, hown, hb2⟩
    have hb := hb1.trans (hb2.mono hz1)
    obtain ⟨L, hL⟩ : ∃ L, lvs s.data.toList = L := ⟨_, rfl⟩
    rw [hL] at hown hLs
    have hr := Rd.of_own hown
    rw [← List.length_map (f := strV)] at hr
    obtain ⟨ao, cap, rfl, hc1, hc2⟩ := hr.form
    rw [List.length_map] at hr hc1
    have hc3 : cap ≤ 9223372036854775807 := by unfold maxLen at hc2; omega
    have HR := Lib.hid hr
    have HQ : Hid (ft s = levelsOk L) := Lib.hid (by rw [HF.out, hL])
    simp only [List.length_map]
    have HL := Lib.hid hL
    clear hown hr hc2 hL HF
    go_wp2
    go_loop [4] (fun i => ∃ k : Nat, k ≤ L.length ∧ i = .int .i64 k ∧ Hid (ft s = levelsOk (L.drop k))) (fun i => L.length - (intOf i).toNat)
    case atStart => exact ⟨0, by omega, rfl, HQ⟩
    case round =>
      obtain ⟨k, hk, rfl, HK⟩ := hrel
      by_cases hlt : k < L.length
      · obtain ⟨b, o, rfl, hcell⟩ := rd_str HR.out rfl hlt
        obtain ⟨x, hx⟩ : ∃ x, x = L[k] := ⟨_, rfl⟩
        rw [← hx] at hcell
        have e1 : (bs x).data.toList = x := bs_list x
        have e2 : (bs x).toList = x := by rw [Lib.toList_data, e1]
        have hsx : (bs x).size ≤ 9223372036854775807 := by
          have := lvs_at HL.out hlt
          rw [← hx] at this
          omega
        have HX := Lib.hid hx
        clear hx
        by_cases hle : k + 1 < L.length
        · have HD : Hid (ft s = (levelOk x false && levelsOk (L.drop (k + 1)))) := Lib.hid (by
            rw [HK.out, drop_at hlt, ← HX.out, levelsOk, drop_at hle]; rfl)
          have hle2 : (k : Int) < (L.length : Int) - 1 := by omega
          go_wp2_with (go_at_call 77; refine (has_any _ _ hsx).mono ?_; rintro e w' ⟨rfl, rfl⟩)
          all_goals first
            | exact no43 (by assumption) (by assumption)
            | (go_ret; exact ⟨by rw [fb HD.out (by first | exact lev_r3 (by assumption) (by assumption) (by assumption) | exact lev_b3 (by assumption))]; rfl, hb⟩)
            | (go_round
               case rel => exact ⟨k + 1, by omega, by go_num, Lib.hid (fg HD.out (by first | exact lev_r1 (by assumption) | exact lev_g1 (by assumption) | exact lev_g2 (by assumption)))⟩
               case measure => simp [intOf]; omega)
        · have HD : Hid (ft s = (levelOk x true && levelsOk (L.drop (k + 1)))) := Lib.hid (by
            rw [HK.out, drop_at hlt, ← HX.out, levelsOk, List.drop_eq_nil_of_le (by omega)]; rfl)
          have hle2 : ¬ (k : Int) < (L.length : Int) - 1 := by omega
          go_wp2_with (go_at_call 77; refine (has_any _ _ hsx).mono ?_; rintro e w' ⟨rfl, rfl⟩)
          all_goals first
            | exact no43 (by assumption) (by assumption)
            | (go_ret; exact ⟨by rw [fb HD.out (by first | exact lev_r3 (by assumption) (by assumption) (by assumption) | exact lev_b3 (by assumption))]; rfl, hb⟩)
            | (go_round
               case rel => exact ⟨k + 1, by omega, by go_num, Lib.hid (fg HD.out (by first | exact lev_r1 (by assumption) | exact lev_g1 (by assumption) | exact lev_g2 (by assumption)))⟩
               case measure => simp [intOf]; omega)
      · have : k = L.length := by omega
        subst this
        have HT : Hid (ft s = true) := Lib.hid (by rw [HK.out, List.drop_length]; rfl)
        go_wp2
        go_ret
        exact ⟨by rw [HT.out]; rfl, hb⟩

end Go.Proofs.YtknnaeejkmlnbaaGreatDoor
