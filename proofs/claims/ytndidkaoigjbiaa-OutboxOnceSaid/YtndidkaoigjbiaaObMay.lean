/- The outbox: May. -/



import Derived.Test.YtndidkaoigjbiaaObOwn
namespace Go.Proofs.Ytndidkaoigjbiaa
open Go.RowKit
/-- No text of theirs is too long to be looked at. -/
def ShortM (m : Msg) : Prop := m.t.size ≤ 1000000000 ∧ m.p.size ≤ 1000000000
theorem May1_any (m : Msg) (w : World) (hs : ShortM m) : Calls Try.prog 26 #[msgV m] w fun e w' => e = .returned (.bool (!okM m)) ∧ Below w.heap.size w w' := by
  obtain ⟨bm, hbm⟩ : ∃ b, okM m = b := ⟨_, rfl⟩
  have hb0 := (Below.refl w.heap.size w).alloc (Nat.le_refl _) (.cells #[.string m.t, .string m.p, .int .i64 m.q, .bool m.r] 34)
  have HM := Lib.hid (fun w => message_any m w hs.1 hs.2)
  rw [hbm] at HM ⊢
  clear hs hbm
  unfold msgV
  go_enter Try.func26, Try.ntmps26
  go_wp2_with fail
  refine (HM.out _).mono ?_
  rintro e w1 ⟨rfl, hb1⟩
  have hb2 := b_tr hb0 hb1
  go_wp2
  go_ret
  exact ⟨rfl, hb2⟩
set_option maxHeartbeats 1000000 in
theorem IndexM_any (w : World) (v : Value) (Q : List Msg) (Bd : Nat) (h : Rd w Bd 4 v Q.length (eM.cells Q)) (hB : Bd ≤ w.heap.size) (hn : Q.length ≤ 1000000) (hs : ∀ m ∈ Q, ShortM m) :
    Calls Try.prog 32 #[v, .func (.func 26) #[] #[]] w fun e w' => ∃ i : Int, e = .returned (.int .i64 i) ∧ (0 ≤ i ↔ ∃ m ∈ Q, okM m = false) ∧ Below w.heap.size w w' := by
  obtain ⟨ao, cap, rfl, hcc, hm⟩ := h.form
  have hm' : cap ≤ 9223372036854775807 := by unfold maxLen at hm; omega
  have H := Lib.hid h
  have HS := Lib.hid hs
  clear h hm hs
  go_enter Try.func32, Try.ntmps32
  go_wp2
  go_loopw [8] (fun s wr => ∃ k : Nat, s = .int .i64 k ∧ k ≤ Q.length ∧ Below w.heap.size w wr ∧ Hid (∀ j m, j < k → Q[j]? = some m → okM m = true)) (fun s _ => Q.length - (intOf s).toNat)
  case atStart => exact ⟨0, rfl, by omega, Below.refl _ _, Lib.hid (fun j m hj => by omega)⟩
  case round =>
    obtain ⟨k, rfl, hk, hb, HK⟩ := hrel
    by_cases hlt : k < Q.length
    · obtain ⟨m, hm2⟩ : ∃ m, Q[k]? = some m := ⟨_, List.getElem?_eq_getElem hlt⟩
      obtain ⟨b2, o, rfl, hbl, hcs⟩ := Enc.rd_cell (E := eM) (H.out.below (hb.mono hB)) rfl hm2
      obtain ⟨c0, c1, c2, c3⟩ := msg_cells (show wr.rangeAt b2 (o + k * 4) (eM.c m) from hcs)
      have HM := Lib.hid hm2
      have HA := Lib.hid (May1_any m wr (HS.out m (List.mem_of_getElem? hm2)))
      clear hcs hm2
      go_wp2_with fail
      refine HA.out.mono ?_
      rintro e w1 ⟨rfl, hb1⟩
      have hb2 := b_tr hb hb1
      cases hok : okM m
      · have HE : Hid (∃ m ∈ Q, okM m = false) := Lib.hid ⟨m, List.mem_of_getElem? HM.out, hok⟩
        go_wp2
        go_ret
        exact ⟨_, rfl, ⟨fun _ => HE.out, fun _ => by omega⟩, hb2⟩
      · have HK2 : Hid (∀ j m, j < k + 1 → Q[j]? = some m → okM m = true) := Lib.hid (fun j m' hj hm' => by
          by_cases e : j = k
          · subst e
            rw [HM.out] at hm'
            injection hm' with hm'
            subst hm'
            exact hok
          · exact HK.out j m' (by omega) hm')
        clear hok
        go_wp2
        go_roundw
        case rel => exact ⟨k + 1, by go_num, by omega, hb2, HK2⟩
        case measure => simp [intOf]; omega
    · have e : k = Q.length := by omega
      subst e
      have HE : Hid (¬ ∃ m ∈ Q, okM m = false) := Lib.hid (by
        rintro ⟨m, hm, hf⟩
        obtain ⟨j, hj⟩ := List.getElem?_of_mem hm
        have := HK.out j m (List.getElem?_eq_some_iff.1 hj).1 hj
        rw [hf] at this
        cases this)
      go_wp2
      go_ret
      exact ⟨-1, rfl, ⟨fun h => by omega, fun h => absurd h HE.out⟩, hb⟩
theorem ContM_any (w : World) (v : Value) (Q : List Msg) (Bd : Nat) (h : Rd w Bd 4 v Q.length (eM.cells Q)) (hB : Bd ≤ w.heap.size) (hn : Q.length ≤ 1000000) (hs : ∀ m ∈ Q, ShortM m) :
    Calls Try.prog 25 #[v, .func (.func 26) #[] #[]] w fun e w' => e = .returned (.bool (!Q.all okM)) ∧ Below w.heap.size w w' := by
  obtain ⟨ao, cap, rfl, hcc, hm⟩ := h.form
  have HI := Lib.hid (IndexM_any w _ Q Bd h hB hn hs)
  clear h hm hs
  go_enter Try.func25, Try.ntmps25
  go_wp2_with fail
  refine HI.out.mono ?_
  rintro e w1 ⟨i, rfl, hi, hb1⟩
  have HQ : Hid (decide (0 ≤ i) = !Q.all okM) := Lib.hid (by
    cases hq : Q.all okM
    · rw [List.all_eq_false] at hq
      obtain ⟨m, hm, hf⟩ := hq
      simpa using hi.2 ⟨m, hm, by simpa using hf⟩
    · rw [List.all_eq_true] at hq
      simp only [Bool.not_true, decide_eq_false_iff_not]
      intro h0
      obtain ⟨m, hm, hf⟩ := hi.1 h0
      rw [hq m hm] at hf
      cases hf)
  clear hi
  go_wp2
  go_ret
  exact ⟨by rw [← HQ.out]; rfl, hb1⟩
end Go.Proofs.Ytndidkaoigjbiaa
