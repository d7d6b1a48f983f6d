/- The outbox's small functions: message, Clone. The outbox: Own. The outbox: May. Maps with int keys: a block that is a map of known entries; look-up, length, deletion, a new entry. Over any program. Ranging over a map with int keys whose entries are known: whichever comes next; a store at a key that is there; clear. Over any program. The outbox: identifiers that were seen. A scope in which the run jumps to several labels: what holds at each jump, and a measure that every pass lowers. Over any program. (After the library's law for one label, Derived/ScopeJumps.) A scope in which the run jumps to several labels, one of which it also comes to by falling through. Over any program. (After the library's law for one label, Derived/ScopeJumps.) -/
import Derived.Test.YtknnaeejkmlnbaaGreatDoorGa
import Derived.Lib.Hide
import Derived.Handy
import Derived.Deep.DeepCutAuto
import Derived.MapKept
import Derived.Maps.OwnOps
import Derived.Maps.RangeRun
import Derived.ScopeJumps
namespace Go.Proofs.YtknnaeejkmlnbaaGreatDoor
open Go.RowKit
theorem inf_M : (Tryz.prog.info? 83).map (fun i => (i.zero, i.size, i.bytes)) = some (some (.agg #[.string ⟨#[]⟩, .string ⟨#[]⟩, .int .i64 0, .bool false]), 4, 48) := by kernel_rfl
theorem inf_F : (Tryz.prog.info? 108).map (fun i => (i.zero, i.size, i.bytes)) = some (some (.agg #[.int .i64 0, .string ⟨#[]⟩, .string ⟨#[]⟩, .int .i64 0, .bool false, .bool false]), 6, 64) := by kernel_rfl
set_option maxHeartbeats 400000 in
theorem CloneF_any (w : World) (v : Value) (n : Nat) (xs : List Value) (h : Rd w w.heap.size 6 v n xs) (h1 : ∀ u ∈ xs, u.oneCell' = true) (hn : n ≤ 1048576) :
    Calls Tryz.prog 110 #[v] w fun e w' => ∃ v', e = .returned v' ∧ w'.ownsRow w.heap.size 108 6 v' n xs ∧ Below w.heap.size w w' := by
  obtain ⟨ao, cap, rfl, hc, hm⟩ := h.form
  clear hm
  rcases ao with _ | ad
  · obtain ⟨hl, ao', cap', e', h3, _, h5, _⟩ := h
    injection e' with e1 _ e3
    subst e1 e3
    have hc0 := h5 rfl
    subst hc0
    have hn0 : n = 0 := by omega
    subst hn0
    have hx : xs = [] := List.eq_nil_of_length_eq_zero (by omega)
    subst hx
    clear h5 hl hc h1 h3 hn
    have hnil := fun w => Lib.run_eql_slice_nil (P := Tryz.prog) w 57 108 none 0 0 0 0 Tryz.underlying57
    go_enter Tryz.func110, Tryz.ntmps110
    go_wp2
    go_ret
    exact ⟨_, rfl, World.ownsRow_nil _ _ _ _, Below.refl _ _⟩
  · have hnil := fun w => Lib.run_eql_slice_nil (P := Tryz.prog) w 57 108 (some ad) n cap 0 0 Tryz.underlying57
    have H := Lib.hid h
    have H1 := Lib.hid h1
    clear h h1
    go_enter Tryz.func110, Tryz.ntmps110
    go_wp2_with (at_builtin; refine wpList_app _ rfl (.tmp 5) (.tmp 6) _ rfl w.heap.size 108 (.agg #[.int .i64 0, .string ⟨#[]⟩, .string ⟨#[]⟩, .int .i64 0, .bool false, .bool false]) 6 64 Tryz.underlying57 inf_F rfl (by omega) (.slice (some ⟨w.heap.size, 0, none⟩) 0 0) 0 [] rfl (World.ownsRow_made w #[] 0 (Nat.le_refl _) (by unfold maxLen; omega) rfl) w.heap.size _ n xs rfl (H.out.below ((Below.refl _ _).alloc (Nat.le_refl _) _)) H1.out ?_ ?_ (by simp) ?_; unfold maxLen; omega; omega; intro v1 w1 hown hg hat; have hb1 := ((Below.refl w.heap.size w).alloc (Nat.le_refl _) (.cells #[] 108)).grown hg (by simp) (by simp [Value.ownBlock]))
    go_ret
    exact ⟨v1, rfl, by simpa using hown, hb1⟩
set_option maxHeartbeats 400000 in
theorem CloneM_any (w : World) (v : Value) (n : Nat) (xs : List Value) (h : Rd w w.heap.size 4 v n xs) (h1 : ∀ u ∈ xs, u.oneCell' = true) (hn : n ≤ 1048576) :
    Calls Tryz.prog 69 #[v] w fun e w' => ∃ v', e = .returned v' ∧ w'.ownsRow w.heap.size 83 4 v' n xs ∧ Below w.heap.size w w' := by
  obtain ⟨ao, cap, rfl, hc, hm⟩ := h.form
  clear hm
  rcases ao with _ | ad
  · obtain ⟨hl, ao', cap', e', h3, _, h5, _⟩ := h
    injection e' with e1 _ e3
    subst e1 e3
    have hc0 := h5 rfl
    subst hc0
    have hn0 : n = 0 := by omega
    subst hn0
    have hx : xs = [] := List.eq_nil_of_length_eq_zero (by omega)
    subst hx
    clear h5 hl hc h1 h3 hn
    have hnil := fun w => Lib.run_eql_slice_nil (P := Tryz.prog) w 24 83 none 0 0 0 0 Tryz.underlying24
    go_enter Tryz.func69, Tryz.ntmps69
    go_wp2
    go_ret
    exact ⟨_, rfl, World.ownsRow_nil _ _ _ _, Below.refl _ _⟩
  · have hnil := fun w => Lib.run_eql_slice_nil (P := Tryz.prog) w 24 83 (some ad) n cap 0 0 Tryz.underlying24
    have H := Lib.hid h
    have H1 := Lib.hid h1
    clear h h1
    go_enter Tryz.func69, Tryz.ntmps69
    go_wp2_with (at_builtin; refine wpList_app _ rfl (.tmp 5) (.tmp 6) _ rfl w.heap.size 83 (.agg #[.string ⟨#[]⟩, .string ⟨#[]⟩, .int .i64 0, .bool false]) 4 48 Tryz.underlying24 inf_M rfl (by omega) (.slice (some ⟨w.heap.size, 0, none⟩) 0 0) 0 [] rfl (World.ownsRow_made w #[] 0 (Nat.le_refl _) (by unfold maxLen; omega) rfl) w.heap.size _ n xs rfl (H.out.below ((Below.refl _ _).alloc (Nat.le_refl _) _)) H1.out ?_ ?_ (by simp) ?_; unfold maxLen; omega; omega; intro v1 w1 hown hg hat; have hb1 := ((Below.refl w.heap.size w).alloc (Nat.le_refl _) (.cells #[] 83)).grown hg (by simp) (by simp [Value.ownBlock]))
    go_ret
    exact ⟨v1, rfl, by simpa using hown, hb1⟩
set_option maxHeartbeats 1000000 in
theorem message_any (m : Msg) (w : World) (ht : m.t.size ≤ 1000000000) (hp : m.p.size ≤ 1000000000) : Calls Tryz.prog 106 #[msgV m] w fun e w' => e = .returned (.bool (okM m)) ∧ Below w.heap.size w w' := by
  obtain ⟨t, p, q, r⟩ := m
  unfold msgV
  simp only at ht hp ⊢
  have hb0 := (Below.refl w.heap.size w).alloc (Nat.le_refl _) (.cells #[.string t, .string p, .int .i64 q, .bool r] 83)
  by_cases h1 : 1 ≤ t.size
  · by_cases h2 : t.size ≤ 64
    · by_cases h3 : p.size ≤ 128
      · by_cases h4 : q = 1
        · subst h4
          go_enter Tryz.func106, Tryz.ntmps106
          go_wp2
          go_ret
          exact ⟨by simp [okM, h1, h2, h3], hb0⟩
        · have hq : (q == 1) = false := beq_eq_false_iff_ne.2 h4
          go_enter Tryz.func106, Tryz.ntmps106
          go_wp2
          go_ret
          exact ⟨by simp [okM, h1, h2, h3, h4]; rfl, hb0⟩
      · have h3' : ¬ ((p.size : Int) ≤ 128) := by omega
        go_enter Tryz.func106, Tryz.ntmps106
        go_wp2
        go_ret
        exact ⟨by simp [okM, h3], hb0⟩
    · have h2' : ¬ ((t.size : Int) ≤ 64) := by omega
      go_enter Tryz.func106, Tryz.ntmps106
      go_wp2
      go_ret
      exact ⟨by simp [okM, h2], hb0⟩
  · have h1' : ¬ ((1 : Int) ≤ (t.size : Int)) := by omega
    go_enter Tryz.func106, Tryz.ntmps106
    go_wp2
    go_ret
    exact ⟨by simp [okM, h1], hb0⟩
theorem fl_cells {w : World} {b o : Nat} {f : Fl} (h : w.rangeAt b o (eF.c f)) : w.cell? ⟨b, o, none⟩ = some (.int .i64 f.id) ∧ w.cell? ⟨b, o + 1, none⟩ = some (.string f.m.t) ∧ w.cell? ⟨b, o + 2, none⟩ = some (.string f.m.p) ∧ w.cell? ⟨b, o + 3, none⟩ = some (.int .i64 f.m.q) ∧ w.cell? ⟨b, o + 4, none⟩ = some (.bool f.m.r) ∧ w.cell? ⟨b, o + 5, none⟩ = some (.bool f.rc) :=
  ⟨h 0 _ rfl, h 1 _ rfl, h 2 _ rfl, h 3 _ rfl, h 4 _ rfl, h 5 _ rfl⟩
theorem msg_cells {w : World} {b o : Nat} {m : Msg} (h : w.rangeAt b o (eM.c m)) : w.cell? ⟨b, o, none⟩ = some (.string m.t) ∧ w.cell? ⟨b, o + 1, none⟩ = some (.string m.p) ∧ w.cell? ⟨b, o + 2, none⟩ = some (.int .i64 m.q) ∧ w.cell? ⟨b, o + 3, none⟩ = some (.bool m.r) :=
  ⟨h 0 _ rfl, h 1 _ rfl, h 2 _ rfl, h 3 _ rfl⟩
end Go.Proofs.YtknnaeejkmlnbaaGreatDoor
namespace Go.Proofs.YtknnaeejkmlnbaaGreatDoor
open Go.RowKit
/-- An outbox that lies in rows that one may read. -/
def OR (w : World) (v : Value) (o : OB) : Prop := ∃ fv qv, v = .agg #[.int .i64 o.last, fv, qv] ∧ Rd w w.heap.size 6 fv o.F.length (eF.cells o.F) ∧ Rd w w.heap.size 4 qv o.Q.length (eM.cells o.Q)
/-- .. in rows of one's own. -/
def OO (w : World) (B : Nat) (v : Value) (o : OB) : Prop := ∃ fv qv, v = .agg #[.int .i64 o.last, fv, qv] ∧ w.ownsRow B 108 6 fv o.F.length (eF.cells o.F) ∧ w.ownsRow B 83 4 qv o.Q.length (eM.cells o.Q)
theorem OO.rd {w : World} {B : Nat} {v : Value} {o : OB} (h : OO w B v o) : OR w v o := by
  obtain ⟨fv, qv, e, h1, h2⟩ := h
  exact ⟨fv, qv, e, Rd.of_own h1, Rd.of_own h2⟩
theorem OR.below {w w' : World} {v : Value} {o : OB} (h : OR w v o) (hb : Below w.heap.size w w') : OR w' v o := by
  obtain ⟨fv, qv, e, h1, h2⟩ := h
  exact ⟨fv, qv, e, (h1.below hb).more hb.size, (h2.below hb).more hb.size⟩
theorem OO.below {w w' : World} {B : Nat} {v : Value} {o : OB} (h : OO w B v o) (hb : Below w.heap.size w w') : OO w' B v o := by
  obtain ⟨fv, qv, e, h1, h2⟩ := h
  exact ⟨fv, qv, e, own_below h1 hb, own_below h2 hb⟩
theorem OO.base {w : World} {B B' : Nat} {v : Value} {o : OB} (h : OO w B v o) (hb : B' ≤ B) : OO w B' v o := by
  obtain ⟨fv, qv, e, h1, h2⟩ := h
  exact ⟨fv, qv, e, own_base h1 hb, own_base h2 hb⟩
def Small (o : OB) : Prop := o.F.length ≤ 100000 ∧ o.Q.length ≤ 100000
set_option maxHeartbeats 2000000 in
theorem Own_any (w : World) (v : Value) (o : OB) (h : OR w v o) (hs : Small o) :
    Calls Tryz.prog 72 #[v] w fun e w' => ∃ v', e = .returned v' ∧ OO w' w.heap.size v' o ∧ Below w.heap.size w w' := by
  obtain ⟨last, F, Q⟩ := o
  obtain ⟨fv, qv, rfl, hF, hQ⟩ := h
  obtain ⟨hsF, hsQ⟩ := hs
  simp only at hF hQ hsF hsQ ⊢
  obtain ⟨fo, fc, rfl, _, _⟩ := hF.form
  obtain ⟨qo, qc, rfl, _, _⟩ := hQ.form
  obtain ⟨Fc, hFc⟩ : ∃ L, L = eF.cells F := ⟨_, rfl⟩
  obtain ⟨Qc, hQc⟩ : ∃ L, L = eM.cells Q := ⟨_, rfl⟩
  have HF1 := Lib.hid (show ∀ u ∈ Fc, u.oneCell' = true by rw [hFc]; exact eF.cells_oneCell F)
  have HQ1 := Lib.hid (show ∀ u ∈ Qc, u.oneCell' = true by rw [hQc]; exact eM.cells_oneCell Q)
  rw [← hFc] at hF
  rw [← hQc] at hQ
  unfold OO
  rw [← hFc, ← hQc]
  clear hFc hQc
  have HF := Lib.hid hF
  have HQ := Lib.hid hQ
  obtain ⟨nf, hnf⟩ : ∃ n, F.length = n := ⟨_, rfl⟩
  obtain ⟨nq, hnq⟩ : ∃ n, Q.length = n := ⟨_, rfl⟩
  rw [hnf] at HF hsF ⊢
  rw [hnq] at HQ hsQ ⊢
  clear hF hQ hnf hnq
  have HCF := Lib.hid (fun (wx : World) (hx : Below w.heap.size w wx) => CloneF_any wx _ nf Fc ((HF.out.below hx).more hx.size) HF1.out (by omega))
  have HCQ := Lib.hid (fun (wx : World) (hx : Below w.heap.size w wx) => CloneM_any wx _ nq Qc ((HQ.out.below hx).more hx.size) HQ1.out (by omega))
  go_enter Tryz.func72, Tryz.ntmps72
  go_wp2
  obtain ⟨w0, hw0⟩ : ∃ w0, w0 = ((w.alloc (.cells #[.int .i64 last, .slice fo nf fc, .slice qo nq qc] 59)).alloc (.cells #[.int .i64 0, .slice none 0 0, .slice none 0 0] 59)) := ⟨_, rfl⟩
  have hb0 : Below w.heap.size w w0 := by rw [hw0]; go_grown
  have hA : Whole w0 w.heap.size 59 [.int .i64 last, .slice fo nf fc, .slice qo nq qc] := by rw [hw0]; exact (Whole.new w 59 _).alloc _
  have hR : Whole w0 (w.heap.size + 1) 59 [.int .i64 0, .slice none 0 0, .slice none 0 0] := by
    rw [hw0]
    have := Whole.new (w.alloc (.cells #[.int .i64 last, .slice fo nf fc, .slice qo nq qc] 59)) 59 [.int .i64 0, .slice none 0 0, .slice none 0 0]
    simpa using this
  have hz0 : w.heap.size + 2 ≤ w0.heap.size := by rw [hw0]; simp
  rw [← hw0]
  clear hw0
  obtain ⟨a0, a1, a2, a3, a4, a5⟩ := hA.three
  obtain ⟨r0, r1, r2, r3, r4, r5⟩ := hR.three
  go_region_with (first | (go_at_call 110; refine (HCF.out _ (by first | exact hb0 | exact hb0.drew | exact b_tr hb0 (by assumption) | exact b_tr hb0.drew (by assumption))).mono ?_; rintro e wf ⟨vf, rfl, hf, hbf⟩; obtain ⟨vfo, vfc, rfl, hvf1, hvf2⟩ := (Rd.of_own hf).form; have hAf := Whole.belowH (show Whole _ w.heap.size 59 [.int .i64 last, .slice fo nf fc, .slice qo nq qc] by first | assumption | exact hA | exact hA.drew) hbf; have hRf := Whole.belowH (show Whole _ (w.heap.size + 1) 59 [.int .i64 0, .slice none 0 0, .slice none 0 0] by first | assumption | exact hR | exact hR.drew) hbf; obtain ⟨a0, a1, a2, a3, a4, a5⟩ := hAf.three; obtain ⟨r0, r1, r2, r3, r4, r5⟩ := hRf.three) | (go_at_call 69; refine (HCQ.out _ (by first | exact hb0 | exact hb0.drew | exact b_tr hb0 (by assumption) | exact b_tr hb0.drew (by assumption))).mono ?_; rintro e wq ⟨vq, rfl, hq, hbq⟩; obtain ⟨vqo, vqc, rfl, hvq1, hvq2⟩ := (Rd.of_own hq).form; have hAq := Whole.belowH (show Whole _ w.heap.size 59 [.int .i64 last, .slice fo nf fc, .slice qo nq qc] by first | assumption | exact hA | exact hA.drew) hbq; have hRq := Whole.belowH (show Whole _ (w.heap.size + 1) 59 [.int .i64 0, .slice none 0 0, .slice none 0 0] by first | assumption | exact hR | exact hR.drew) hbq; obtain ⟨a0, a1, a2, a3, a4, a5⟩ := hAq.three; obtain ⟨r0, r1, r2, r3, r4, r5⟩ := hRq.three))
  all_goals
    have hbw := b_tr (w2 := _) (by first | exact hb0 | exact hb0.drew) hbf
    have hbw2 := b_tr hbw hbq
    have hzf := hbf.size
    have hzq := hbq.size
    have hff := own_base (base' := w.heap.size + 2) (own_below hf hbq) (by first | exact hz0 | (simp; exact hz0))
    have hqq := own_base (base' := w.heap.size + 2) hq (by first | omega | (simp at hzf; omega))
    have hl : Left [w.heap.size, w.heap.size + 1] _ ((wq.setCell ⟨w.heap.size, 1, none⟩ (.slice vfo nf vfc)).setCell ⟨w.heap.size, 2, none⟩ (.slice vqo nq vqc)) := ((Left.refl _ wq).setCell (Or.inl (by simp)) _).setCell (Or.inl (by simp)) _
    have hl2 : Left [w.heap.size, w.heap.size + 1] _ (((((wq.setCell ⟨w.heap.size, 1, none⟩ (.slice vfo nf vfc)).setCell ⟨w.heap.size, 2, none⟩ (.slice vqo nq vqc)).setCell ⟨w.heap.size + 1, 0, none⟩ (.int .i64 last)).setCell ⟨w.heap.size + 1, 1, none⟩ (.slice vfo nf vfc)).setCell ⟨w.heap.size + 1, 2, none⟩ (.slice vqo nq vqc)) := ((hl.setCell (Or.inl (by simp)) _).setCell (Or.inl (by simp)) _).setCell (Or.inl (by simp)) _
    have H1 := Lib.hid (own_left hff hl2 (by simp))
    have H2 := Lib.hid (own_left hqq hl2 (by simp))
    have H3 := Lib.hid (hbw2.trans (hl2.belowB (B := w.heap.size) hbw2.size (by simp)))
    have HRET := Lib.hid ((((((hRq.other (p := ⟨w.heap.size, 1, none⟩) (by simp) (.slice vfo nf vfc)).other (p := ⟨w.heap.size, 2, none⟩) (by simp) (.slice vqo nq vqc)).put 0 (.int .i64 last)).put 1 (.slice vfo nf vfc)).put 2 (.slice vqo nq vqc)))
    clear hl hl2 hff hqq hf hq
    go_wp2
    (try simp only [Exit.inBlock, Exit.then])
    refine bodyPost_ret (results_cell_row (P := Tryz.prog) (p := 2) (ty := 59) rfl _ _ (w.heap.size + 1) 59 _ (0, 0) _ rfl HRET.out Tryz.underlying59 rfl (by kernel_rfl)) rfl ?_
    exact ⟨_, rfl, ⟨_, _, rfl, own_base H1.out (by omega), own_base H2.out (by omega)⟩, H3.out⟩
end Go.Proofs.YtknnaeejkmlnbaaGreatDoor
namespace Go.Proofs.YtknnaeejkmlnbaaGreatDoor
open Go.RowKit
/-- No text of theirs is too long to be looked at. -/
def ShortM (m : Msg) : Prop := m.t.size ≤ 1000000000 ∧ m.p.size ≤ 1000000000
theorem May1_any (m : Msg) (w : World) (hs : ShortM m) : Calls Tryz.prog 105 #[msgV m] w fun e w' => e = .returned (.bool (!okM m)) ∧ Below w.heap.size w w' := by
  obtain ⟨bm, hbm⟩ : ∃ b, okM m = b := ⟨_, rfl⟩
  have hb0 := (Below.refl w.heap.size w).alloc (Nat.le_refl _) (.cells #[.string m.t, .string m.p, .int .i64 m.q, .bool m.r] 83)
  have HM := Lib.hid (fun w => message_any m w hs.1 hs.2)
  rw [hbm] at HM ⊢
  clear hs hbm
  unfold msgV
  go_enter Tryz.func105, Tryz.ntmps105
  go_wp2_with fail
  refine (HM.out _).mono ?_
  rintro e w1 ⟨rfl, hb1⟩
  have hb2 := b_tr hb0 hb1
  go_wp2
  go_ret
  exact ⟨rfl, hb2⟩
set_option maxHeartbeats 1000000 in
theorem IndexM_any (w : World) (v : Value) (Q : List Msg) (Bd : Nat) (h : Rd w Bd 4 v Q.length (eM.cells Q)) (hB : Bd ≤ w.heap.size) (hn : Q.length ≤ 1000000) (hs : ∀ m ∈ Q, ShortM m) :
    Calls Tryz.prog 156 #[v, .func (.func 105) #[] #[]] w fun e w' => ∃ i : Int, e = .returned (.int .i64 i) ∧ (0 ≤ i ↔ ∃ m ∈ Q, okM m = false) ∧ Below w.heap.size w w' := by
  obtain ⟨ao, cap, rfl, hcc, hm⟩ := h.form
  have hm' : cap ≤ 9223372036854775807 := by unfold maxLen at hm; omega
  have H := Lib.hid h
  have HS := Lib.hid hs
  clear h hm hs
  go_enter Tryz.func156, Tryz.ntmps156
  go_wp2
  go_loopw [8] (fun s wr => ∃ k : Nat, s = .int .i64 k ∧ k ≤ Q.length ∧ Below w.heap.size w wr ∧ Hid (∀ j m, j < k → Q[j]? = some m → okM m = true)) (fun s _ => Q.length - (intOf s).toNat)
  case atStart => exact ⟨0, rfl, by omega, Below.refl _ _, Lib.hid (fun j m hj => by omega)⟩
  case round =>
    obtain ⟨k, rfl, hk, hb, HK⟩ := hrel
    by_cases hlt : k < Q.length
    · obtain ⟨m, hm2⟩ : ∃ m, Q[k]? = some m := ⟨_, List.getElem?_eq_getElem hlt⟩
      obtain ⟨b2, o, rfl, hbl, hcs⟩ := Enc.rd_cell (E := eM) (H.out.below (hb.mono hB)) rfl hm2
      obtain ⟨c0, c1, c2, c3⟩ := msg_cells (show wr.rangeAt b2 (o + k * 4) (eM.c m) from hcs)
      have HM := Lib.hid hm2
      have HA := Lib.hid (May1_any m wr (HS.out m (List.mem_of_getElem? hm2)))
      clear hcs hm2
      go_wp2_with fail
      refine HA.out.mono ?_
      rintro e w1 ⟨rfl, hb1⟩
      have hb2 := b_tr hb hb1
      cases hok : okM m
      · have HE : Hid (∃ m ∈ Q, okM m = false) := Lib.hid ⟨m, List.mem_of_getElem? HM.out, hok⟩
        go_wp2
        go_ret
        exact ⟨_, rfl, ⟨fun _ => HE.out, fun _ => by omega⟩, hb2⟩
      · have HK2 : Hid (∀ j m, j < k + 1 → Q[j]? = some m → okM m = true) := Lib.hid (fun j m' hj hm' => by
          by_cases e : j = k
          · subst e
            rw [HM.out] at hm'
            injection hm' with hm'
            subst hm'
            exact hok
          · exact HK.out j m' (by omega) hm')
        clear hok
        go_wp2
        go_roundw
        case rel => exact ⟨k + 1, by go_num, by omega, hb2, HK2⟩
        case measure => simp [intOf]; omega
    · have e : k = Q.length := by omega
      subst e
      have HE : Hid (¬ ∃ m ∈ Q, okM m = false) := Lib.hid (by
        rintro ⟨m, hm, hf⟩
        obtain ⟨j, hj⟩ := List.getElem?_of_mem hm
        have := HK.out j m (List.getElem?_eq_some_iff.1 hj).1 hj
        rw [hf] at this
        cases this)
      go_wp2
      go_ret
      exact ⟨-1, rfl, ⟨fun h => by omega, fun h => absurd h HE.out⟩, hb⟩
theorem ContM_any (w : World) (v : Value) (Q : List Msg) (Bd : Nat) (h : Rd w Bd 4 v Q.length (eM.cells Q)) (hB : Bd ≤ w.heap.size) (hn : Q.length ≤ 1000000) (hs : ∀ m ∈ Q, ShortM m) :
    Calls Tryz.prog 104 #[v, .func (.func 105) #[] #[]] w fun e w' => e = .returned (.bool (!Q.all okM)) ∧ Below w.heap.size w w' := by
  obtain ⟨ao, cap, rfl, hcc, hm⟩ := h.form
  have HI := Lib.hid (IndexM_any w _ Q Bd h hB hn hs)
  clear h hm hs
  go_enter Tryz.func104, Tryz.ntmps104
  go_wp2_with fail
  refine HI.out.mono ?_
  rintro e w1 ⟨i, rfl, hi, hb1⟩
  have HQ : Hid (decide (0 ≤ i) = !Q.all okM) := Lib.hid (by
    cases hq : Q.all okM
    · rw [List.all_eq_false] at hq
      obtain ⟨m, hm, hf⟩ := hq
      simpa using hi.2 ⟨m, hm, by simpa using hf⟩
    · rw [List.all_eq_true] at hq
      simp only [Bool.not_true, decide_eq_false_iff_not]
      intro h0
      obtain ⟨m, hm, hf⟩ := hi.1 h0
      rw [hq m hm] at hf
      cases hf)
  clear hi
  go_wp2
  go_ret
  exact ⟨by rw [← HQ.out]; rfl, hb1⟩
end Go.Proofs.YtknnaeejkmlnbaaGreatDoor
namespace Go.Proofs.YtknnaeejkmlnbaaGreatDoor
open Go.RowKit Go.MapKept

/-- What lies at key k of a list of entries. -/
def look (L : List (Int × Value)) (k : Int) : Option Value := (L.find? (·.1 == k)).map (·.2)
def del (L : List (Int × Value)) (k : Int) : List (Int × Value) := L.eraseP (·.1 == k)
def entryOf (e : MapEntry) : Value × Value := (e.key, e.val)
def pairOf (p : Int × Value) : Value × Value := (.int .i64 p.1, p.2)

/-- Block b is a map whose entries are L, in this order. -/
def IM (w : World) (b : Nat) (es : Array MapEntry) (clock : Nat) (L : List (Int × Value)) : Prop :=
  w.heap[b]? = some (.map es clock) ∧ Stamped es clock ∧ es.toList.map entryOf = L.map pairOf
def IMap (w : World) (b : Nat) (L : List (Int × Value)) : Prop := ∃ es clock, IM w b es clock L

theorem findNow_int (k : Int) : ∀ (L : List (Int × Value)) (es : List MapEntry) (i : Nat), es.map entryOf = L.map pairOf →
    ∃ j, Instr.findNow (.int .i64) (.int .i64 k) es i = some ((L.find? (·.1 == k)).map fun p => (i + j, p.2)) ∧ ((L.find? (·.1 == k)).isSome = true → j < es.length ∧ (es.eraseIdx j).map entryOf = (L.eraseP (·.1 == k)).map pairOf)
  | [], [], i, _ => ⟨0, rfl, fun h => by cases h⟩
  | [], _ :: _, _, h => by cases h
  | _ :: _, [], _, h => by cases h
  | p :: L, e :: es, i, h => by
    simp only [List.map_cons, List.cons.injEq] at h
    obtain ⟨h1, h2⟩ := h
    have hk : e.key = .int .i64 p.1 := congrArg Prod.fst h1
    have hv : e.val = p.2 := congrArg Prod.snd h1
    by_cases hp : p.1 = k
    · refine ⟨0, ?_, fun _ => ⟨by simp, ?_⟩⟩
      · simp [Instr.findNow, Instr.sameNow, hk, hp, hv]
      · simp [hp, h2]
    · obtain ⟨j, hj1, hj2⟩ := findNow_int k L es (i + 1) h2
      have hne : (p.1 == k) = false := by simpa using hp
      have hne' : (k == p.1) = false := by simpa using fun e => hp e.symm
      refine ⟨j + 1, ?_, fun hs => ?_⟩
      · simp only [Instr.findNow, Instr.sameNow, hk, if_pos, hne', List.find?_cons, hne]
        rw [hj1]
        congr 2
        funext q
        congr 1
        omega
      · have hs' : (L.find? (·.1 == k)).isSome = true := by simpa [List.find?_cons, hne] using hs
        obtain ⟨hl, he⟩ := hj2 hs'
        refine ⟨by simp; omega, ?_⟩
        rw [List.eraseIdx_cons_succ, List.eraseP_cons_of_neg (by simpa using hp), List.map_cons, List.map_cons, h1, he]

section
variable {P : Program} {w : World} {t kt et b : Nat} {L : List (Int × Value)}
theorem run_look (h : IMap w b L) (ht : P.underlying t = some (.map kt et)) (hk : P.underlying kt = some (.int .i64)) {z : Value} (hz : (zeroValue et).run P w = .ok z w) (k : Int) :
    (Instr.lookup t (.map (some b)) (.int .i64 k) false).run P w = .ok ((look L k).getD z) w := by
  obtain ⟨es, clock, hb, _, hL⟩ := h
  obtain ⟨j, h1, _⟩ := findNow_int k L es.toList 0 hL
  unfold look
  cases hf : L.find? (·.1 == k) with
  | none =>
    rw [hf] at h1
    simp [Instr.lookup, run_underlying ht, MapKept.run_getObj_map hb, run_checkKey hk (d := .int .i64) (k := .int .i64 k) (by simp [IsKey]), run_findKey hk h1, hz, Result.andThen]
  | some p =>
    rw [hf] at h1
    simp [Instr.lookup, run_underlying ht, MapKept.run_getObj_map hb, run_checkKey hk (d := .int .i64) (k := .int .i64 k) (by simp [IsKey]), run_findKey hk h1, Result.andThen]

theorem IMap.size (h : IMap w b L) : ∃ es clock, w.heap[b]? = some (.map es clock) ∧ es.size = L.length := by
  obtain ⟨es, clock, hb, _, hL⟩ := h
  refine ⟨es, clock, hb, ?_⟩
  have := congrArg List.length hL
  simpa using this

theorem run_maplen (h : IMap w b L) (ht : P.underlying t = some (.map kt et)) (ty : TypeId) : (Builtin.len_ #[t] ty #[.map (some b)]).run P w = .ok (.int .i64 L.length) w := by
  obtain ⟨es, clock, hb, hs⟩ := h.size
  simp [Builtin.len_, run_underlying ht, MapKept.run_getObj_map hb, Result.andThen, hs, goInt]

theorem look_none {k : Int} (h : look L k = none) : ∀ p ∈ L, p.1 ≠ k := by
  unfold look at h
  rw [Option.map_eq_none_iff, List.find?_eq_none] at h
  intro p hp e
  have := h p hp
  simp [e] at this

theorem IM.pushed {es : Array MapEntry} {clock : Nat} (h : IM w b es clock L) {k : Int} (hn : look L k = none) (v : Value) {w' : World} (hb : w'.heap[b]? = some (.map (es.push ⟨.int .i64 k, v, clock⟩) (clock + 1))) : IMap w' b (L ++ [(k, v)]) := by
  obtain ⟨h0, hs, hL⟩ := h
  refine ⟨_, _, hb, stamped_push hs (fun x hx => ?_), by simp [hL, entryOf, pairOf]⟩
  intro e
  have hm : entryOf x ∈ L.map pairOf := by rw [← hL]; exact List.mem_map_of_mem hx
  obtain ⟨p, hp, hpx⟩ := List.mem_map.1 hm
  have hk : Value.int .i64 p.1 = x.key := congrArg Prod.fst hpx
  rw [e] at hk
  injection hk with _ hk
  exact look_none hn p hp hk
theorem IMap.keep {w' : World} (h : IMap w b L) (hb : w'.heap[b]? = w.heap[b]?) : IMap w' b L := by
  obtain ⟨es, clock, h0, hs⟩ := h
  exact ⟨es, clock, hb.trans h0, hs⟩
theorem IMap.lt (h : IMap w b L) : b < w.heap.size := by
  obtain ⟨es, clock, h0, _⟩ := h
  rcases Nat.lt_or_ge b w.heap.size with hl | hl
  · exact hl
  · rw [Array.getElem?_eq_none hl] at h0; cases h0
theorem IMap.left {w' : World} {S : List Nat} (h : IMap w b L) (hl : Left S w w') (hn : b ∉ S) : IMap w' b L := h.keep (hl.block b h.lt hn)
theorem IMap.new (w : World) : IMap (w.alloc (.map #[] 0)) w.heap.size [] := ⟨#[], 0, heap_alloc_new w _, stamped_empty _, rfl⟩

end
end Go.Proofs.YtknnaeejkmlnbaaGreatDoor
namespace Go.Proofs.YtknnaeejkmlnbaaGreatDoor
open Go.RowKit Go.MapKept
open Go.ChangeMaps (setBlock)

/-- Block r is an iterator over the map of entries L in block b, of which these are still to come. -/
def RIt (w : World) (r b : Nat) (L lft : List (Int × Value)) : Prop :=
  ∃ es clock since seen c0, IM w b es clock L ∧ w.heap[r]? = some (.mapIter (some b) since seen c0) ∧ (∀ x ∈ es.toList, x.born < since) ∧ (since ≤ c0 ∧ since ≤ clock) ∧ (leftOf es seen).toList.map entryOf = lft.map pairOf

theorem filter_pairs {e : MapEntry} {p : Int × Value} (hp : entryOf e = pairOf p) : ∀ (l : List MapEntry) (lft : List (Int × Value)), l.map entryOf = lft.map pairOf → (∀ x ∈ l, (x.born = e.born ↔ x.key = e.key)) →
    (l.filter (fun x => !(x.born == e.born))).map entryOf = (lft.filter (fun q => q.1 != p.1)).map pairOf
  | [], [], _, _ => rfl
  | [], _ :: _, h, _ => by cases h
  | _ :: _, [], h, _ => by cases h
  | x :: l, q :: lft, h, hb => by
    simp only [List.map_cons, List.cons.injEq] at h
    obtain ⟨h1, h2⟩ := h
    have ih := filter_pairs hp l lft h2 (fun y hy => hb y (by simp [hy]))
    have hk : x.key = .int .i64 q.1 := congrArg Prod.fst h1
    have he : e.key = .int .i64 p.1 := congrArg Prod.fst hp
    by_cases hq : q.1 = p.1
    · have hx : x.born = e.born := (hb x (by simp)).2 (by rw [hk, he, hq])
      rw [List.filter_cons_of_neg (by simp [hx]), List.filter_cons_of_neg (by simp [hq])]
      exact ih
    · have hx : x.born ≠ e.born := fun e' => hq (by
        have := (hb x (by simp)).1 e'
        rw [hk, he] at this
        injection this)
      rw [List.filter_cons_of_pos (by simp [hx]), List.filter_cons_of_pos (by simp [hq]), List.map_cons, List.map_cons, h1, ih]
theorem nodup_inj {α β : Type} {f : α → β} : ∀ {l : List α}, (l.map f).Nodup → ∀ {x y : α}, x ∈ l → y ∈ l → f x = f y → x = y
  | [], _, _, _, hx, _, _ => by simp at hx
  | a :: l, h, x, y, hx0, hy0, e => by
    rw [List.map_cons, List.nodup_cons] at h
    rcases List.mem_cons.1 hx0 with hxa | hx
    · rcases List.mem_cons.1 hy0 with hya | hy
      · rw [hxa, hya]
      · exact absurd (List.mem_map.2 ⟨y, hy, by rw [← e, hxa]⟩) h.1
    · rcases List.mem_cons.1 hy0 with hya | hy
      · exact absurd (List.mem_map.2 ⟨x, hx, by rw [e, hya]⟩) h.1
      · exact nodup_inj h.2 hx hy e
section
variable {P : Program} {w w' : World} {t kt et r b : Nat} {L lft : List (Int × Value)} {S : List Nat}
theorem RIt.map (h : RIt w r b L lft) : IMap w b L := by
  obtain ⟨es, clock, since, seen, c0, h1, _⟩ := h
  exact ⟨es, clock, h1⟩
theorem RIt.ne (h : RIt w r b L lft) : r ≠ b := by
  obtain ⟨es, clock, since, seen, c0, h1, h2, _⟩ := h
  intro e
  subst e
  rw [h1.1] at h2
  injection h2 with h2
  cases h2
theorem RIt.lt (h : RIt w r b L lft) : r < w.heap.size := by
  obtain ⟨es, clock, since, seen, c0, h1, h2, _⟩ := h
  exact (Array.getElem?_eq_some_iff.1 h2).1
theorem RIt.left (h : RIt w r b L lft) (hl : Left S w w') (h1 : b ∉ S) (h2 : r ∉ S) : RIt w' r b L lft := by
  have hr := h.lt
  have hb := h.map.lt
  obtain ⟨es, clock, since, seen, c0, g1, g2, g3⟩ := h
  exact ⟨es, clock, since, seen, c0, ⟨(hl.block b hb h1).trans g1.1, g1.2⟩, (hl.block r hr h2).trans g2, g3⟩
/-- The next one, whichever. -/
theorem RIt.next (h : RIt w r b L lft) (ty : TypeId) :
    (lft = [] ∧ (Instr.next (.pointer (some ⟨r, 0, none⟩)) false ty).run P w = .ok (.tuple #[.bool false]) w) ∨
    ∃ p ∈ lft, ∃ w1, (Instr.next (.pointer (some ⟨r, 0, none⟩)) false ty).run P w = .ok (.tuple #[.bool true, .int .i64 p.1, p.2]) w1 ∧ (Instr.entry (.pointer (some ⟨r, 0, none⟩))).run P w1 = .ok (.tuple #[.int .i64 p.1, p.2]) w1 ∧
      RIt w1 r b L (lft.filter (fun q => q.1 != p.1)) ∧ Left [r] w w1 ∧ (lft.filter (fun q => q.1 != p.1)).length < lft.length := by
  have hne := h.ne
  obtain ⟨es, clock, since, seen, c0, h1, h2, h3, h4, h5⟩ := h
  rcases run_next_at (P := P) w ty r b since c0 seen es clock h2 h1.1 h3 h4.1 with ⟨hz, hrun⟩ | ⟨e, he, w1, hw1, hrun⟩
  · refine .inl ⟨?_, hrun⟩
    have : (leftOf es seen).toList = [] := List.eq_nil_of_length_eq_zero (by simpa using hz)
    rw [this] at h5
    exact List.map_eq_nil_iff.1 h5.symm
  · have hee : e ∈ es.toList := by
      unfold leftOf at he
      simp at he
      simpa using he.1
    have hm : entryOf e ∈ lft.map pairOf := by rw [← h5]; exact List.mem_map_of_mem he
    obtain ⟨p, hp, hpe⟩ := List.mem_map.1 hm
    have hk : e.key = .int .i64 p.1 := (congrArg Prod.fst hpe).symm
    have hv : e.val = p.2 := (congrArg Prod.snd hpe).symm
    have hb1 : w1.heap = w.heap := by rcases hw1 with rfl | rfl <;> rfl
    have hr1 : w1.heap[r]? = some (.mapIter (some b) since seen c0) := by rw [hb1]; exact h2
    have hsb := heap_set (o' := .mapIter (some b) since (seen.push e.born) clock) hr1
    have hrb : (setBlock w1 r (.mapIter (some b) since (seen.push e.born) clock)).heap[r]? = some (.mapIter (some b) since (seen.push e.born) clock) := hsb.1
    have hbb : (setBlock w1 r (.mapIter (some b) since (seen.push e.born) clock)).heap[b]? = some (.map es clock) := (hsb.2 b hne.symm).trans (by rw [hb1]; exact h1.1)
    have hl : Left [r] w (setBlock w1 r (.mapIter (some b) since (seen.push e.born) clock)) := by
      have hl1 : Left [r] w w1 := by rcases hw1 with rfl | rfl; exact Left.refl _ _; exact (Left.refl _ _).drew
      refine hl1.trans (T := [r]) ⟨rfl, rfl, rfl, by simp [setBlock], fun k hk hn => hsb.2 k (by simpa using hn)⟩ (by simp)
    have hiff : ∀ x ∈ (leftOf es seen).toList, (x.born = e.born ↔ x.key = e.key) := fun x hx => by
      have hxe : x ∈ es.toList := by
        unfold leftOf at hx
        simp at hx
        simpa using hx.1
      exact ⟨fun g => by rw [nodup_inj h1.2.1.2.1 hxe hee g], fun g => by rw [nodup_inj h1.2.1.2.2 hxe hee g]⟩
    have hfl : (leftOf es (seen.push e.born)).toList = (leftOf es seen).toList.filter (fun x => !(x.born == e.born)) := by
      unfold leftOf
      rw [Array.toList_filter, Array.toList_filter, List.filter_filter]
      apply List.filter_congr
      intro x _
      simp [Array.contains_push, Bool.and_comm]
      cases decide (x.born ∈ seen) <;> by_cases hxe : x.born = e.born <;> simp [hxe]
    refine .inr ⟨p, hp, _, ?_, ?_, ⟨es, clock, since, seen.push e.born, clock, ⟨hbb, h1.2⟩, hrb, h3, ⟨h4.2, h4.2⟩, ?_⟩, hl, ?_⟩
    · rw [hrun, hk, hv]
    · rw [run_entry_at _ r b since seen es clock e hrb hbb hee h1.2.1.2.1, hk, hv]
    · rw [hfl]
      exact filter_pairs hpe.symm _ _ h5 hiff
    · exact List.length_filter_lt_length_iff_exists.2 ⟨p, hp, by simp⟩

theorem findNow_at (k : Int) : ∀ (L : List (Int × Value)) (es : List MapEntry) (i : Nat) (v : Value), es.map entryOf = L.map pairOf → look L k = some v →
    ∃ (j : Nat) (e : MapEntry), Instr.findNow (.int .i64) (.int .i64 k) es i = some (i + j, v) ∧ es[j]? = some e ∧ e.key = .int .i64 k ∧ L[j]? = some (k, v)
  | [], _, _, _, _, hl => by simp [look] at hl
  | _ :: _, [], _, _, h, _ => by cases h
  | p :: L, e :: es, i, v, h, hl => by
    simp only [List.map_cons, List.cons.injEq] at h
    obtain ⟨h1, h2⟩ := h
    have hk : e.key = .int .i64 p.1 := congrArg Prod.fst h1
    have hv : e.val = p.2 := congrArg Prod.snd h1
    by_cases hp : p.1 = k
    · have hpv : p.2 = v := by simpa [look, hp] using hl
      refine ⟨0, e, ?_, rfl, by rw [hk, hp], by obtain ⟨a, c⟩ := p; simp only at hp hpv; subst hp hpv; rfl⟩
      simp [Instr.findNow, Instr.sameNow, hk, hp, hv, hpv]
    · have hne : (p.1 == k) = false := by simpa using hp
      have hne' : (k == p.1) = false := by simpa using fun e => hp e.symm
      have hl' : look L k = some v := by simpa [look, List.find?_cons, hne] using hl
      obtain ⟨j, x, a, c, d, f⟩ := findNow_at k L es (i + 1) v h2 hl'
      refine ⟨j + 1, x, ?_, by simpa using c, d, by simpa using f⟩
      simp only [Instr.findNow, Instr.sameNow, hk, if_pos, hne']
      rw [a, Nat.add_assoc, Nat.add_comm 1 j]
/-- An entry laid at a key, new or not. -/
theorem run_update_imap (h : IMap w b L) (ht : P.underlying t = some (.map kt et)) (hk : P.underlying kt = some (.int .i64)) (k : Int) (v : Value) :
    ∃ w', (Instr.mapUpdate t (.map (some b)) (.int .i64 k) v).run P w = .ok () w' ∧ Left [b] w w' ∧ ((look L k = none ∧ IMap w' b (L ++ [(k, v)])) ∨ ∃ j v0, L[j]? = some (k, v0) ∧ IMap w' b (L.set j (k, v))) := by
  obtain ⟨es, clock, hb, hs, hL⟩ := h
  cases hl : look L k with
  | none =>
    obtain ⟨j, h1, _⟩ := findNow_int k L es.toList 0 hL
    have hf : L.find? (·.1 == k) = none := by
      unfold look at hl
      exact Option.map_eq_none_iff.1 hl
    rw [hf] at h1
    refine ⟨{ w with heap := w.heap.setIfInBounds b (.map (es.push ⟨.int .i64 k, v, clock⟩) (clock + 1)) }, ?_, ⟨rfl, rfl, rfl, by simp, fun k _ hn => (heap_set hb).2 k (by simpa using hn)⟩, .inl ⟨rfl, (show IM w b es clock L from ⟨hb, hs, hL⟩).pushed hl v (heap_set hb).1⟩⟩
    simp [Instr.mapUpdate, run_underlying ht, MapKept.run_getObj_map hb, run_checkKey hk (d := .int .i64) (k := .int .i64 k) (by simp [IsKey]), run_findKey hk h1, MapKept.run_setObj_map _ hb, Result.andThen]
  | some v0 =>
    obtain ⟨j, e, h1, h2, h3, h4⟩ := findNow_at k L es.toList 0 v0 hL hl
    rw [Nat.zero_add] at h1
    have hj : es[j]? = some e := by simpa using h2
    have hjl := (Array.getElem?_eq_some_iff.1 hj).1
    have hje := (Array.getElem?_eq_some_iff.1 hj).2
    refine ⟨{ w with heap := w.heap.setIfInBounds b (.map (es.modify j fun x => { x with key := .int .i64 k, val := v }) clock) }, ?_, ⟨rfl, rfl, rfl, by simp, fun k _ hn => (heap_set hb).2 k (by simpa using hn)⟩, .inr ⟨j, v0, h4, _, clock, (heap_set hb).1, ?_, ?_⟩⟩
    · simp [Instr.mapUpdate, run_underlying ht, MapKept.run_getObj_map hb, run_checkKey hk (d := .int .i64) (k := .int .i64 k) (by simp [IsKey]), run_findKey hk h1, hj, h3, run_keyThatStays (d := .int .i64) (k := .int .i64 k) (by simp [IsKey]), MapKept.run_setObj_map _ hb, Result.andThen]
    · exact stamped_modify hs _ _ (fun _ _ => rfl) (fun e' _ he' => by rw [hj] at he'; cases he'; exact h3.symm)
    · have : (es.modify j fun x => { x with key := .int .i64 k, val := v }).toList = es.toList.set j { e with key := .int .i64 k, val := v } := by
        apply List.ext_getElem?
        intro i
        rw [List.getElem?_set]
        simp only [Array.getElem?_toList, Array.getElem?_modify]
        by_cases hij : j = i
        · subst hij
          simp [hj, hjl, hje]
        · simp [hij]
      rw [this, List.map_set, hL, List.map_set]
      rfl
end
end Go.Proofs.YtknnaeejkmlnbaaGreatDoor
namespace Go.Proofs.YtknnaeejkmlnbaaGreatDoor
open Go.RowKit
theorem zero_bool (w : World) : (zeroValue 4).run Tryz.prog w = .ok (.bool false) w := by kernel_rfl
def seenL (F : List Fl) (k : Nat) : List (Int × Value) := (F.take k).map fun f => (f.id, .bool true)
theorem seen_next {F : List Fl} {k : Nat} {f : Fl} (hf : F[k]? = some f) : seenL F (k + 1) = seenL F k ++ [(f.id, .bool true)] := by
  unfold seenL
  rw [List.take_add_one, hf]
  simp
end Go.Proofs.YtknnaeejkmlnbaaGreatDoor
namespace Go.Proofs.YtknnaeejkmlnbaaGreatDoor

/-- As Q; by a goto to label l: J l. -/
def exitJumps (J : Nat → Act → World → Prop) (Q : Exit → Act → World → Prop) : Exit → Act → World → Prop
  | .goto l, a, w => J l a w
  | e, a, w => Q e a w

section
variable {P : Program} {a : Act} {w : World} {Q : Exit → Act → World → Prop}
theorem wp_scope_labels {c : Code} (J : Nat → Act → World → Prop) (μ : Nat → Act → World → Nat)
    (first : c.wp P (exitJumps J Q) a w)
    (pass : ∀ l a w, J l a w → ∃ rest, findLabel c l = some rest ∧ rest.wp P (exitJumps (fun l' a' w' => J l' a' w' ∧ μ l' a' w' < μ l a w) Q) a w) : (Code.scope c).wp P Q a w := by
  intro b k cs
  have key : ∀ n l a w, μ l a w = n → J l a w → ∃ rest, findLabel c l = some rest ∧ ∃ e a' w', Q e a' w' ∧ Arrives P (lone (b.at a (.code rest :: .inScope c :: k)) cs w) b k cs e a' w' := by
    intro n
    induction n using Nat.strongRecOn with
    | _ n ih =>
      intro l a w hn hJ
      obtain ⟨rest, hf, hr⟩ := pass l a w hJ
      refine ⟨rest, hf, ?_⟩
      obtain ⟨e, a₁, w₁, hq, harr⟩ := hr b (.inScope c :: k) cs
      cases e with
      | normal => exact ⟨.normal, a₁, w₁, hq, Steps.trans harr (.one step_inScope)⟩
      | exit id => exact ⟨.exit id, a₁, w₁, hq, fun k' hk => harr k' (by simp [exitTo, hk])⟩
      | goto l' =>
        obtain ⟨hJ', hlt⟩ := hq
        obtain ⟨rest', hf', e₂, a₂, w₂, hq₂, harr₂⟩ := ih _ (by omega) l' a₁ w₁ rfl hJ'
        exact ⟨e₂, a₂, w₂, hq₂, .of_steps (harr _ (by simp [gotoIn, hf'])) harr₂⟩
      | ret => exact ⟨_, a₁, w₁, hq, harr⟩
      | panic ch => exact ⟨_, a₁, w₁, hq, harr⟩
      | outgrown => exact ⟨_, a₁, w₁, hq, harr⟩
  obtain ⟨e, a₁, w₁, hq, harr⟩ := first b (.inScope c :: k) cs
  cases e with
  | normal => exact ⟨.normal, a₁, w₁, hq, .head step_scope (Steps.trans harr (.one step_inScope))⟩
  | exit id => exact ⟨.exit id, a₁, w₁, hq, fun k' hk => .head step_scope (harr k' (by simp [exitTo, hk]))⟩
  | goto l' =>
    obtain ⟨rest', hf', e₂, a₂, w₂, hq₂, harr₂⟩ := key _ l' a₁ w₁ rfl hq
    exact ⟨e₂, a₂, w₂, hq₂, .of_steps (.head step_scope (harr _ (by simp [gotoIn, hf']))) harr₂⟩
  | ret => exact ⟨_, a₁, w₁, hq, .of_steps (.one step_scope) harr⟩
  | panic ch => exact ⟨_, a₁, w₁, hq, .of_steps (.one step_scope) harr⟩
  | outgrown => exact ⟨_, a₁, w₁, hq, .of_steps (.one step_scope) harr⟩
end
end Go.Proofs.YtknnaeejkmlnbaaGreatDoor
namespace Go.Proofs.YtknnaeejkmlnbaaGreatDoor
section
variable {P : Program} {a : Act} {w : World} {Q : Exit → Act → World → Prop}
theorem wp_skip_seq {c : Code} (h : c.wp P Q a w) : (Code.skip.seq c).wp P Q a w := wp_seq (wp_skip (by simpa [Exit.then] using h))
theorem wp_scope_falls {c rest0 : Code} (l0 : Nat) (J : Nat → Act → World → Prop) (μ : Nat → Act → World → Nat) (hf : findLabel c l0 = some (Code.skip.seq rest0))
    (pass : ∀ l a w, J l a w → ∃ rest, findLabel c l = some (Code.skip.seq rest) ∧ rest.wp P (exitJumps (fun l' a' w' => J l' a' w' ∧ μ l' a' w' < μ l a w) Q) a w)
    (first : (∀ a w, J l0 a w → rest0.wp P (exitJumps J Q) a w) → c.wp P (exitJumps J Q) a w) : (Code.scope c).wp P Q a w := by
  refine wp_scope_labels J μ (first fun a w hJ => ?_) (fun l a w hJ => ?_)
  · obtain ⟨rest, hr, hw⟩ := pass l0 a w hJ
    have h1 := Option.some.inj (hr.symm.trans hf)
    injection h1 with _ h1
    subst h1
    exact wp_mono hw fun e a w h => by
      cases e with
      | goto l => exact h.1
      | _ => exact h
  · obtain ⟨rest, hr, hw⟩ := pass l a w hJ
    exact ⟨_, hr, wp_skip_seq hw⟩
/-- As above; what the label leads to is told where it is wanted. -/
theorem wp_scope_falls2 {c : Code} (l0 : Nat) (J : Nat → Act → World → Prop) (μ : Nat → Act → World → Nat)
    (pass : ∀ l a w, J l a w → ∃ rest, findLabel c l = some (Code.skip.seq rest) ∧ rest.wp P (exitJumps (fun l' a' w' => J l' a' w' ∧ μ l' a' w' < μ l a w) Q) a w)
    (first : (∀ rest0 a w, findLabel c l0 = some (Code.skip.seq rest0) → J l0 a w → rest0.wp P (exitJumps J Q) a w) → c.wp P (exitJumps J Q) a w) : (Code.scope c).wp P Q a w := by
  refine wp_scope_labels J μ (first fun rest0 a w hf hJ => ?_) (fun l a w hJ => ?_)
  · obtain ⟨rest, hr, hw⟩ := pass l0 a w hJ
    have h1 := Option.some.inj (hr.symm.trans hf)
    injection h1 with _ h1
    subst h1
    exact wp_mono hw fun e a w h => by
      cases e with
      | goto l => exact h.1
      | _ => exact h
  · obtain ⟨rest, hr, hw⟩ := pass l a w hJ
    exact ⟨_, hr, wp_skip_seq hw⟩
end
end Go.Proofs.YtknnaeejkmlnbaaGreatDoor
