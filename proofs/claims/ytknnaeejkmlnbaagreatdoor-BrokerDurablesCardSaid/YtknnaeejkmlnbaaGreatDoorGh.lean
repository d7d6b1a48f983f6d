/- A region whose order is drawn, and whose last operations come in one forced order: the first ones by themselves, then the last ones one by one. Over any program. The outbox's small functions: message, publish, Clone, Own, at. A message that may be sent, by the page. The page's own: an outbox that may be. The page's own: rising numbers, numbers between, a will that may be. The page's own: an outbox may be: of any. -/
import Derived.Test.YtknnaeejkmlnbaaGreatDoorGa
import Derived.StillTail
import Derived.Test.YtknnaeejkmlnbaaGreatDoorGb
import Derived.Lib.Hide
import Derived.Handy
import Derived.Deep.DeepCutAuto
import Derived.Test.YtknnaeejkmlnbaaGreatDoorRcMay1
import Derived.Test.YtknnaeejkmlnbaaGreatDoorObMayA
namespace Go.Proofs.YtknnaeejkmlnbaaGreatDoor
section
variable {P : Program} {Q : Exit → Act → World → Prop} {S : World → Prop}
end
end Go.Proofs.YtknnaeejkmlnbaaGreatDoor
namespace Go.Proofs.YtknnaeejkmlnbaaGreatDoor
open Go.RowKit
end Go.Proofs.YtknnaeejkmlnbaaGreatDoor
namespace Go.Proofs.YtknnaeejkmlnbaaGreatDoor
open Go.RowKit
set_option maxHeartbeats 1000000 in
theorem rMsg_any (m : Msg) (w : World) (ht : m.t.size ≤ 1000000000) (hp : m.p.size ≤ 1000000000) : Calls Tryz.prog 75 #[msgV m] w fun e w' => e = .returned (.bool (okM m)) ∧ Below w.heap.size w w' := by
  obtain ⟨t, p, q, r⟩ := m
  unfold msgV
  simp only at ht hp ⊢
  have hb0 := (Below.refl w.heap.size w).alloc (Nat.le_refl _) (.cells #[.string t, .string p, .int .i64 q, .bool r] 83)
  by_cases h1 : 1 ≤ t.size
  · by_cases h2 : t.size ≤ 64
    · by_cases h3 : p.size ≤ 128
      · by_cases h4 : 1 ≤ q
        · by_cases h5 : q ≤ 2
          · have hd : Hid ((decide (q = 1) || decide (q = 2)) = true) := Lib.hid (by simp; omega)
            go_enter Tryz.func75, Tryz.ntmps75
            go_wp2
            go_ret
            exact ⟨by simp [okM, h1, h2, h3]; simpa using hd.out, hb0⟩
          · have hd : Hid ((decide (q = 1) || decide (q = 2)) = false) := Lib.hid (by simp; omega)
            go_enter Tryz.func75, Tryz.ntmps75
            go_wp2
            go_ret
            exact ⟨by simp only [okM, hd.out, Bool.and_false]; rfl, hb0⟩
        · have hd : Hid ((decide (q = 1) || decide (q = 2)) = false) := Lib.hid (by simp; omega)
          go_enter Tryz.func75, Tryz.ntmps75
          go_wp2
          go_ret
          exact ⟨by simp only [okM, hd.out, Bool.and_false]; rfl, hb0⟩
      · have h3' : ¬ ((p.size : Int) ≤ 128) := by omega
        go_enter Tryz.func75, Tryz.ntmps75
        go_wp2
        go_ret
        exact ⟨by simp [okM, h3], hb0⟩
    · have h2' : ¬ ((t.size : Int) ≤ 64) := by omega
      go_enter Tryz.func75, Tryz.ntmps75
      go_wp2
      go_ret
      exact ⟨by simp [okM, h2], hb0⟩
  · have h1' : ¬ ((1 : Int) ≤ (t.size : Int)) := by omega
    go_enter Tryz.func75, Tryz.ntmps75
    go_wp2
    go_ret
    exact ⟨by simp [okM, h1], hb0⟩
end Go.Proofs.YtknnaeejkmlnbaaGreatDoor
namespace Go.Proofs.YtknnaeejkmlnbaaGreatDoor
open Go.RowKit
end Go.Proofs.YtknnaeejkmlnbaaGreatDoor
namespace Go.Proofs.YtknnaeejkmlnbaaGreatDoor
open Go.RowKit Go.Shelf Go.Proofs
/-- Above the one ahead. -/
def riseAt (L : List Int) (k : Nat) (x : Int) : Prop := ∀ j y, j + 1 = k → L[j]? = some y → y < x
def riseOk (L : List Int) : Prop := ∀ k x, L[k]? = some x → riseAt L k x
def betw (L : List Int) (a b : Int) : Prop := ∀ x ∈ L, a ≤ x ∧ x ≤ b
theorem nums_any (n m : Int) (w : World) : Calls Tryz.prog 47 #[.int .i64 n, .int .i64 m] w fun e w' => e = .returned (.bool (decide (0 ≤ n) && decide (n ≤ m))) ∧ w = w' := by
  by_cases h : 0 ≤ n
  · go_enter Tryz.func47, Tryz.ntmps47
    go_wp2
    go_ret
    exact ⟨by simp [h], rfl⟩
  · go_enter Tryz.func47, Tryz.ntmps47
    go_wp2
    go_ret
    exact ⟨by rw [decide_eq_false (show ¬ 0 ≤ n by omega)]; rfl, rfl⟩
set_option maxRecDepth 20000 in
set_option maxHeartbeats 1000000 in
theorem Rising_any (w : World) (v : Value) (L : List Int) (Bd : Nat) (h : Rd w Bd 1 v L.length (eI.cells L)) (hn : L.length ≤ 281474976710656) :
    Calls Tryz.prog 21 #[v] w fun e w' => e = .returned (.bool (yes (riseOk L))) ∧ Below w.heap.size w w' := by
  obtain ⟨ao, cap, rfl, hc, hm⟩ := h.form
  have hc2 : cap ≤ 9223372036854775807 := by unfold maxLen at hm; omega
  have H := Lib.hid h
  clear h hm
  go_enter Tryz.func21, Tryz.ntmps21
  go_wp2
  go_loopw [3] (fun i wr => ∃ k : Nat, i = .int .i64 k ∧ 1 ≤ k ∧ (∃ nd, wr = w.drewN nd) ∧ Hid (∀ j x, j < k → L[j]? = some x → riseAt L j x)) (fun i _ => L.length - (intOf i).toNat)
  case atStart => exact ⟨1, rfl, by omega, ⟨0, rfl⟩, Lib.hid (fun j x hj _ i y hi => by omega)⟩
  case round =>
    obtain ⟨k, rfl, hk, ⟨nd, rfl⟩, HK⟩ := hrel
    have hbd : Hid (Below w.heap.size w (w.drewN nd)) := Lib.hid (below_drewN (Below.refl w.heap.size w) nd)
    have hbd2 : Hid (Below w.heap.size w (w.drewN nd).drew) := Lib.hid hbd.out.drew
    by_cases hlt : k < L.length
    · have hlt' : (k : Int) < (L.length : Int) := by omega
      obtain ⟨x, hx⟩ : ∃ x, L[k]? = some x := ⟨_, List.getElem?_eq_getElem hlt⟩
      obtain ⟨b, o, rfl, _, hcs⟩ := Enc.rd_cell (E := eI) H.out rfl hx
      have x0 : w.cell? ⟨b, o + k, none⟩ = some (.int .i64 x) := by simpa [eI] using hcs 0 _ rfl
      obtain ⟨j, hj⟩ : ∃ j, k = j + 1 := ⟨k - 1, by omega⟩
      obtain ⟨y, hy⟩ : ∃ y, L[j]? = some y := ⟨_, List.getElem?_eq_getElem (by omega)⟩
      obtain ⟨b', o', he, _, hcs2⟩ := Enc.rd_cell (E := eI) H.out rfl hy
      injection he with he
      injection he with he1 he2
      subst he1 he2
      have y0 : w.cell? ⟨b, o + j, none⟩ = some (.int .i64 y) := by simpa [eI] using hcs2 0 _ rfl
      have hj0 : (0 : Int) ≤ (j : Int) := by omega
      have hjl : (j : Int) < (L.length : Int) := by omega
      have hw1 : IntKind.i64.wrap ((k : Int) - 1) = (j : Int) := by
        have : (k : Int) - 1 = j := by omega
        rw [this]; exact IntWalk.i64_in _ ⟨by omega, by omega⟩
      have HX := Lib.hid hx
      have HY := Lib.hid hy
      have HJ := Lib.hid hj
      by_cases hxy : x ≤ y
      · have HB : Hid (yes (riseOk L) = false) := Lib.hid (yes_false (fun h => by have := h k x hx j y hj.symm hy; omega))
        have hge : decide (x ≤ y) = true := decide_eq_true hxy
        clear hcs hcs2 hx hy hj
        go_wp2
        refine wp_region_held_drew (S := fun wx => wx.cell? ⟨b, o + k, none⟩ = some (.int .i64 x) ∧ wx.cell? ⟨b, o + j, none⟩ = some (.int .i64 y)) (by kernel_rfl) ⟨x0, y0⟩ (fun hHeld => ?_)
        refine tk 0 (by assumption) ?_
        (try simp only [aPt])
        refine tk 1 (by assumption) ?_
        (try simp only [aPt])
        refine tk 2 (by assumption) ?_
        (try simp only [aPt])
        refine tk 3 (by assumption) ?_
        (try simp only [aPt])
        refine tk 4 (by assumption) ?_
        (try simp only [aPt])
        refine tk 5 (by assumption) ?_
        (try simp only [aPt])
        refine tk 6 (by assumption) ?_
        (try simp only [aPt])
        refine tk 7 (by assumption) ?_
        (try simp only [aPt])
        refine tk 8 (by assumption) ?_
        (try simp only [aPt])
        refine tk 9 (by assumption) ?_
        (try simp only [aPt])
        refine wpAnyH_done (by kernel_rfl) ?_ _
        clear hHeld
        go_wp2
        go_ret
        exact ⟨by rw [HB.out]; rfl, hbd2.out⟩
      · have HG : Hid (∀ j x, j < k + 1 → L[j]? = some x → riseAt L j x) := Lib.hid (fun i z hi hz => by
          by_cases e : i = k
          · subst e
            rw [hx] at hz
            injection hz with hz
            subst hz
            intro i' y' hi' hy'
            obtain rfl : i' = j := by omega
            rw [hy] at hy'
            injection hy' with hy'
            omega
          · exact HK.out i z (by omega) hz)
        have hge : decide (x ≤ y) = false := decide_eq_false hxy
        clear hcs hcs2 hx hy hj
        go_wp2
        refine wp_region_held_drew (S := fun wx => wx.cell? ⟨b, o + k, none⟩ = some (.int .i64 x) ∧ wx.cell? ⟨b, o + j, none⟩ = some (.int .i64 y)) (by kernel_rfl) ⟨x0, y0⟩ (fun hHeld => ?_)
        refine tk 0 (by assumption) ?_
        (try simp only [aPt])
        refine tk 1 (by assumption) ?_
        (try simp only [aPt])
        refine tk 2 (by assumption) ?_
        (try simp only [aPt])
        refine tk 3 (by assumption) ?_
        (try simp only [aPt])
        refine tk 4 (by assumption) ?_
        (try simp only [aPt])
        refine tk 5 (by assumption) ?_
        (try simp only [aPt])
        refine tk 6 (by assumption) ?_
        (try simp only [aPt])
        refine tk 7 (by assumption) ?_
        (try simp only [aPt])
        refine tk 8 (by assumption) ?_
        (try simp only [aPt])
        refine tk 9 (by assumption) ?_
        (try simp only [aPt])
        refine wpAnyH_done (by kernel_rfl) ?_ _
        clear hHeld
        go_wp2
        go_roundw
        case rel => exact ⟨k + 1, by go_num, by omega, ⟨nd + 1, rfl⟩, HG⟩
        case measure => simp [intOf]; omega
    · have hlt' : ¬ ((k : Int) < (L.length : Int)) := by omega
      have HE : Hid (yes (riseOk L) = true) := Lib.hid (yes_true (fun j x hx => HK.out j x (by have := (List.getElem?_eq_some_iff.1 hx).1; omega) hx))
      go_wp2
      go_ret
      exact ⟨by rw [HE.out]; rfl, hbd.out⟩
set_option maxHeartbeats 1000000 in
theorem Between_any (w : World) (v : Value) (L : List Int) (a c : Int) (Bd : Nat) (h : Rd w Bd 1 v L.length (eI.cells L)) :
    Calls Tryz.prog 22 #[v, .int .i64 a, .int .i64 c] w fun e w' => e = .returned (.bool (yes (betw L a c))) ∧ w = w' := by
  obtain ⟨ao, cap, rfl, hc, hm⟩ := h.form
  have hc2 : cap ≤ 9223372036854775807 := by unfold maxLen at hm; omega
  have H := Lib.hid h
  clear h hm
  go_enter Tryz.func22, Tryz.ntmps22
  go_wp2
  go_loopw [7] (fun i wr => ∃ k : Nat, i = .int .i64 k ∧ w = wr ∧ Hid (∀ j x, j < k → L[j]? = some x → a ≤ x ∧ x ≤ c)) (fun i _ => L.length - (intOf i).toNat)
  case atStart => exact ⟨0, rfl, rfl, Lib.hid (fun j x hj => by omega)⟩
  case round =>
    obtain ⟨k, rfl, rfl, HK⟩ := hrel
    by_cases hlt : k < L.length
    · have hlt' : (k : Int) < (L.length : Int) := by omega
      obtain ⟨x, hx⟩ : ∃ x, L[k]? = some x := ⟨_, List.getElem?_eq_getElem hlt⟩
      obtain ⟨b, o, rfl, _, hcs⟩ := Enc.rd_cell (E := eI) H.out rfl hx
      have x0 : w.cell? ⟨b, o + k, none⟩ = some (.int .i64 x) := by simpa [eI] using hcs 0 _ rfl
      have HM := Lib.hid (List.mem_of_getElem? hx)
      have HX := Lib.hid hx
      clear hcs hx
      have HBAD : Hid (¬ (a ≤ x ∧ x ≤ c) → yes (betw L a c) = false) := Lib.hid (fun hn => yes_false (fun h => hn (h x HM.out)))
      by_cases h1 : a ≤ x
      · have h1' : ¬ x < a := by omega
        by_cases h2 : x ≤ c
        · have h2' : ¬ c < x := by omega
          have HG : Hid (∀ j x, j < k + 1 → L[j]? = some x → a ≤ x ∧ x ≤ c) := Lib.hid (fun i z hi hz => by
            by_cases e : i = k
            · subst e
              rw [HX.out] at hz
              injection hz with hz
              subst hz
              exact ⟨h1, h2⟩
            · exact HK.out i z (by omega) hz)
          go_wp2
          go_roundw
          case rel => exact ⟨k + 1, by go_num, by trivial, HG⟩
          case measure => simp [intOf]; omega
        · have h2' : c < x := by omega
          have HB := Lib.hid (HBAD.out (fun h => h2 h.2))
          go_wp2
          go_ret
          exact ⟨by rw [HB.out]; rfl, rfl⟩
      · have h1' : x < a := by omega
        have HB := Lib.hid (HBAD.out (fun h => h1 h.1))
        go_wp2
        go_ret
        exact ⟨by rw [HB.out]; rfl, rfl⟩
    · have hlt' : ¬ ((k : Int) < (L.length : Int)) := by omega
      have HE : Hid (yes (betw L a c) = true) := Lib.hid (yes_true (fun x hx => by
        obtain ⟨j, hj⟩ := List.getElem?_of_mem hx
        exact HK.out j x (by have := (List.getElem?_eq_some_iff.1 hj).1; omega) hj))
      go_wp2
      go_ret
      exact ⟨by rw [HE.out]; rfl, rfl⟩
set_option maxRecDepth 20000 in
set_option maxHeartbeats 1000000 in
theorem rWill_any (w : World) (x : Wl) (ht : x.t.size ≤ 1000000000) (hp : x.p.size ≤ 1000000000) (hE : Env w) :
    Calls Tryz.prog 50 #[wlV x] w fun e w' => e = .returned (.bool (yes (wlOk x))) ∧ Below w.heap.size w w' := by
  obtain ⟨is, t, p, q, r⟩ := x
  simp only at ht hp
  unfold wlV
  simp only
  have hb0 := (Below.refl w.heap.size w).alloc (Nat.le_refl _) (.cells #[.bool is, .string t, .string p, .int .i64 q, .bool r] 44)
  have hE0 := hE.below hb0
  cases is
  · have hcmp : ∀ wq : World, (binOp .eql 44 (.agg #[.bool false, .string t, .string p, .int .i64 q, .bool r]) (.agg #[.bool false, .string ⟨#[]⟩, .string ⟨#[]⟩, .int .i64 0, .bool false])).run Tryz.prog wq = .ok (.bool (yes ((⟨false, t, p, q, r⟩ : Wl) = wl0))) wq := fun wq => eq_will wq ⟨false, t, p, q, r⟩ wl0
    have HE : Hid (yes (wlOk ⟨false, t, p, q, r⟩) = yes ((⟨false, t, p, q, r⟩ : Wl) = wl0)) := Lib.hid (by
      by_cases h : (⟨false, t, p, q, r⟩ : Wl) = wl0
      · rw [yes_true h]
        exact yes_true ⟨fun _ => h, (fun h => by cases h)⟩
      · rw [yes_false h]
        exact yes_false (fun h2 => h (h2.1 rfl)))
    rw [HE.out]
    obtain ⟨z, hz⟩ : ∃ z, yes ((⟨false, t, p, q, r⟩ : Wl) = wl0) = z := ⟨_, rfl⟩
    rw [hz] at hcmp ⊢
    clear hz
    go_enter Tryz.func50, Tryz.ntmps50
    go_wp2
    go_ret
    exact ⟨rfl, hb0⟩
  · have HT := Lib.hid (rText_any _ t (by omega) hE0)
    have HE : Hid (yes (wlOk ⟨true, t, p, q, r⟩) = (tx t && (decide (p.size ≤ 128) && (decide (0 ≤ q) && decide (q ≤ 2))))) := Lib.hid (by
      by_cases h : tx t = true ∧ p.size ≤ 128 ∧ 0 ≤ q ∧ q ≤ 2
      · rw [yes_true (show wlOk ⟨true, t, p, q, r⟩ from ⟨(fun h => by cases h), fun _ => h⟩)]
        simp [h.1, h.2.1, h.2.2.1, h.2.2.2]
      · rw [yes_false (show ¬ wlOk ⟨true, t, p, q, r⟩ from fun h2 => h (h2.2 rfl))]
        symm
        rw [Bool.eq_false_iff]
        intro h3
        simp only [Bool.and_eq_true, decide_eq_true_eq] at h3
        exact h h3)
    rw [HE.out]
    clear HE
    cases htx : tx t
    · rw [htx] at HT
      go_enter Tryz.func50, Tryz.ntmps50
      go_wp2_with (go_at_call 76; refine HT.out.mono ?_; rintro e w1 ⟨rfl, hb1⟩; have hbb := b_tr hb0 hb1)
      go_ret
      exact ⟨rfl, hbb⟩
    · rw [htx] at HT
      by_cases hps : p.size ≤ 128
      · have HW : Hid (decide (p.size ≤ 128) = true) := Lib.hid (decide_eq_true hps)
        rw [HW.out]
        have hps' : (p.size : Int) ≤ 128 := by omega
        have c2 : (w.alloc (.cells #[.bool true, .string t, .string p, .int .i64 q, .bool r] 44)).cell? ⟨w.heap.size, 2, none⟩ = some (.string p) := by simp
        have c3 : (w.alloc (.cells #[.bool true, .string t, .string p, .int .i64 q, .bool r] 44)).cell? ⟨w.heap.size, 3, none⟩ = some (.int .i64 q) := by simp
        go_enter Tryz.func50, Tryz.ntmps50
        go_wp2_with first | (go_at_call 76; refine HT.out.mono ?_; rintro e w1 ⟨rfl, hb1⟩; have hbb := b_tr hb0 hb1; have d2 := b_cell hb1 c2; have d3 := b_cell hb1 c3) | (go_at_call 47; refine (nums_any _ _ _).mono ?_; rintro e w' ⟨rfl, rfl⟩)
        go_ret
        exact ⟨by simp, hbb⟩
      · have HW : Hid (decide (p.size ≤ 128) = false) := Lib.hid (decide_eq_false hps)
        rw [HW.out]
        have hps' : ¬ ((p.size : Int) ≤ 128) := by omega
        have c2 : (w.alloc (.cells #[.bool true, .string t, .string p, .int .i64 q, .bool r] 44)).cell? ⟨w.heap.size, 2, none⟩ = some (.string p) := by simp
        go_enter Tryz.func50, Tryz.ntmps50
        go_wp2_with (go_at_call 76; refine HT.out.mono ?_; rintro e w1 ⟨rfl, hb1⟩; have hbb := b_tr hb0 hb1; have d2 := b_cell hb1 c2)
        go_ret
        exact ⟨by simp, hbb⟩
end Go.Proofs.YtknnaeejkmlnbaaGreatDoor
namespace Go.Proofs.YtknnaeejkmlnbaaGreatDoor
open Go.RowKit
set_option maxRecDepth 20000 in
set_option maxHeartbeats 8000000 in
theorem rO_any (w : World) (v : Value) (o : OB) (h : OR w v o) (hs : ShO o) :
    Calls Tryz.prog 49 #[v] w fun e w' => e = .returned (.bool (yes (okO o))) ∧ Below w.heap.size w w' := by
  obtain ⟨last, F, Q⟩ := o
  obtain ⟨fv, qv, rfl, hF, hQ⟩ := h
  obtain ⟨hs1, hs2, hs3, hs4⟩ := hs
  simp only at hF hQ hs1 hs2 hs3 hs4
  obtain ⟨fo, fc, rfl, _, _⟩ := hF.form
  obtain ⟨qo, qc, rfl, _, _⟩ := hQ.form
  have HF := Lib.hid hF
  have HQ := Lib.hid hQ
  have HS3 := Lib.hid hs3
  have HS4 := Lib.hid hs4
  obtain ⟨w0, hw0⟩ : ∃ w0, w0 = w.alloc (.cells #[.int .i64 last, .slice fo F.length fc, .slice qo Q.length qc] 59) := ⟨_, rfl⟩
  have hb0 : Below w.heap.size w w0 := by rw [hw0]; go_grown
  have hA : Whole w0 w.heap.size 59 [.int .i64 last, .slice fo F.length fc, .slice qo Q.length qc] := by rw [hw0]; exact Whole.new w 59 _
  obtain ⟨a0, a1, a2, a3, a4, a5⟩ := hA.three
  have hnum := nums_any last 65535 w0
  have HB0 := Lib.hid hb0
  have H0 : Hid (Whole w0 w.heap.size 59 [.int .i64 last, .slice fo F.length fc, .slice qo Q.length qc] ∧ Below w.heap.size w w0) := Lib.hid ⟨hA, hb0⟩
  have HW := Lib.hid hw0
  clear hF hQ hs3 hs4 hw0 hA hb0
  cases hva : (decide (0 ≤ last) && decide (last ≤ 65535))
  · have HE : Hid (yes (okO ⟨last, F, Q⟩) = false) := Lib.hid (yes_false (fun h => by have h1 := h.1; have h2 := h.2.1; simp at hva h1 h2; omega))
    rw [hva] at hnum
    have HN := Lib.hid hnum
    clear hva hnum
    go_enter Tryz.func49, Tryz.ntmps49
    go_upto_region 1 with fail
    rw [← HW.out]
    go_wp2_with (go_at_call 47; refine HN.out.mono ?_; rintro e w' ⟨rfl, rfl⟩)
    go_ret
    exact ⟨by rw [HE.out]; rfl, HB0.out⟩
  have hl : 0 ≤ last ∧ last ≤ 65535 := by simp at hva; omega
  have HL := Lib.hid hl
  rw [hva] at hnum
  have HN := Lib.hid hnum
  clear hva hnum hl
  by_cases g3 : (4 : Int) < (F.length : Int)
  · have HE : Hid (yes (okO ⟨last, F, Q⟩) = false) := Lib.hid (yes_false (fun h => by have := h.2.2.1; simp only at this; omega))
    go_enter Tryz.func49, Tryz.ntmps49
    go_upto_region 1 with fail
    rw [← HW.out]
    go_wp2_with (go_at_call 47; refine HN.out.mono ?_; rintro e w' ⟨rfl, rfl⟩)
    go_ret
    exact ⟨by rw [HE.out]; rfl, HB0.out⟩
  by_cases g4 : (8 : Int) < (Q.length : Int)
  · have HE : Hid (yes (okO ⟨last, F, Q⟩) = false) := Lib.hid (yes_false (fun h => by have := h.2.2.2.1; simp only at this; omega))
    go_enter Tryz.func49, Tryz.ntmps49
    go_upto_region 1 with fail
    rw [← HW.out]
    go_wp2_with (go_at_call 47; refine HN.out.mono ?_; rintro e w' ⟨rfl, rfl⟩)
    go_ret
    exact ⟨by rw [HE.out]; rfl, HB0.out⟩
  have HLN : Hid (F.length ≤ 4 ∧ Q.length ≤ 8) := Lib.hid (by omega)
  go_enter Tryz.func49, Tryz.ntmps49
  go_upto_region 1 with fail
  rw [← HW.out]
  go_wp2_with (go_at_call 47; refine HN.out.mono ?_; rintro e w' ⟨rfl, rfl⟩)
  clear a0 a1 a2 a3 a4 a5
  go_loopw [3] (fun s wr => ∃ k : Nat, s = .int .i64 k ∧ k ≤ F.length ∧ Hid (Whole wr w.heap.size 59 [.int .i64 last, .slice fo F.length fc, .slice qo Q.length qc] ∧ Below w.heap.size w wr) ∧ Hid ((∀ f ∈ F.take k, okF f = true) ∧ (ids (F.take k)).Nodup)) (fun s _ => F.length - (intOf s).toNat)
  case atStart => exact ⟨0, rfl, by omega, H0, Lib.hid ⟨by simp, by simp [ids]⟩⟩
  case round =>
    obtain ⟨k, rfl, hkl, HR, HP⟩ := hrel
    obtain ⟨a0, a1, a2, a3, a4, a5⟩ := HR.out.1.three
    by_cases hlt : k < F.length
    · obtain ⟨f, hf⟩ : ∃ f, F[k]? = some f := ⟨_, List.getElem?_eq_getElem hlt⟩
      have hb := HR.out.2
      obtain ⟨b2, off, rfl, hbl, hcs⟩ := Enc.rd_cell (E := eF) (HF.out.below hb) rfl hf
      obtain ⟨c0, c1, c2, c3, c4, c5⟩ := fl_cells (show wr.rangeAt b2 (off + k * 6) (eF.c f) from hcs)
      have hmem := List.mem_of_getElem? hf
      have HSH := Lib.hid (HS3.out f hmem)
      have hMS := fun wx => rMsg_any f.m wx HSH.out.1 HSH.out.2
      have HBAD : Hid (¬ (okF f = true ∧ f.id ∉ ids (F.take k)) → yes (okO ⟨last, F, Q⟩) = false) := Lib.hid (fun hn => yes_false (fun hy => hn ⟨hy.2.2.2.2.1 f hmem, by
        intro hm
        have hnd := hy.2.2.2.2.2.1
        simp only at hnd
        have h1 : (ids (F.take (k + 1))).Nodup := List.Nodup.sublist (List.Sublist.map _ (List.take_sublist _ _)) hnd
        have h2 : ids (F.take (k + 1)) = ids (F.take k) ++ [f.id] := by unfold ids; rw [List.take_add_one, hf]; simp
        rw [h2, List.nodup_append] at h1
        exact h1.2.2 _ hm _ (by simp) rfl⟩))
      have HGOOD : Hid (okF f = true → f.id ∉ ids (F.take k) → (∀ f ∈ F.take (k + 1), okF f = true) ∧ (ids (F.take (k + 1))).Nodup) := Lib.hid (fun h1 h2 => by
        have e1 : F.take (k + 1) = F.take k ++ [f] := by rw [List.take_add_one, hf]; rfl
        rw [e1]
        refine ⟨fun g hg => ?_, ?_⟩
        · rcases List.mem_append.1 hg with h | h
          · exact HP.out.1 g h
          · rw [List.mem_singleton.1 h]; exact h1
        · have e2 : ids (F.take k ++ [f]) = ids (F.take k) ++ [f.id] := by simp [ids]
          rw [e2, List.nodup_append]
          exact ⟨HP.out.2, by simp, fun a ha b hb e => by
            simp only [List.mem_singleton] at hb
            rw [← hb, ← e] at h2
            exact h2 ha⟩)
      obtain ⟨wa, hwa⟩ : ∃ wa, wa = wr.alloc (.cells #[.int .i64 f.id, .string f.m.t, .string f.m.p, .int .i64 f.m.q, .bool f.m.r, .bool f.rc] 108) := ⟨_, rfl⟩
      have hba : Below wr.heap.size wr wa := by rw [hwa]; go_grown
      have hWf : Whole wa wr.heap.size 108 [.int .i64 f.id, .string f.m.t, .string f.m.p, .int .i64 f.m.q, .bool f.m.r, .bool f.rc] := by rw [hwa]; exact Whole.new wr 108 _
      have f0 : wa.cell? ⟨wr.heap.size, 0, none⟩ = some (.int .i64 f.id) := hWf.cell 0
      have f1 : wa.cell? ⟨wr.heap.size, 1, none⟩ = some (.string f.m.t) := hWf.cell 1
      have f2 : wa.cell? ⟨wr.heap.size, 2, none⟩ = some (.string f.m.p) := hWf.cell 2
      have f3 : wa.cell? ⟨wr.heap.size, 3, none⟩ = some (.int .i64 f.m.q) := hWf.cell 3
      have f4 : wa.cell? ⟨wr.heap.size, 4, none⟩ = some (.bool f.m.r) := hWf.cell 4
      have f5 : wa.cell? ⟨wr.heap.size, 5, none⟩ = some (.bool f.rc) := hWf.cell 5
      obtain ⟨fb, hfb⟩ : ∃ fb, wr.heap.size = fb := ⟨_, rfl⟩
      have HFB := Lib.hid hfb
      have HFF := Lib.hid hf
      have HWA := Lib.hid hwa
      have HWF := Lib.hid hWf
      have HBA := Lib.hid hba
      obtain ⟨zf, hzf⟩ : ∃ z, okF f = z := ⟨_, rfl⟩
      have HZ := Lib.hid hzf
      clear hcs hf hwa hWf hba hb hmem hzf
      go_upto_region 7 with fail
      rw [← HWA.out]
      rw [hfb] at f0 f1 f2 f3 f4 f5 HWF
      clear c0 c1 c2 c3 c4 c5 hfb
      go_cut [58] (fun s wx => s = .bool (!zf) ∧ Below wa.heap.size wa wx)
      case first =>
        by_cases p1 : f.id < 1
        · have HZ2 : Hid (zf = false) := Lib.hid (by rw [← HZ.out]; unfold okF; rw [decide_eq_false (by omega)]; rfl)
          go_wp2
          go_meet
          exact ⟨by rw [HZ2.out]; rfl, Below.refl _ _⟩
        by_cases p2 : 65535 < f.id
        · have HZ2 : Hid (zf = false) := Lib.hid (by rw [← HZ.out]; unfold okF; rw [decide_eq_false (show ¬ f.id ≤ 65535 by omega)]; simp)
          go_wp2
          go_meet
          exact ⟨by rw [HZ2.out]; rfl, Below.refl _ _⟩
        have HID : Hid (okF f = (okM f.m && (!f.rc || decide (f.m.q = 2)))) := Lib.hid (by unfold okF; rw [decide_eq_true (show 1 ≤ f.id by omega), decide_eq_true (show f.id ≤ 65535 by omega)]; simp)
        cases hm : okM f.m
        · rw [hm] at hMS
          have HMS := Lib.hid hMS
          have HZ2 : Hid (zf = false) := Lib.hid (by rw [← HZ.out, HID.out, hm]; rfl)
          clear hm hMS
          go_wp2_with (go_at_call 75; refine (HMS.out _).mono ?_; rintro e w1 ⟨rfl, hb1⟩; have g5 := b_cell hb1 f5; have g3' := b_cell hb1 f3; have HB1 := Lib.hid hb1; clear hb1)
          go_meet
          exact ⟨by rw [HZ2.out]; first | done | rfl, HB1.out⟩
        rw [hm] at hMS
        have HMS := Lib.hid hMS
        clear hMS
        cases hrc : f.rc
        · rw [hrc] at f5
          have HZ2 : Hid (zf = true) := Lib.hid (by rw [← HZ.out, HID.out, hm, hrc]; rfl)
          clear hrc hm
          go_wp2_with (go_at_call 75; refine (HMS.out _).mono ?_; rintro e w1 ⟨rfl, hb1⟩; have g5 := b_cell hb1 f5; have g3' := b_cell hb1 f3; have HB1 := Lib.hid hb1; clear hb1)
          go_meet
          exact ⟨by rw [HZ2.out]; first | done | rfl, HB1.out⟩
        · rw [hrc] at f5
          by_cases hq : f.m.q = 2
          · have hq2 : (f.m.q != 2) = false := by rw [hq]; rfl
            have HZ2 : Hid (zf = true) := Lib.hid (by rw [← HZ.out, HID.out, hm, hrc, decide_eq_true hq]; rfl)
            clear hrc hm hq
            go_wp2_with (go_at_call 75; refine (HMS.out _).mono ?_; rintro e w1 ⟨rfl, hb1⟩; have g5 := b_cell hb1 f5; have g3' := b_cell hb1 f3; have HB1 := Lib.hid hb1; clear hb1)
            go_meet
            exact ⟨by rw [HZ2.out]; first | done | rfl, HB1.out⟩
          · have hq2 : (f.m.q != 2) = true := bne_iff_ne.2 hq
            have HZ2 : Hid (zf = false) := Lib.hid (by rw [← HZ.out, HID.out, hm, hrc, decide_eq_false hq]; rfl)
            clear hrc hm hq
            go_wp2_with (go_at_call 75; refine (HMS.out _).mono ?_; rintro e w1 ⟨rfl, hb1⟩; have g5 := b_cell hb1 f5; have g3' := b_cell hb1 f3; have HB1 := Lib.hid hb1; clear hb1)
            go_meet
            exact ⟨by rw [HZ2.out]; first | done | rfl, HB1.out⟩
      case rest =>
        obtain ⟨rfl, hbc⟩ := hcut
        have HWc := Lib.hid ((HR.out.1.belowH HBA.out).belowH hbc)
        have HFc := Lib.hid (HWF.out.belowH hbc)
        have HBc := Lib.hid (b_tr (b_tr HR.out.2 (HBA.out)) hbc)
        clear hbc f0 f1 f2 f3 f4 f5 a0 a1 a2 a3 a4 a5 hMS
        cases zf
        case false =>
          have HE := Lib.hid (HBAD.out (fun h => by have := h.1; rw [HZ.out] at this; cases this))
          go_wp2
          go_ret
          exact ⟨by rw [HE.out]; rfl, HBc.out⟩
        case true =>
          go_wp2
          go_loopw [5] (fun s wx => ∃ j : Nat, s = .int .i64 j ∧ j ≤ k ∧ Hid (Below wc.heap.size wc wx) ∧ Hid (f.id ∉ ids (F.take j))) (fun s _ => k - (intOf s).toNat)
          case atStart => exact ⟨0, rfl, by omega, Lib.hid (Below.refl _ _), Lib.hid (by simp [ids])⟩
          case round =>
            obtain ⟨j, rfl, hjk, HBX, HNI⟩ := hrel
            by_cases hj : j < k
            · obtain ⟨g, hg⟩ : ∃ g, F[j]? = some g := ⟨_, List.getElem?_eq_getElem (by omega)⟩
              have hbx := b_tr HBc.out HBX.out
              obtain ⟨b3, off3, he3, hbl3, hcs3⟩ := Enc.rd_cell (E := eF) (HF.out.below hbx) rfl hg
              injection he3 with he3
              injection he3 with he3 he4
              subst he3
              subst he4
              obtain ⟨c0, c1, c2, c3, c4, c5⟩ := fl_cells (show World.rangeAt _ b2 (off + j * 6) (eF.c g) from hcs3)
              obtain ⟨a0, a1, a2, a3, a4, a5⟩ := (HWc.out.belowH HBX.out).three
              have f0 := (HFc.out.belowH HBX.out).cell 0
              simp only [List.getElem?_cons_zero] at f0
              have hjF : j < F.length := by omega
              have HBD := Lib.hid hbx.drew
              by_cases hgi : g.id = f.id
              · have hne : (g.id == f.id) = true := beq_iff_eq.2 hgi
                have HE := Lib.hid (HBAD.out (fun h => h.2 (by
                  rw [← hgi]
                  exact List.mem_of_getElem? (i := j) (by unfold ids; rw [List.getElem?_map, List.getElem?_take_of_lt hj, hg]; rfl))))
                clear hg hbx hcs3 hgi
                go_upto_region 12 with fail
                refine wp_region_held_drew (S := fun wx => wx.cell? ⟨w.heap.size, 1, none⟩ = some (.slice (some ⟨b2, off, none⟩) F.length fc) ∧ wx.cell? ⟨b2, off + j * 6, none⟩ = some (.int .i64 g.id) ∧ wx.cell? ⟨fb, 0, none⟩ = some (.int .i64 f.id)) (by kernel_rfl) ⟨a1, c0, f0⟩ (fun hHeld => ?_)
                refine tk 0 (by assumption) ?_
                (try simp only [aPt])
                refine tk 1 (by assumption) ?_
                (try simp only [aPt])
                refine tk 2 (by assumption) ?_
                (try simp only [aPt])
                refine tk 3 (by assumption) ?_
                (try simp only [aPt])
                refine tk 4 (by assumption) ?_
                (try simp only [aPt])
                refine tk 5 (by assumption) ?_
                (try simp only [aPt])
                refine tk 6 (by assumption) ?_
                (try simp only [aPt])
                refine tk 7 (by assumption) ?_
                (try simp only [aPt])
                refine tk 8 (by assumption) ?_
                (try simp only [aPt])
                refine wpAnyH_done (by kernel_rfl) ?_ _
                clear hHeld
                go_wp2
                go_ret
                exact ⟨by rw [HE.out]; rfl, HBD.out⟩
              · have hne : (g.id == f.id) = false := beq_eq_false_iff_ne.2 hgi
                have HN2 : Hid (f.id ∉ ids (F.take (j + 1))) := Lib.hid (by
                  have e2 : ids (F.take (j + 1)) = ids (F.take j) ++ [g.id] := by unfold ids; rw [List.take_add_one, hg]; simp
                  rw [e2]
                  intro hm
                  rcases List.mem_append.1 hm with h | h
                  · exact HNI.out h
                  · exact hgi (List.mem_singleton.1 h).symm)
                clear hg hbx hcs3 hgi
                go_upto_region 12 with fail
                refine wp_region_held_drew (S := fun wx => wx.cell? ⟨w.heap.size, 1, none⟩ = some (.slice (some ⟨b2, off, none⟩) F.length fc) ∧ wx.cell? ⟨b2, off + j * 6, none⟩ = some (.int .i64 g.id) ∧ wx.cell? ⟨fb, 0, none⟩ = some (.int .i64 f.id)) (by kernel_rfl) ⟨a1, c0, f0⟩ (fun hHeld => ?_)
                refine tk 0 (by assumption) ?_
                (try simp only [aPt])
                refine tk 1 (by assumption) ?_
                (try simp only [aPt])
                refine tk 2 (by assumption) ?_
                (try simp only [aPt])
                refine tk 3 (by assumption) ?_
                (try simp only [aPt])
                refine tk 4 (by assumption) ?_
                (try simp only [aPt])
                refine tk 5 (by assumption) ?_
                (try simp only [aPt])
                refine tk 6 (by assumption) ?_
                (try simp only [aPt])
                refine tk 7 (by assumption) ?_
                (try simp only [aPt])
                refine tk 8 (by assumption) ?_
                (try simp only [aPt])
                refine wpAnyH_done (by kernel_rfl) ?_ _
                clear hHeld
                go_wp2
                go_roundw
                case rel => exact ⟨j + 1, by go_num, by omega, Lib.hid (HBX.out.trans (by go_grown)), HN2⟩
                case measure => simp [intOf]; omega
            · have e : j = k := by omega
              subst e
              have HG := Lib.hid (HGOOD.out HZ.out HNI.out)
              go_wp2
              go_roundw
              case rel => exact ⟨j + 1, by go_num, by omega, Lib.hid ⟨HWc.out.belowH HBX.out, b_tr HBc.out HBX.out⟩, HG⟩
              case measure => simp [intOf]; omega
    · have e : k = F.length := by omega
      subst e
      have HPF : Hid ((∀ f ∈ F, okF f = true) ∧ (ids F).Nodup) := Lib.hid (by have := HP.out; rwa [List.take_length] at this)
      go_wp2
      clear a0 a1 a2 a3 a4 a5
      go_loopw [6] (fun s wr => ∃ k : Nat, s = .int .i64 k ∧ k ≤ Q.length ∧ Hid (Whole wr w.heap.size 59 [.int .i64 last, .slice fo F.length fc, .slice qo Q.length qc] ∧ Below w.heap.size w wr) ∧ Hid (∀ j m, j < k → Q[j]? = some m → okM m = true)) (fun s _ => Q.length - (intOf s).toNat)
      case atStart => exact ⟨0, rfl, by omega, HR, Lib.hid (fun j m hj => by omega)⟩
      case round =>
        obtain ⟨k, rfl, hkl, HR, HQP⟩ := hrel
        obtain ⟨a0, a1, a2, a3, a4, a5⟩ := HR.out.1.three
        by_cases hlt : k < Q.length
        · obtain ⟨m, hm⟩ : ∃ m, Q[k]? = some m := ⟨_, List.getElem?_eq_getElem hlt⟩
          obtain ⟨b2, off, rfl, hbl, hcs⟩ := Enc.rd_cell (E := eM) (HQ.out.below HR.out.2) rfl hm
          obtain ⟨c0, c1, c2, c3⟩ := msg_cells (show wr.rangeAt b2 (off + k * 4) (eM.c m) from hcs)
          have hmem := List.mem_of_getElem? hm
          have hMS := fun wx => rMsg_any m wx (HS4.out m hmem).1 (HS4.out m hmem).2
          have HM := Lib.hid hm
          cases pm : okM m
          · rw [pm] at hMS
            have HMS := Lib.hid hMS
            have HE : Hid (yes (okO ⟨last, F, Q⟩) = false) := Lib.hid (yes_false (fun h => by have := h.2.2.2.2.2.2 m hmem; rw [pm] at this; cases this))
            clear hcs hm pm hMS hmem
            go_wp2_with (go_at_call 75; refine (HMS.out _).mono ?_; rintro e w1 ⟨rfl, hb1⟩)
            go_ret
            exact ⟨by rw [HE.out]; rfl, b_tr HR.out.2 hb1⟩
          · rw [pm] at hMS
            have HMS := Lib.hid hMS
            have HQ2 : Hid (∀ j m, j < k + 1 → Q[j]? = some m → okM m = true) := Lib.hid (fun j z hj hz => by
              by_cases e : j = k
              · subst e
                rw [hm] at hz
                injection hz with hz
                subst hz
                exact pm
              · exact HQP.out j z (by omega) hz)
            clear hcs hm pm hMS hmem
            go_wp2_with (go_at_call 75; refine (HMS.out _).mono ?_; rintro e w1 ⟨rfl, hb1⟩)
            have HR1 := Lib.hid (And.intro (HR.out.1.belowH hb1) (b_tr HR.out.2 hb1))
            clear hb1
            go_roundw
            case rel => exact ⟨k + 1, by go_num, by omega, HR1, HQ2⟩
            case measure => simp [intOf]; omega
        · have e : k = Q.length := by omega
          subst e
          have HB := Lib.hid HR.out.2
          have HE : Hid (yes (okO ⟨last, F, Q⟩) = true) := Lib.hid (yes_true ⟨HL.out.1, HL.out.2, HLN.out.1, HLN.out.2, HPF.out.1, HPF.out.2, fun m hm => by
            obtain ⟨j, hj⟩ := List.getElem?_of_mem hm
            exact HQP.out j m (List.getElem?_eq_some_iff.1 hj).1 hj⟩)
          go_wp2
          go_ret
          exact ⟨by rw [HE.out]; rfl, HB.out⟩
end Go.Proofs.YtknnaeejkmlnbaaGreatDoor
