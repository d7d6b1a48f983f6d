/- What may be: identifiers, wills. -/


import Derived.Test.YtknnaeejkmlnbaaGreatDoorGa
import Derived.Test.YtknnaeejkmlnbaaGreatDoorTpTxt
import Derived.Handy
import Derived.Deep.DeepCutAuto
namespace Go.Proofs.YtknnaeejkmlnbaaGreatDoor
open Go.RowKit Go.Shelf Go.Proofs
theorem bwithin_any (w : World) (n a b : Int) : Calls Tryz.prog 41 #[.int .i64 n, .int .i64 a, .int .i64 b] w fun e w' => e = .returned (.bool (decide (a ≤ n) && decide (n ≤ b))) ∧ w = w' := by
  by_cases h : a ≤ n
  · go_enter Tryz.func41, Tryz.ntmps41
    go_wp2
    go_ret
    exact ⟨by simp [h], rfl⟩
  · have h' : n < a := by omega
    have hf : Hid ((decide (a ≤ n) && decide (n ≤ b)) = false) := Lib.hid (by rw [decide_eq_false h]; rfl)
    clear h
    go_enter Tryz.func41, Tryz.ntmps41
    go_wp2
    go_ret
    exact ⟨by rw [hf.out]; rfl, rfl⟩
/-- An identifier may stand there. -/
def idOk (I : List Int) (k : Nat) (x : Int) : Prop := 1 ≤ x ∧ x ≤ 65535 ∧ ∀ j y, j + 1 = k → I[j]? = some y → y < x
def idsOk (I : List Int) : Prop := I.length ≤ 16 ∧ ∀ k x, I[k]? = some x → idOk I k x
set_option maxRecDepth 20000 in
set_option maxHeartbeats 1000000 in
theorem ids_any (w : World) (v : Value) (I : List Int) (h : Rd w w.heap.size 1 v I.length (eI.cells I)) (hn : I.length ≤ 1000000) :
    Calls Tryz.prog 65 #[v] w fun e w' => e = .returned (.bool (yes (idsOk I))) ∧ w = w' := by
  obtain ⟨ao, cap, rfl, hc, hm⟩ := h.form
  have hc2 : cap ≤ 9223372036854775807 := by unfold maxLen at hm; omega
  have H := Lib.hid h
  clear h hm
  go_enter Tryz.func65, Tryz.ntmps65
  go_wp2
  go_loopw [7] (fun i wr => ∃ k : Nat, i = .int .i64 k ∧ k ≤ I.length ∧ w = wr ∧ Hid (∀ j x, j < k → I[j]? = some x → idOk I j x)) (fun i _ => I.length - (intOf i).toNat)
  case atStart => exact ⟨0, rfl, by omega, rfl, Lib.hid (fun j x hj => by omega)⟩
  case round =>
    obtain ⟨k, rfl, hk, rfl, HK⟩ := hrel
    by_cases hlt : k < I.length
    · obtain ⟨x, hx⟩ : ∃ x, I[k]? = some x := ⟨_, List.getElem?_eq_getElem hlt⟩
      obtain ⟨b, o, rfl, hbl, hcs⟩ := Enc.rd_cell (E := eI) H.out rfl hx
      have x0 : w.cell? ⟨b, o + k, none⟩ = some (.int .i64 x) := by simpa [eI] using hcs 0 _ rfl
      have HXX := Lib.hid hx
      clear hx hcs
      have HBAD : Hid (¬ idOk I k x → yes (idsOk I) = false) := Lib.hid (fun hn => yes_false (fun hy => hn (hy.2 k x HXX.out)))
      have HGOOD : Hid (idOk I k x → ∀ j y, j < k + 1 → I[j]? = some y → idOk I j y) := Lib.hid (fun hok j y hj hy => by
        by_cases e : j = k
        · subst e
          rw [HXX.out] at hy
          injection hy with hy
          subst hy
          exact hok
        · exact HK.out j y (by omega) hy)
      have hwi := fun w => bwithin_any w x 1 65535
      by_cases hin : 1 ≤ x ∧ x ≤ 65535
      · have hd : (decide (1 ≤ x) && decide (x ≤ 65535)) = true := by simp [hin.1, hin.2]
        have HWI := Lib.hid hwi
        rw [hd] at HWI
        by_cases hk0 : k = 0
        · have HG := Lib.hid (HGOOD.out ⟨hin.1, hin.2, fun j y hj => by omega⟩)
          have hi0 : decide ((0 : Int) < (k : Int)) = false := decide_eq_false (by omega)
          have hi0' : ¬ (0 < k) := by omega
          have hi0'' : decide (0 < k) = false := decide_eq_false hi0'
          clear hin hd hwi hk0
          go_wp2_with (go_at_call 41; refine (HWI.out _).mono ?_; rintro e w' ⟨rfl, rfl⟩)
          go_roundw
          case rel => exact ⟨k + 1, by go_num, by omega, by trivial, HG⟩
          case measure => simp [intOf]; omega
        · obtain ⟨j, hj⟩ : ∃ j, k = j + 1 := ⟨k - 1, by omega⟩
          obtain ⟨y, hy⟩ : ∃ y, I[j]? = some y := ⟨_, List.getElem?_eq_getElem (by omega)⟩
          obtain ⟨b', o', he, _, hcs⟩ := Enc.rd_cell (E := eI) H.out rfl hy
          injection he with he
          injection he with he1 he2
          subst he1 he2
          have y0 : w.cell? ⟨b, o + j, none⟩ = some (.int .i64 y) := by simpa [eI] using hcs 0 _ rfl
          have hi0 : decide ((0 : Int) < (k : Int)) = true := decide_eq_true (by omega)
          have hi0' : 0 < k := by omega
          have hi0'' : decide (0 < k) = true := decide_eq_true hi0'
          have hj0 : (0 : Int) ≤ (j : Int) := by omega
          have hjl : (j : Int) < (I.length : Int) := by omega
          have hw1 : IntKind.i64.wrap ((k : Int) - 1) = (j : Int) := by
            have : (k : Int) - 1 = j := by omega
            rw [this]; exact IntWalk.i64_in _ ⟨by omega, by omega⟩
          have HY := Lib.hid hy
          have HJ := Lib.hid hj
          by_cases hxy : x ≤ y
          · have HB := Lib.hid (HBAD.out (fun h => by have := h.2.2 j y hj.symm hy; omega))
            have hge : decide (x ≤ y) = true := decide_eq_true hxy
            clear hin hd hwi hk0 hcs hy hj
            go_wp2_with (go_at_call 41; refine (HWI.out _).mono ?_; rintro e w' ⟨rfl, rfl⟩)
            go_ret
            exact ⟨by rw [HB.out]; rfl, rfl⟩
          · have HG := Lib.hid (HGOOD.out ⟨hin.1, hin.2, fun j' y' hj' hy' => by
              obtain rfl : j' = j := by omega
              rw [hy] at hy'
              injection hy' with hy'
              omega⟩)
            have hge : decide (x ≤ y) = false := decide_eq_false hxy
            clear hin hd hwi hk0 hcs hy hj
            go_wp2_with (go_at_call 41; refine (HWI.out _).mono ?_; rintro e w' ⟨rfl, rfl⟩)
            go_roundw
            case rel => exact ⟨k + 1, by go_num, by omega, by trivial, HG⟩
            case measure => simp [intOf]; omega
      · have hd : (decide (1 ≤ x) && decide (x ≤ 65535)) = false := by
          rw [Bool.and_eq_false_iff, decide_eq_false_iff_not, decide_eq_false_iff_not]
          omega
        have HB := Lib.hid (HBAD.out (fun h => hin ⟨h.1, h.2.1⟩))
        have HWI := Lib.hid hwi
        rw [hd] at HWI
        clear hin hd hwi
        go_wp2_with (go_at_call 41; refine (HWI.out _).mono ?_; rintro e w' ⟨rfl, rfl⟩)
        go_ret
        exact ⟨by rw [HB.out]; rfl, rfl⟩
    · obtain rfl : k = I.length := by omega
      have HE : Hid (yes (idsOk I) = decide (I.length ≤ 16)) := Lib.hid (by
        by_cases h16 : I.length ≤ 16
        · rw [decide_eq_true h16]
          exact yes_true ⟨h16, fun j x hx => HK.out j x (List.getElem?_eq_some_iff.1 hx).1 hx⟩
        · rw [decide_eq_false h16]
          exact yes_false (fun h => h16 h.1))
      have hz : Hid (decide ((I.length : Int) ≤ 16) = decide (I.length ≤ 16)) := Lib.hid (by rw [Bool.eq_iff_iff]; simp; omega)
      go_wp2
      go_ret
      exact ⟨by rw [HE.out, ← hz.out]; rfl, rfl⟩
/-- A will's cells. -/
def wlV (x : Wl) : Value := .agg #[.bool x.is, .string x.t, .string x.p, .int .i64 x.q, .bool x.r]
def wl0 : Wl := ⟨false, ⟨#[]⟩, ⟨#[]⟩, 0, false⟩
/-- A will may be. -/
def wlOk (x : Wl) : Prop := (x.is = false → x = wl0) ∧ (x.is = true → tx x.t = true ∧ x.p.size ≤ 128 ∧ 0 ≤ x.q ∧ x.q ≤ 2)
set_option maxRecDepth 20000 in
set_option maxHeartbeats 1000000 in
theorem MayWill_any (w : World) (x : Wl) (ht : x.t.size ≤ 1000000000) (hp : x.p.size ≤ 1000000000) (hE : Env w) :
    Calls Tryz.prog 66 #[wlV x] w fun e w' => e = .returned (.bool (yes (wlOk x))) ∧ Below w.heap.size w w' := by
  obtain ⟨is, t, p, q, r⟩ := x
  simp only at ht hp
  unfold wlV
  simp only
  have hb0 := (Below.refl w.heap.size w).alloc (Nat.le_refl _) (.cells #[.bool is, .string t, .string p, .int .i64 q, .bool r] 44)
  have hE0 := hE.below hb0
  cases is
  · have hcmp : ∀ wq : World, (binOp .eql 44 (.agg #[.bool false, .string t, .string p, .int .i64 q, .bool r]) (.agg #[.bool false, .string ⟨#[]⟩, .string ⟨#[]⟩, .int .i64 0, .bool false])).run Tryz.prog wq = .ok (.bool (yes ((⟨false, t, p, q, r⟩ : Wl) = wl0))) wq := fun wq => eq_will wq ⟨false, t, p, q, r⟩ wl0
    have HE : Hid (yes (wlOk ⟨false, t, p, q, r⟩) = yes ((⟨false, t, p, q, r⟩ : Wl) = wl0)) := Lib.hid (by
      by_cases h : (⟨false, t, p, q, r⟩ : Wl) = wl0
      · rw [yes_true h]
        exact yes_true ⟨fun _ => h, (fun h => by cases h)⟩
      · rw [yes_false h]
        exact yes_false (fun h2 => h (h2.1 rfl)))
    rw [HE.out]
    obtain ⟨z, hz⟩ : ∃ z, yes ((⟨false, t, p, q, r⟩ : Wl) = wl0) = z := ⟨_, rfl⟩
    rw [hz] at hcmp ⊢
    clear hz
    go_enter Tryz.func66, Tryz.ntmps66
    go_wp2
    go_ret
    exact ⟨rfl, hb0⟩
  · have HT := Lib.hid (pText_any _ t (by omega) hE0)
    have HE : Hid (yes (wlOk ⟨true, t, p, q, r⟩) = (tx t && (decide (p.size ≤ 128) && (decide (0 ≤ q) && decide (q ≤ 2))))) := Lib.hid (by
      by_cases h : tx t = true ∧ p.size ≤ 128 ∧ 0 ≤ q ∧ q ≤ 2
      · rw [yes_true (show wlOk ⟨true, t, p, q, r⟩ from ⟨(fun h => by cases h), fun _ => h⟩)]
        simp [h.1, h.2.1, h.2.2.1, h.2.2.2]
      · rw [yes_false (show ¬ wlOk ⟨true, t, p, q, r⟩ from fun h2 => h (h2.2 rfl))]
        symm
        rw [Bool.eq_false_iff]
        intro h3
        simp only [Bool.and_eq_true, decide_eq_true_eq] at h3
        exact h h3)
    rw [HE.out]
    clear HE
    cases htx : tx t
    · rw [htx] at HT
      go_enter Tryz.func66, Tryz.ntmps66
      go_wp2_with (go_at_call 107; refine HT.out.mono ?_; rintro e w1 ⟨rfl, hb1⟩; have hbb := b_tr hb0 hb1)
      go_ret
      exact ⟨rfl, hbb⟩
    · rw [htx] at HT
      by_cases hps : p.size ≤ 128
      · have HW : Hid (decide (p.size ≤ 128) = true) := Lib.hid (decide_eq_true hps)
        rw [HW.out]
        have hps' : (p.size : Int) ≤ 128 := by omega
        have c2 : (w.alloc (.cells #[.bool true, .string t, .string p, .int .i64 q, .bool r] 44)).cell? ⟨w.heap.size, 2, none⟩ = some (.string p) := by simp
        have c3 : (w.alloc (.cells #[.bool true, .string t, .string p, .int .i64 q, .bool r] 44)).cell? ⟨w.heap.size, 3, none⟩ = some (.int .i64 q) := by simp
        go_enter Tryz.func66, Tryz.ntmps66
        go_wp2_with first | (go_at_call 107; refine HT.out.mono ?_; rintro e w1 ⟨rfl, hb1⟩; have hbb := b_tr hb0 hb1; have d2 := b_cell hb1 c2; have d3 := b_cell hb1 c3) | (go_at_call 108; refine (within_any _ _ _ _).mono ?_; rintro e w' ⟨rfl, rfl⟩)
        go_ret
        exact ⟨by simp, hbb⟩
      · have HW : Hid (decide (p.size ≤ 128) = false) := Lib.hid (decide_eq_false hps)
        rw [HW.out]
        have hps' : ¬ ((p.size : Int) ≤ 128) := by omega
        have c2 : (w.alloc (.cells #[.bool true, .string t, .string p, .int .i64 q, .bool r] 44)).cell? ⟨w.heap.size, 2, none⟩ = some (.string p) := by simp
        go_enter Tryz.func66, Tryz.ntmps66
        go_wp2_with (go_at_call 107; refine HT.out.mono ?_; rintro e w1 ⟨rfl, hb1⟩; have hbb := b_tr hb0 hb1; have d2 := b_cell hb1 c2)
        go_ret
        exact ⟨by simp, hbb⟩
end Go.Proofs.YtknnaeejkmlnbaaGreatDoor
