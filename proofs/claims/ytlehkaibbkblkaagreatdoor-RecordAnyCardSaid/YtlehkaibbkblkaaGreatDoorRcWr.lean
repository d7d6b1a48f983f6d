/- Writing a state's bytes: number, text, bit, message. -/


import Derived.Test.YtlehkaibbkblkaaGreatDoorGa
import Derived.Handy
import Derived.Deep.DeepCutAuto
namespace Go.Proofs.YtlehkaibbkblkaaGreatDoor
open Go.RowKit
theorem n3_new (w : World) (n : Int) : Rd (w.alloc (.cells #[.int .u8 (n / 65536 % 256), .int .u8 (n / 256 % 256), .int .u8 (n % 256)] 5)) (w.heap.size + 1) 1 (.slice (some ⟨w.heap.size, 0, none⟩) 3 3) (n3 n).length (u8s (n3 n)) := by
  have h := Rd.of_whole (Whole.new w 5 [.int .u8 (n / 65536 % 256), .int .u8 (n / 256 % 256), .int .u8 (n % 256)]) (by simp [maxLen])
  have e : u8s (n3 n) = [.int .u8 (n / 65536 % 256), .int .u8 (n / 256 % 256), .int .u8 (n % 256)] := by simp [u8s, n3, b8_nat]
  rw [e]
  show Rd _ _ 1 _ 3 _
  simpa using h
theorem number_any (w : World) (B : Nat) (v : Value) (xs : List UInt8) (n : Int) (h : OwnU w B v xs) (hB : B ≤ w.heap.size) (hn : xs.length ≤ 1000000000) :
    Calls Tryz.prog 31 #[v, .int .i64 n] w (AP w B xs (n3 n)) := by
  have HO := Lib.hid h
  have hl3 : (n3 n).length = 3 := rfl
  clear h
  go_enter Tryz.func31, Tryz.ntmps31
  go_wp2_with (at_builtin; with_reducible refine wpList_appb rfl (.tmp 5) (.tmp 14) 23 rfl B Tryz.underlying23 inf_u8 v xs rfl (HO.out.keep ((Below.refl _ _).alloc (Nat.le_refl _) _)) _ _ (n3 n) rfl (n3_new w n) ?_ ?_ ?_; omega; (simp; omega))
  intro v1 w1 ho1 hl1
  have hl2 : LU B w w1 := ((LU.refl B w).alloc _).trans hl1
  have HO1 := Lib.hid ho1
  clear ho1 hl1
  go_wp2
  go_ret
  exact ⟨_, rfl, HO1.out, hl2⟩
theorem text_any (w : World) (B : Nat) (v : Value) (xs : List UInt8) (x : ByteArray) (h : OwnU w B v xs) (hB : B ≤ w.heap.size) (hn : xs.length ≤ 1000000000) (hx : x.size ≤ 1000000000) :
    Calls Tryz.prog 49 #[v, .string x] w (AP w B xs (t3 x)) := by
  have HN := Lib.hid (number_any w B v xs x.size h hB hn)
  have hz : Hid ((xs ++ n3 x.size).length + x.size ≤ 100000000000) := Lib.hid (by simp [n3]; omega)
  clear h
  go_enter Tryz.func49, Tryz.ntmps49
  go_wp2_with fail
  refine HN.out.mono ?_
  rintro e w1 ⟨v1, rfl, ho1, hl1⟩
  have hB1 : B ≤ w1.heap.size := Nat.le_trans hB hl1.size
  go_wp2_with (at_builtin; with_reducible refine wpList_apps rfl (.tmp 8) (.tmp 9) 23 9 rfl B Tryz.underlying23 Tryz.underlying9 inf_u8 v1 _ rfl ho1 x rfl hz.out hB1 ?_)
  intro v2 w2 ho2 hl2
  have hl3 := hl1.trans hl2
  have HO2 : Hid (OwnU w2 B v2 (xs ++ t3 x)) := Lib.hid (by simpa [t3, List.append_assoc] using ho2)
  clear ho1 ho2 hl1 hl2
  go_wp2
  go_ret
  exact ⟨_, rfl, HO2.out, hl3⟩
theorem bit_any (b : Bool) (w : World) : Calls Tryz.prog 51 #[.bool b] w fun e w' => e = .returned (.int .i64 (bit b)) ∧ w = w' := by
  cases b
  · go_enter Tryz.func51, Tryz.ntmps51
    go_wp2
    go_ret
    exact ⟨rfl, rfl⟩
  · go_enter Tryz.func51, Tryz.ntmps51
    go_wp2
    go_ret
    exact ⟨rfl, rfl⟩
set_option maxHeartbeats 1000000 in
theorem message_put (w : World) (B : Nat) (v : Value) (xs : List UInt8) (m : Msg) (h : OwnU w B v xs) (hB : B ≤ w.heap.size) (hn : xs.length ≤ 100000000) (ht : m.t.size ≤ 100000000) (hp : m.p.size ≤ 100000000) :
    Calls Tryz.prog 50 #[v, msgV m] w (AP w B xs (m3 m)) := by
  have HM : Hid (∀ ys : List UInt8, xs ++ t3 m.t ++ t3 m.p ++ n3 m.q ++ n3 (bit m.r) = ys → xs ++ m3 m = ys) := Lib.hid (fun ys h => by rw [← h]; simp [m3, List.append_assoc])
  obtain ⟨t, p, q, r⟩ := m
  unfold msgV
  simp only at ht hp HM ⊢
  have z1 : Hid ((xs ++ t3 t).length ≤ 1000000000) := Lib.hid (by simp [t3, n3]; omega)
  have z2 : Hid ((xs ++ t3 t ++ t3 p).length ≤ 1000000000) := Lib.hid (by simp [t3, n3]; omega)
  have z3 : Hid ((xs ++ t3 t ++ t3 p ++ n3 q).length ≤ 1000000000) := Lib.hid (by simp [t3, n3]; omega)
  obtain ⟨wa, hwa⟩ : ∃ wa, wa = w.alloc (.cells #[.string t, .string p, .int .i64 q, .bool r] 64) := ⟨_, rfl⟩
  have hla : LU B w wa := by rw [hwa]; exact (LU.refl B w).alloc _
  have hoa : OwnU wa B v xs := by rw [hwa]; exact h.keep ((Below.refl _ _).alloc (Nat.le_refl _) _)
  have hW : Whole wa w.heap.size 64 [.string t, .string p, .int .i64 q, .bool r] := by rw [hwa]; exact Whole.new w 64 _
  have c0 := hW.cell 0
  have c1 := hW.cell 1
  have c2 := hW.cell 2
  have c3 := hW.cell 3
  simp only [List.getElem?_cons_zero, List.getElem?_cons_succ] at c0 c1 c2 c3
  have HWA := Lib.hid hwa
  have HTY : Hid (∀ w', LU B wa w' → ¬ Ty w' w.heap.size 5) := Lib.hid (fun w' hl h2 => (((hl.whole hW (by decide)).ty).ne h2 (by decide)) rfl)
  have hBa : Hid (B ≤ wa.heap.size) := Lib.hid (Nat.le_trans hB hla.size)
  clear h hW hwa
  go_enter Tryz.func50, Tryz.ntmps50
  go_upto_region 1 with fail
  rw [← HWA.out]
  refine wp_region_held_drew (S := fun wx => wx.cell? ⟨w.heap.size, 0, none⟩ = some (.string t) ∧ wx.cell? ⟨w.heap.size, 1, none⟩ = some (.string p) ∧ wx.cell? ⟨w.heap.size, 2, none⟩ = some (.int .i64 q) ∧ wx.cell? ⟨w.heap.size, 3, none⟩ = some (.bool r)) (by kernel_rfl) ⟨c0, c1, c2, c3⟩ (fun hHeld => ?_)
  refine tk 0 (by assumption) ?_
  (try simp only [Act.put, List.setIfInBounds_toArray, List.set_cons_zero, List.set_cons_succ])
  refine tk 1 (by assumption) ?_
  (try simp only [Act.put, List.setIfInBounds_toArray, List.set_cons_zero, List.set_cons_succ])
  refine tk 2 (by assumption) ?_
  (try simp only [Act.put, List.setIfInBounds_toArray, List.set_cons_zero, List.set_cons_succ])
  refine tk 4 (by assumption) ?_
  (try simp only [Act.put, List.setIfInBounds_toArray, List.set_cons_zero, List.set_cons_succ])
  refine tk 5 (by assumption) ?_
  (try simp only [Act.put, List.setIfInBounds_toArray, List.set_cons_zero, List.set_cons_succ])
  refine tk 7 (by assumption) ?_
  (try simp only [Act.put, List.setIfInBounds_toArray, List.set_cons_zero, List.set_cons_succ])
  refine tk 8 (by assumption) ?_
  (try simp only [Act.put, List.setIfInBounds_toArray, List.set_cons_zero, List.set_cons_succ])
  refine tk 10 (by assumption) ?_
  (try simp only [Act.put, List.setIfInBounds_toArray, List.set_cons_zero, List.set_cons_succ])
  refine tk 11 (by assumption) ?_
  (try simp only [Act.put, List.setIfInBounds_toArray, List.set_cons_zero, List.set_cons_succ])
  have hty := HTY.out _ (LU.refl B wa).drew
  refine wpAnyH_ready (rs := [3]) (by kernel_rfl) (by simp) ?_
  refine call_h 3 ⟨?_, ?_, fun K hK => ?_⟩
  rotate_left 1
  · (simp only [List.getElem?_toArray, List.getElem?_cons_succ, List.getElem?_cons_zero]; exact rfl)
  go_simp
  (go_at_call 49; refine (text_any _ B _ _ _ (show OwnU wa.drew B v xs from hoa) hBa.out (by omega) (by omega)).mono ?_; rintro e wz ⟨vz, rfl, hoz, hlz⟩)
  go_wp2_with fail
  refine hK.out _ _ ⟨hlz.cell hHeld.1 (.inr hty), hlz.cell hHeld.2.1 (.inr hty), hlz.cell hHeld.2.2.1 (.inr hty), hlz.cell hHeld.2.2.2 (.inr hty)⟩ (fun hHeld => ?_)
  clear hK K
  (try simp only [Act.put, List.setIfInBounds_toArray, List.set_cons_zero, List.set_cons_succ])
  have hl1 := (LU.refl B wa).drew.trans hlz
  have ho1 := hoz
  have HB1 := Nat.le_trans hBa.out hl1.size
  clear hlz hoz hty
  have hty := HTY.out _ hl1
  refine wpAnyH_ready (rs := [6]) (by kernel_rfl) (by simp) ?_
  refine call_h 6 ⟨?_, ?_, fun K hK => ?_⟩
  rotate_left 1
  · (simp only [List.getElem?_toArray, List.getElem?_cons_succ, List.getElem?_cons_zero]; exact rfl)
  go_simp
  (go_at_call 49; refine (text_any _ B _ _ _ ho1 HB1 z1.out (by omega)).mono ?_; rintro e wz ⟨vz, rfl, hoz, hlz⟩)
  go_wp2_with fail
  refine hK.out _ _ ⟨hlz.cell hHeld.1 (.inr hty), hlz.cell hHeld.2.1 (.inr hty), hlz.cell hHeld.2.2.1 (.inr hty), hlz.cell hHeld.2.2.2 (.inr hty)⟩ (fun hHeld => ?_)
  clear hK K
  (try simp only [Act.put, List.setIfInBounds_toArray, List.set_cons_zero, List.set_cons_succ])
  have hl2 := hl1.trans hlz
  have ho2 := hoz
  have HB2 := Nat.le_trans hBa.out hl2.size
  clear hlz hoz hty
  have hty := HTY.out _ hl2
  refine wpAnyH_ready (rs := [9]) (by kernel_rfl) (by simp) ?_
  refine call_h 9 ⟨?_, ?_, fun K hK => ?_⟩
  rotate_left 1
  · (simp only [List.getElem?_toArray, List.getElem?_cons_succ, List.getElem?_cons_zero]; exact rfl)
  go_simp
  (go_at_call 31; refine (number_any _ B _ _ _ ho2 HB2 z2.out).mono ?_; rintro e wz ⟨vz, rfl, hoz, hlz⟩)
  go_wp2_with fail
  refine hK.out _ _ ⟨hlz.cell hHeld.1 (.inr hty), hlz.cell hHeld.2.1 (.inr hty), hlz.cell hHeld.2.2.1 (.inr hty), hlz.cell hHeld.2.2.2 (.inr hty)⟩ (fun hHeld => ?_)
  clear hK K
  (try simp only [Act.put, List.setIfInBounds_toArray, List.set_cons_zero, List.set_cons_succ])
  have hl3 := hl2.trans hlz
  have ho3 := hoz
  have HB3 := Nat.le_trans hBa.out hl3.size
  clear hlz hoz hty
  refine wpAnyH_ready (rs := [12]) (by kernel_rfl) (by simp) ?_
  refine call_h 12 ⟨?_, ?_, fun K hK => ?_⟩
  rotate_left 1
  · (simp only [List.getElem?_toArray, List.getElem?_cons_succ, List.getElem?_cons_zero]; exact rfl)
  go_simp
  (go_at_call 51; refine (bit_any _ _).mono ?_; rintro e wz ⟨rfl, rfl⟩)
  go_wp2_with fail
  refine hK.out _ _ hHeld (fun hHeld => ?_)
  clear hK K
  (try simp only [Act.put, List.setIfInBounds_toArray, List.set_cons_zero, List.set_cons_succ])
  have hty := HTY.out _ hl3
  refine wpAnyH_ready (rs := [13]) (by kernel_rfl) (by simp) ?_
  refine call_h 13 ⟨?_, ?_, fun K hK => ?_⟩
  rotate_left 1
  · (simp only [List.getElem?_toArray, List.getElem?_cons_succ, List.getElem?_cons_zero]; exact rfl)
  go_simp
  (go_at_call 31; refine (number_any _ B _ _ _ ho3 HB3 z3.out).mono ?_; rintro e wz ⟨vz, rfl, hoz, hlz⟩)
  go_wp2_with fail
  refine hK.out _ _ ⟨hlz.cell hHeld.1 (.inr hty), hlz.cell hHeld.2.1 (.inr hty), hlz.cell hHeld.2.2.1 (.inr hty), hlz.cell hHeld.2.2.2 (.inr hty)⟩ (fun hHeld => ?_)
  clear hK K
  (try simp only [Act.put, List.setIfInBounds_toArray, List.set_cons_zero, List.set_cons_succ])
  have hl4 := hla.trans (hl3.trans hlz)
  have ho4 := HM.out _ rfl ▸ hoz
  clear hlz hoz hty
  refine tk 14 (by assumption) ?_
  (try simp only [Act.put, List.setIfInBounds_toArray, List.set_cons_zero, List.set_cons_succ])
  refine wpAnyH_done (by kernel_rfl) ?_ _
  go_wp2
  go_ret
  exact ⟨_, rfl, ho4, hl4⟩
end Go.Proofs.YtlehkaibbkblkaaGreatDoor
