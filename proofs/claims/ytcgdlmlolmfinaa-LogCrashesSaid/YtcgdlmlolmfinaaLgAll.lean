/- slices.Clone at strings. -/

import Derived.Test.YtcgdlmlolmfinaaLgAp
namespace Go.Proofs.Ytcgdlmlolmfinaa
open Go.RowKit
set_option maxHeartbeats 400000 in
theorem CloneS_any (w : World) (v : Value) (n : Nat) (xs : List Value) (h : Rd w w.heap.size 1 v n xs) (h1 : ∀ u ∈ xs, u.oneCell' = true) (hn : n ≤ 1048576) :
    Calls Try.prog 27 #[v] w fun e w' => ∃ v', e = .returned v' ∧ w'.ownsRow w.heap.size 9 1 v' n xs ∧ Below w.heap.size w w' := by
  obtain ⟨ao, cap, rfl, hc, hm⟩ := h.form
  clear hm
  rcases ao with _ | ad
  · obtain ⟨hl, ao', cap', e', h3, _, h5, _⟩ := h
    injection e' with e1 _ e3
    subst e1 e3
    have hc0 := h5 rfl
    subst hc0
    have hn0 : n = 0 := by omega
    subst hn0
    have hx : xs = [] := List.eq_nil_of_length_eq_zero (by omega)
    subst hx
    clear h5 hl hc h1 h3 hn
    have hnil := fun w => Lib.run_eql_slice_nil (P := Try.prog) w 35 9 none 0 0 0 0 Try.underlying35
    go_enter Try.func27, Try.ntmps27
    go_wp2
    go_ret
    exact ⟨_, rfl, World.ownsRow_nil _ _ _ _, Below.refl _ _⟩
  · have hnil := fun w => Lib.run_eql_slice_nil (P := Try.prog) w 35 9 (some ad) n cap 0 0 Try.underlying35
    have H := Lib.hid h
    have H1 := Lib.hid h1
    clear h h1
    go_enter Try.func27, Try.ntmps27
    go_wp2_with (at_builtin; refine wpList_app _ rfl (.tmp 5) (.tmp 6) _ rfl w.heap.size 9 (.string ⟨#[]⟩) 1 16 Try.underlying35 inf_Ts rfl (by omega) (.slice (some ⟨w.heap.size, 0, none⟩) 0 0) 0 [] rfl (World.ownsRow_made w #[] 0 (Nat.le_refl _) (by unfold maxLen; omega) rfl) w.heap.size _ n xs rfl (H.out.below ((Below.refl _ _).alloc (Nat.le_refl _) _)) H1.out ?_ ?_ (by simp) ?_; unfold maxLen; omega; omega; intro v1 w1 hown hg hat; have hb1 := ((Below.refl w.heap.size w).alloc (Nat.le_refl _) (.cells #[] 9)).grown hg (by simp) (by simp [Value.ownBlock]))
    go_ret
    exact ⟨v1, rfl, by simpa using hown, hb1⟩
theorem strs_one (l : List (List UInt8)) : ∀ u ∈ l.map strL, u.oneCell' = true := by
  intro u hu
  obtain ⟨x, _, rfl⟩ := List.mem_map.1 hu
  rfl
section
variable {w w' w1 : World} {base R RD : Nat} {F F1 : List Nat} {lv : Value} {L : LS} {s s1 s' : DS}
set_option maxRecDepth 20000 in
theorem lall (h : LgAt w base R RD F lv L) (hn : L.l.length ≤ 1048576) : Calls Try.prog 10 #[.pointer (some ⟨R, 0, none⟩)] w fun e w' => ∃ v, e = .returned v ∧ w'.ownsRow w.heap.size 9 1 v L.l.length (L.l.map strL) ∧ Below w.heap.size w w' := by
  have c1 : w.cell? ⟨R, 1, none⟩ = some lv := by rw [h.head.cell]; rfl
  have HC := Lib.hid (CloneS_any w lv L.l.length (L.l.map strL) (Rd.of_own h.list) (strs_one _) hn)
  obtain ⟨vo, vc, rfl, _, _⟩ := (Rd.of_own h.list).form
  clear h hn
  go_enter Try.func10, Try.ntmps10
  go_wp2_with fail
  refine HC.out.mono ?_
  rintro e w2 ⟨v, rfl, hv, hb⟩
  obtain ⟨vo2, vc2, rfl, _, _⟩ := (Rd.of_own hv).form
  have HV := Lib.hid (And.intro hv hb)
  clear hv hb
  go_wp2
  go_ret
  exact ⟨_, rfl, HV.out⟩
theorem rd_strs {w : World} {B n : Nat} {v : Value} {l : List (List UInt8)} (h : Rd w B 1 v n (l.map strL)) {i : Nat} {x : List UInt8} (hx : l[i]? = some x) (hi : i < n) : ∃ b o cap, v = .slice (some ⟨b, o, none⟩) n cap ∧ b < B ∧ w.cell? ⟨b, o + i, none⟩ = some (.string ⟨x.toArray⟩) := by
  obtain ⟨vo, vc, rfl, _, _⟩ := h.form
  obtain ⟨b, o, u, e, hb, hu, hc⟩ := h.at_ (k := i) (by have := h.1; omega)
  subst e
  rw [List.getElem?_map, hx] at hu
  injection hu with hu
  subst hu
  exact ⟨b, o, vc, rfl, hb, hc⟩
def CtI (l : List (List UInt8)) (FIN : Nat × Int) (i n : Nat) (full : Bool) : Prop := countD (l.drop i) n full = FIN ∧ n ≤ 65536 ∧ i ≤ l.length
set_option maxRecDepth 20000 in
set_option maxHeartbeats 2000000 in
theorem lcounted (w : World) (v : Value) (l : List (List UInt8)) (B : Nat) (h : Rd w B 1 v l.length (l.map strL)) (hx : ∀ x ∈ l, x.length ≤ 1000000000) :
    Calls Try.prog 28 #[v] w fun e w' => e = .returned (.tuple #[.int .i64 (countD l 0 false).1, .int .i64 (countD l 0 false).2]) ∧ w = w' := by
  obtain ⟨FIN, hF⟩ : ∃ X, countD l 0 false = X := ⟨_, rfl⟩
  rw [hF]
  have HI0 : Hid (CtI l FIN 0 0 false) := Lib.hid ⟨hF, by omega, by omega⟩
  obtain ⟨ao, cap, rfl, hc, hm⟩ := h.form
  have hc2 : cap ≤ 9223372036854775807 := by unfold maxLen at hm; omega
  have H := Lib.hid h
  have HX := Lib.hid hx
  clear h hm hF hx
  go_enter Try.func28, Try.ntmps28
  go_wp2
  go_loopw [2, 4, 9] (fun n f i wr => ∃ (k z : Nat) (full : Bool), n = .int .i64 z ∧ f = .bool full ∧ i = .int .i64 k ∧ w = wr ∧ z ≤ 65536 ∧ k ≤ l.length ∧ Hid (CtI l FIN k z full)) (fun _ _ i _ => l.length + 1 - (intOf i).toNat)
  case atStart => exact ⟨0, 0, false, rfl, rfl, rfl, rfl, by omega, by omega, HI0⟩
  case round =>
    obtain ⟨k, z, full, rfl, rfl, rfl, rfl, hz, hk, HI⟩ := hrel
    by_cases hlt : k < l.length
    · have hlt' : (k : Int) < (l.length : Int) := by omega
      obtain ⟨x, hx⟩ : ∃ x, l[k]? = some x := ⟨_, List.getElem?_eq_getElem hlt⟩
      obtain ⟨b, o, cap', e', _, hcs⟩ := rd_strs H.out hx hlt
      injection e' with e1 _ e3
      subst e1 e3
      have hxl := HX.out x (List.mem_of_getElem? hx)
      have hE := HI.out.1
      rw [List.drop_eq_getElem_cons hlt, (List.getElem?_eq_some_iff.1 hx).2, countD] at hE
      have HE := Lib.hid hE
      clear hE hx
      by_cases hbig : 16384 < x.length
      · have hbig' : (16384 : Int) < (x.length : Int) := by omega
        have HE2 : Hid ((0, 1) = FIN) := Lib.hid (by have := HE.out; rwa [if_pos hbig] at this)
        go_wp2
        go_ret2
        rw [← HE2.out]
        exact ⟨rfl, rfl⟩
      · have hbig' : ¬ ((16384 : Int) < (x.length : Int)) := by omega
        have hE := HE.out
        rw [if_neg hbig] at hE
        have HE1 := Lib.hid hE
        clear hE
        cases full
        · by_cases hf : 65536 < x.length + 128 + z
          · have hf' : (65536 : Int) - (z : Int) < (x.length : Int) + 128 := by omega
            have HI2 : Hid (CtI l FIN (k + 1) z true) := Lib.hid ⟨by have := HE1.out; rwa [if_pos (by simp [hf])] at this, hz, by omega⟩
            go_wp2
            go_roundw
            case rel => exact ⟨k + 1, z, true, rfl, rfl, by go_num, trivial, hz, by omega, HI2⟩
            case measure => simp [intOf]; omega
          · have hf' : ¬ ((65536 : Int) - (z : Int) < (x.length : Int) + 128) := by omega
            have HI2 : Hid (CtI l FIN (k + 1) (z + x.length + 128) false) := Lib.hid ⟨by have := HE1.out; rwa [if_neg (by simp [hf])] at this, by omega, by omega⟩
            go_wp2
            go_roundw
            case rel => exact ⟨k + 1, z + x.length + 128, false, by go_num, rfl, by go_num, trivial, by omega, by omega, HI2⟩
            case measure => simp [intOf]; omega
        · have HI2 : Hid (CtI l FIN (k + 1) z true) := Lib.hid ⟨by have := HE1.out; rwa [if_pos (by simp)] at this, hz, by omega⟩
          go_wp2
          go_roundw
          case rel => exact ⟨k + 1, z, true, rfl, rfl, by go_num, trivial, hz, by omega, HI2⟩
          case measure => simp [intOf]; omega
    · have hk' : k = l.length := by omega
      have hE := HI.out.1
      rw [hk', List.drop_length, countD] at hE
      have HE := Lib.hid hE
      clear hE
      subst hk'
      cases full
      · have HE2 : Hid ((z, 0) = FIN) := Lib.hid (by simpa using HE.out)
        go_wp2
        go_ret2
        rw [← HE2.out]
        exact ⟨rfl, rfl⟩
      · have HE2 : Hid ((0, 5) = FIN) := Lib.hid (by simpa using HE.out)
        go_wp2
        go_ret2
        rw [← HE2.out]
        exact ⟨rfl, rfl⟩
end
end Go.Proofs.Ytcgdlmlolmfinaa
