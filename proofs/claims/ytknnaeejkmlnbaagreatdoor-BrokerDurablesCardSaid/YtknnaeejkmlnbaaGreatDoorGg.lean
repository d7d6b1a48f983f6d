/- What the statements write over a broker: numbers, wishes, messages, outboxes. A broker of one's own, written over. A region whose order is drawn: k and all that is left come in one forced order, said by a list. Over any program. broker.Own: a broker of one's own, of any. Sessions deleted that are clean. The page's own: what lasts of a broker. broker.Rest: what is left of a broker, in rows of its own. broker.Durable, broker.Check: of any. What lasts of a broker that may be: it may be, and lasts as it is. -/
import Derived.Test.YtknnaeejkmlnbaaGreatDoorGe
import Derived.Test.YtknnaeejkmlnbaaGreatDoorGb
import Derived.Test.YtknnaeejkmlnbaaGreatDoorGf
import Derived.Test.YtknnaeejkmlnbaaGreatDoorRcMay3
import Derived.Test.YtknnaeejkmlnbaaGreatDoorGd
namespace Go.Proofs.YtknnaeejkmlnbaaGreatDoor
open Go.RowKit
theorem left_more {S S' : List Nat} {w w' : World} (h : Left S w w') (hs : ∀ k ∈ S, k ∈ S') : Left S' w w' :=
  ⟨h.os, h.tape, h.output, h.size, fun k hk hn => h.block k hk (fun hm => hn (hs k hm))⟩
set_option maxRecDepth 20000 in
set_option maxHeartbeats 2000000 in
theorem Nums_left (w : World) (B : Nat) (v : Value) (n : Nat) (xs : List Value) (h : w.ownsRow B 3 1 v n xs) (hB : B ≤ w.heap.size) (hn : n ≤ 1000000000) :
    Calls Tryz.prog 32 #[v] w fun e w' => e = .returned (.tuple #[]) ∧ Left (Value.ownL v) w w' := by
  have hf : ∃ ao cap, v = .slice ao n cap ∧ cap ≤ 9223372036854775807 := by
    obtain ⟨ao, cap, h1, _, h2⟩ := (Rd.of_own h).form
    exact ⟨ao, cap, h1, by unfold maxLen at h2; omega⟩
  obtain ⟨ao, cap, rfl, hcap⟩ := hf
  have H := Lib.hid h
  clear h
  go_enter Tryz.func32, Tryz.ntmps32
  go_wp2
  go_loopw [2] (fun i wr => ∃ k : Nat, k ≤ n ∧ i = .int .i64 k ∧ Hid (Left (Value.ownL (.slice ao n cap)) w wr) ∧ Hid (∃ ys, wr.ownsRow B 3 1 (.slice ao n cap) n ys)) (fun i _ => n - (intOf i).toNat)
  case atStart => exact ⟨0, by omega, rfl, Lib.hid (Left.refl _ _), Lib.hid ⟨xs, H.out⟩⟩
  case round =>
    obtain ⟨k, hk, rfl, HB, HX⟩ := hrel
    obtain ⟨ys, ho⟩ := HX.out
    clear HX
    by_cases hlt : k < n
    · have hlt' : (k : Int) < (n : Int) := by omega
      obtain ⟨g, cap', e, hBg, hgl, hnc, hcm⟩ := Enc.own_form ho (by omega)
      injection e with e1 e2 e3
      subst e1 e3
      obtain ⟨u0, g0⟩ : ∃ u, wr.cell? ⟨g, k, none⟩ = some u := ⟨_, (ho.cellAt _ (by omega)).trans (List.getElem?_eq_getElem (by rw [ho.1]; omega))⟩
      have z0 : wr.frozen? ⟨g, k, none⟩ = false := ho.frozenAt _
      obtain ⟨o5, g5⟩ := Enc.own_setCells [.int .i64 (-99)] (k) ys wr ho
      have HB5 : Hid (Left (Value.ownL (.slice (some ⟨g, 0, none⟩) n cap)) w (wr.setCells g (k) [.int .i64 (-99)])) := Lib.hid (HB.out.trans (left_of_grown (v := .slice (some ⟨g, 0, none⟩) n cap) g5) (fun k hk => .inl hk))
      have HO5 : Hid (∃ ys, (wr.setCells g (k) [.int .i64 (-99)]).ownsRow B 3 1 (.slice (some ⟨g, 0, none⟩) n cap) n ys) := Lib.hid ⟨_, o5⟩
      clear o5 g5 ho
      go_wp2
      go_roundw
      case rel => exact ⟨k + 1, by omega, by go_num, HB5, HO5⟩
      case measure => simp [intOf]; omega
    · have hlt' : ¬ ((k : Int) < (n : Int)) := by omega
      have : k = n := by omega
      subst this
      have HO := Lib.hid ho
      have hzs := HB.out.size
      have HA := Lib.hid (enc_new eI wr 3 5)
      simp only [eI] at HA
      clear ho
      go_wp2_with (at_builtin; refine wpList_app _ rfl (.tmp 12) (.tmp 13) _ rfl B 3 (.int .i64 0) 1 8 Tryz.underlying22 inf_I rfl (by omega) _ k ys rfl (HO.out.alloc _) _ _ 1 (eI.c 5) rfl HA.out (eI.one _) ?_ ?_ ?_ ?_)
      · unfold maxLen; omega
      · omega
      · first | omega | (simp; omega)
      intro v1 w1 hown1 hg1 _
      have hb1 : Left (Value.ownL (.slice ao k cap)) w w1 := (HB.out.trans (T := Value.ownL (.slice ao k cap)) (Left.of_below ((Below.refl wr.heap.size wr).alloc (Nat.le_refl _) _) _) (fun k hk => .inl hk)).trans (left_of_grown hg1) (fun k hk => .inl hk)
      clear hown1 hg1
      go_wp2
      go_end0
      exact ⟨rfl, hb1⟩
set_option maxRecDepth 20000 in
set_option maxHeartbeats 2000000 in
theorem Wis_left (w : World) (B : Nat) (v : Value) (n : Nat) (xs : List Value) (h : w.ownsRow B 106 2 v n xs) (hB : B ≤ w.heap.size) (hn : n ≤ 1000000000) :
    Calls Tryz.prog 33 #[v] w fun e w' => e = .returned (.tuple #[]) ∧ Left (Value.ownL v) w w' := by
  have hf : ∃ ao cap, v = .slice ao n cap ∧ cap ≤ 9223372036854775807 := by
    obtain ⟨ao, cap, h1, _, h2⟩ := (Rd.of_own h).form
    exact ⟨ao, cap, h1, by unfold maxLen at h2; omega⟩
  obtain ⟨ao, cap, rfl, hcap⟩ := hf
  have H := Lib.hid h
  clear h
  go_enter Tryz.func33, Tryz.ntmps33
  go_wp2
  go_loopw [2] (fun i wr => ∃ k : Nat, k ≤ n ∧ i = .int .i64 k ∧ Hid (Left (Value.ownL (.slice ao n cap)) w wr) ∧ Hid (∃ ys, wr.ownsRow B 106 2 (.slice ao n cap) n ys)) (fun i _ => n - (intOf i).toNat)
  case atStart => exact ⟨0, by omega, rfl, Lib.hid (Left.refl _ _), Lib.hid ⟨xs, H.out⟩⟩
  case round =>
    obtain ⟨k, hk, rfl, HB, HX⟩ := hrel
    obtain ⟨ys, ho⟩ := HX.out
    clear HX
    by_cases hlt : k < n
    · have hlt' : (k : Int) < (n : Int) := by omega
      obtain ⟨g, cap', e, hBg, hgl, hnc, hcm⟩ := Enc.own_form ho (by omega)
      injection e with e1 e2 e3
      subst e1 e3
      obtain ⟨u0, g0⟩ : ∃ u, wr.cell? ⟨g, k * 2, none⟩ = some u := ⟨_, (ho.cellAt _ (by omega)).trans (List.getElem?_eq_getElem (by rw [ho.1]; omega))⟩
      have z0 : wr.frozen? ⟨g, k * 2, none⟩ = false := ho.frozenAt _
      obtain ⟨u1, g1⟩ : ∃ u, wr.cell? ⟨g, k * 2 + 1, none⟩ = some u := ⟨_, (ho.cellAt _ (by omega)).trans (List.getElem?_eq_getElem (by rw [ho.1]; omega))⟩
      have z1 : wr.frozen? ⟨g, k * 2 + 1, none⟩ = false := ho.frozenAt _
      obtain ⟨o5, g5⟩ := Enc.own_setCells [.string ⟨#[63]⟩, .int .i64 0] (k * 2) ys wr ho
      have HB5 : Hid (Left (Value.ownL (.slice (some ⟨g, 0, none⟩) n cap)) w (wr.setCells g (k * 2) [.string ⟨#[63]⟩, .int .i64 0])) := Lib.hid (HB.out.trans (left_of_grown (v := .slice (some ⟨g, 0, none⟩) n cap) g5) (fun k hk => .inl hk))
      have HO5 : Hid (∃ ys, (wr.setCells g (k * 2) [.string ⟨#[63]⟩, .int .i64 0]).ownsRow B 106 2 (.slice (some ⟨g, 0, none⟩) n cap) n ys) := Lib.hid ⟨_, o5⟩
      clear o5 g5 ho
      go_wp2
      go_roundw
      case rel => exact ⟨k + 1, by omega, by go_num, HB5, HO5⟩
      case measure => simp [intOf]; omega
    · have hlt' : ¬ ((k : Int) < (n : Int)) := by omega
      have : k = n := by omega
      subst this
      have HO := Lib.hid ho
      have hzs := HB.out.size
      have HA := Lib.hid (enc_new eW wr 106 ⟨⟨#[]⟩, 0⟩)
      simp only [eW] at HA
      clear ho
      go_wp2_with (at_builtin; refine wpList_app _ rfl (.tmp 13) (.tmp 15) _ rfl B 106 (.agg #[.string ⟨#[]⟩, .int .i64 0]) 2 24 Tryz.underlying45 inf_W rfl (by omega) _ k ys rfl (HO.out.alloc _) _ _ 1 (eW.c ⟨⟨#[]⟩, 0⟩) rfl HA.out (eW.one _) ?_ ?_ ?_ ?_)
      · unfold maxLen; omega
      · omega
      · first | omega | (simp; omega)
      intro v1 w1 hown1 hg1 _
      have hb1 : Left (Value.ownL (.slice ao k cap)) w w1 := (HB.out.trans (T := Value.ownL (.slice ao k cap)) (Left.of_below ((Below.refl wr.heap.size wr).alloc (Nat.le_refl _) _) _) (fun k hk => .inl hk)).trans (left_of_grown hg1) (fun k hk => .inl hk)
      clear hown1 hg1
      go_wp2
      go_end0
      exact ⟨rfl, hb1⟩
set_option maxRecDepth 20000 in
set_option maxHeartbeats 2000000 in
theorem Mss_left (w : World) (B : Nat) (v : Value) (n : Nat) (xs : List Value) (h : w.ownsRow B 83 4 v n xs) (hB : B ≤ w.heap.size) (hn : n ≤ 1000000000) :
    Calls Tryz.prog 35 #[v] w fun e w' => e = .returned (.tuple #[]) ∧ Left (Value.ownL v) w w' := by
  have hf : ∃ ao cap, v = .slice ao n cap ∧ cap ≤ 9223372036854775807 := by
    obtain ⟨ao, cap, h1, _, h2⟩ := (Rd.of_own h).form
    exact ⟨ao, cap, h1, by unfold maxLen at h2; omega⟩
  obtain ⟨ao, cap, rfl, hcap⟩ := hf
  have H := Lib.hid h
  clear h
  go_enter Tryz.func35, Tryz.ntmps35
  go_wp2
  go_loopw [2] (fun i wr => ∃ k : Nat, k ≤ n ∧ i = .int .i64 k ∧ Hid (Left (Value.ownL (.slice ao n cap)) w wr) ∧ Hid (∃ ys, wr.ownsRow B 83 4 (.slice ao n cap) n ys)) (fun i _ => n - (intOf i).toNat)
  case atStart => exact ⟨0, by omega, rfl, Lib.hid (Left.refl _ _), Lib.hid ⟨xs, H.out⟩⟩
  case round =>
    obtain ⟨k, hk, rfl, HB, HX⟩ := hrel
    obtain ⟨ys, ho⟩ := HX.out
    clear HX
    by_cases hlt : k < n
    · have hlt' : (k : Int) < (n : Int) := by omega
      obtain ⟨g, cap', e, hBg, hgl, hnc, hcm⟩ := Enc.own_form ho (by omega)
      injection e with e1 e2 e3
      subst e1 e3
      obtain ⟨u0, g0⟩ : ∃ u, wr.cell? ⟨g, k * 4, none⟩ = some u := ⟨_, (ho.cellAt _ (by omega)).trans (List.getElem?_eq_getElem (by rw [ho.1]; omega))⟩
      have z0 : wr.frozen? ⟨g, k * 4, none⟩ = false := ho.frozenAt _
      obtain ⟨u1, g1⟩ : ∃ u, wr.cell? ⟨g, k * 4 + 1, none⟩ = some u := ⟨_, (ho.cellAt _ (by omega)).trans (List.getElem?_eq_getElem (by rw [ho.1]; omega))⟩
      have z1 : wr.frozen? ⟨g, k * 4 + 1, none⟩ = false := ho.frozenAt _
      obtain ⟨u2, g2⟩ : ∃ u, wr.cell? ⟨g, k * 4 + 2, none⟩ = some u := ⟨_, (ho.cellAt _ (by omega)).trans (List.getElem?_eq_getElem (by rw [ho.1]; omega))⟩
      have z2 : wr.frozen? ⟨g, k * 4 + 2, none⟩ = false := ho.frozenAt _
      obtain ⟨u3, g3⟩ : ∃ u, wr.cell? ⟨g, k * 4 + 3, none⟩ = some u := ⟨_, (ho.cellAt _ (by omega)).trans (List.getElem?_eq_getElem (by rw [ho.1]; omega))⟩
      have z3 : wr.frozen? ⟨g, k * 4 + 3, none⟩ = false := ho.frozenAt _
      obtain ⟨o5, g5⟩ := Enc.own_setCells [.string ⟨#[63]⟩, .string ⟨#[]⟩, .int .i64 0, .bool false] (k * 4) ys wr ho
      have HB5 : Hid (Left (Value.ownL (.slice (some ⟨g, 0, none⟩) n cap)) w (wr.setCells g (k * 4) [.string ⟨#[63]⟩, .string ⟨#[]⟩, .int .i64 0, .bool false])) := Lib.hid (HB.out.trans (left_of_grown (v := .slice (some ⟨g, 0, none⟩) n cap) g5) (fun k hk => .inl hk))
      have HO5 : Hid (∃ ys, (wr.setCells g (k * 4) [.string ⟨#[63]⟩, .string ⟨#[]⟩, .int .i64 0, .bool false]).ownsRow B 83 4 (.slice (some ⟨g, 0, none⟩) n cap) n ys) := Lib.hid ⟨_, o5⟩
      clear o5 g5 ho
      go_wp2
      go_roundw
      case rel => exact ⟨k + 1, by omega, by go_num, HB5, HO5⟩
      case measure => simp [intOf]; omega
    · have hlt' : ¬ ((k : Int) < (n : Int)) := by omega
      have : k = n := by omega
      subst this
      have HO := Lib.hid ho
      have hzs := HB.out.size
      have HA := Lib.hid (enc_new eM wr 83 ⟨⟨#[]⟩, ⟨#[]⟩, 0, false⟩)
      simp only [eM, msgC] at HA
      clear ho
      go_wp2_with (at_builtin; refine wpList_app _ rfl (.tmp 13) (.tmp 15) _ rfl B 83 (.agg #[.string ⟨#[]⟩, .string ⟨#[]⟩, .int .i64 0, .bool false]) 4 48 Tryz.underlying24 inf_M rfl (by omega) _ k ys rfl (HO.out.alloc _) _ _ 1 (eM.c ⟨⟨#[]⟩, ⟨#[]⟩, 0, false⟩) rfl HA.out (eM.one _) ?_ ?_ ?_ ?_)
      · unfold maxLen; omega
      · omega
      · first | omega | (simp; omega)
      intro v1 w1 hown1 hg1 _
      have hb1 : Left (Value.ownL (.slice ao k cap)) w w1 := (HB.out.trans (T := Value.ownL (.slice ao k cap)) (Left.of_below ((Below.refl wr.heap.size wr).alloc (Nat.le_refl _) _) _) (fun k hk => .inl hk)).trans (left_of_grown hg1) (fun k hk => .inl hk)
      clear hown1 hg1
      go_wp2
      go_end0
      exact ⟨rfl, hb1⟩
set_option maxRecDepth 20000 in
set_option maxHeartbeats 2000000 in
theorem Ob_left (w : World) (B : Nat) (last : Int) (fv qv : Value) (n m : Nat) (xs ys : List Value) (hF : w.ownsRow B 108 6 fv n xs) (hQ : w.ownsRow B 83 4 qv m ys) (hB : B ≤ w.heap.size) (hn : n ≤ 1000000000) (hm : m ≤ 1000000000) :
    Calls Tryz.prog 34 #[.agg #[.int .i64 last, fv, qv]] w fun e w' => e = .returned (.tuple #[]) ∧ Left (Value.ownL fv ++ Value.ownL qv) w w' := by
  obtain ⟨ao, cap, rfl, _, hc⟩ := (Rd.of_own hF).form
  obtain ⟨qo, qc, rfl, _, _⟩ := (Rd.of_own hQ).form
  have hcap : cap ≤ 9223372036854775807 := by unfold maxLen at hc; omega
  obtain ⟨wa, hwa⟩ : ∃ wa, w.alloc (.cells #[.int .i64 last, .slice ao n cap, .slice qo m qc] 59) = wa := ⟨_, rfl⟩
  have hb0 : Below w.heap.size w wa := by rw [← hwa]; exact (Below.refl _ _).alloc (Nat.le_refl _) _
  have hW : Whole wa w.heap.size 59 [.int .i64 last, .slice ao n cap, .slice qo m qc] := by rw [← hwa]; exact Whole.new w 59 _
  obtain ⟨T, hT⟩ : ∃ T, w.heap.size = T := ⟨_, rfl⟩
  have hz0 : T + 1 ≤ wa.heap.size := by rw [← hwa, ← hT]; simp
  rw [hT] at hW
  have h0 : Hid (Whole wa T 59 [.int .i64 last, .slice ao n cap, .slice qo m qc] ∧ Left (Value.ownL (.slice ao n cap)) w wa ∧ (∃ ys, wa.ownsRow B 108 6 (.slice ao n cap) n ys) ∧ wa.ownsRow B 83 4 (.slice qo m qc) m ys) := Lib.hid ⟨hW, Left.of_below hb0 _, ⟨xs, own_below hF hb0⟩, own_below hQ hb0⟩
  have HWA := Lib.hid hwa
  have HTT := Lib.hid hT
  have HTB : Hid (B ≤ T) := Lib.hid (by omega)
  clear hF hQ hwa hb0 hW hT hc
  go_enter Tryz.func34, Tryz.ntmps34
  go_upto_region 1 with fail
  rw [HWA.out, HTT.out]
  go_wp2
  go_loopw [2] (fun i wr => ∃ k : Nat, k ≤ n ∧ i = .int .i64 k ∧ Hid (Whole wr T 59 [.int .i64 last, .slice ao n cap, .slice qo m qc] ∧ Left (Value.ownL (.slice ao n cap)) w wr ∧ (∃ ys, wr.ownsRow B 108 6 (.slice ao n cap) n ys) ∧ wr.ownsRow B 83 4 (.slice qo m qc) m ys)) (fun i _ => n - (intOf i).toNat)
  case atStart => exact ⟨0, by omega, rfl, h0⟩
  case round =>
    obtain ⟨k, hk, rfl, HX⟩ := hrel
    obtain ⟨a0, a1, a2, _, _, _⟩ := HX.out.1.three
    obtain ⟨ys2, ho⟩ := HX.out.2.2.1
    by_cases hlt : k < n
    · have hlt' : (k : Int) < (n : Int) := by omega
      obtain ⟨g, cap', e, hBg, hgl, hnc, hcm⟩ := Enc.own_form ho (by omega)
      injection e with e1 e2 e3
      subst e1 e3
      have hne : T ≠ g := fun e => by
        have h1 := own_ty ho (k := g) rfl
        rw [← e] at h1
        exact h1.ne ⟨_, _, HX.out.1⟩ (by decide) rfl
      obtain ⟨u0, g0⟩ : ∃ u, wr.cell? ⟨g, k * 6, none⟩ = some u := ⟨_, (ho.cellAt _ (by omega)).trans (List.getElem?_eq_getElem (by rw [ho.1]; omega))⟩
      have z0 : wr.frozen? ⟨g, k * 6, none⟩ = false := ho.frozenAt _
      obtain ⟨u1, g1⟩ : ∃ u, wr.cell? ⟨g, k * 6 + 1, none⟩ = some u := ⟨_, (ho.cellAt _ (by omega)).trans (List.getElem?_eq_getElem (by rw [ho.1]; omega))⟩
      have z1 : wr.frozen? ⟨g, k * 6 + 1, none⟩ = false := ho.frozenAt _
      obtain ⟨u2, g2⟩ : ∃ u, wr.cell? ⟨g, k * 6 + 2, none⟩ = some u := ⟨_, (ho.cellAt _ (by omega)).trans (List.getElem?_eq_getElem (by rw [ho.1]; omega))⟩
      have z2 : wr.frozen? ⟨g, k * 6 + 2, none⟩ = false := ho.frozenAt _
      obtain ⟨u3, g3⟩ : ∃ u, wr.cell? ⟨g, k * 6 + 3, none⟩ = some u := ⟨_, (ho.cellAt _ (by omega)).trans (List.getElem?_eq_getElem (by rw [ho.1]; omega))⟩
      have z3 : wr.frozen? ⟨g, k * 6 + 3, none⟩ = false := ho.frozenAt _
      obtain ⟨u4, g4⟩ : ∃ u, wr.cell? ⟨g, k * 6 + 4, none⟩ = some u := ⟨_, (ho.cellAt _ (by omega)).trans (List.getElem?_eq_getElem (by rw [ho.1]; omega))⟩
      have z4 : wr.frozen? ⟨g, k * 6 + 4, none⟩ = false := ho.frozenAt _
      obtain ⟨u5, g5⟩ : ∃ u, wr.cell? ⟨g, k * 6 + 5, none⟩ = some u := ⟨_, (ho.cellAt _ (by omega)).trans (List.getElem?_eq_getElem (by rw [ho.1]; omega))⟩
      have z5 : wr.frozen? ⟨g, k * 6 + 5, none⟩ = false := ho.frozenAt _
      obtain ⟨o5, g5⟩ := Enc.own_setCells [.int .i64 (-9), .string ⟨#[]⟩, .string ⟨#[]⟩, .int .i64 0, .bool false, .bool false] (k * 6) ys2 wr ho
      have hl5 := left_of_grown (v := .slice (some ⟨g, 0, none⟩) n cap) g5
      have HX5 : Hid (Whole (wr.setCells g (k * 6) [.int .i64 (-9), .string ⟨#[]⟩, .string ⟨#[]⟩, .int .i64 0, .bool false, .bool false]) T 59 [.int .i64 last, .slice (some ⟨g, 0, none⟩) n cap, .slice qo m qc] ∧ Left (Value.ownL (.slice (some ⟨g, 0, none⟩) n cap)) w (wr.setCells g (k * 6) [.int .i64 (-9), .string ⟨#[]⟩, .string ⟨#[]⟩, .int .i64 0, .bool false, .bool false]) ∧ (∃ ys, (wr.setCells g (k * 6) [.int .i64 (-9), .string ⟨#[]⟩, .string ⟨#[]⟩, .int .i64 0, .bool false, .bool false]).ownsRow B 108 6 (.slice (some ⟨g, 0, none⟩) n cap) n ys) ∧ (wr.setCells g (k * 6) [.int .i64 (-9), .string ⟨#[]⟩, .string ⟨#[]⟩, .int .i64 0, .bool false, .bool false]).ownsRow B 83 4 (.slice qo m qc) m ys) := Lib.hid
        ⟨HX.out.1.left hl5 (fun hm => hne (by have := mem_ownL.1 hm; simp only [Value.ownBlock] at this; injection this with this; exact this.symm)), HX.out.2.1.trans hl5 (fun k hk => .inl hk), ⟨_, o5⟩,
          own_leftB HX.out.2.2.2 hl5 (fun k hk e => (own_ty HX.out.2.2.2 e).ne (own_ty ho (mem_ownL.1 hk)) (by decide) rfl)⟩
      clear o5 g5 hl5 ho hne
      go_wp2
      go_roundw
      case rel => exact ⟨k + 1, by omega, by go_num, HX5⟩
      case measure => simp [intOf]; omega
    · have hlt' : ¬ ((k : Int) < (n : Int)) := by omega
      have HMS := Lib.hid (Mss_left wr B _ m ys HX.out.2.2.2 (by have := HX.out.2.1.size; omega) hm)
      have HL := Lib.hid HX.out.2.1
      clear ho
      go_wp2_with (go_at_call 35; refine HMS.out.mono ?_; rintro e w1 ⟨rfl, hl1⟩)
      go_end0
      exact ⟨rfl, (left_more HL.out (fun k hk => List.mem_append.2 (.inl hk))).trans hl1 (fun k hk => .inl (List.mem_append.2 (.inr hk)))⟩
end Go.Proofs.YtknnaeejkmlnbaaGreatDoor
namespace Go.Proofs.YtknnaeejkmlnbaaGreatDoor
open Go.RowKit
/-- The blocks of a session's rows. -/
def blk (r : Rs) : List Nat := Value.ownL (.slice r.sa r.s.S.length r.sc) ++ (Value.ownL (.slice r.fa r.s.o.F.length r.fc) ++ (Value.ownL (.slice r.qa r.s.o.Q.length r.qc) ++ Value.ownL (.slice r.ia r.s.I.length r.ic)))
/-- Rows of its own, apart from each other. -/
structure BOwn (w : World) (B : Nat) (sv kv : Value) (R : List Rs) (K : List Msg) : Prop where
  s : w.ownsRow B 61 15 sv R.length (eS.cells R)
  r : ∀ x ∈ R, SOwn w B 0 x
  k : w.ownsRow B 83 4 kv K.length (eM.cells K)
  p : R.Pairwise (fun x y => ∀ g ∈ blk x, g ∉ blk y)
  q : ∀ x ∈ R, ∀ g ∈ blk x, g ∉ Value.ownL kv
section
variable {w w' : World} {B N : Nat} {S : List Nat} {r : Rs}
theorem SOwn.leftB (h : SOwn w B N r) (hl : Left S w w') (hS : ∀ k ∈ S, k ∉ blk r) : SOwn w' B N r :=
  ⟨own_leftB h.s hl (fun k hk e => hS k hk (List.mem_append.2 (.inl (mem_ownL.2 e)))),
    own_leftB h.f hl (fun k hk e => hS k hk (List.mem_append.2 (.inr (List.mem_append.2 (.inl (mem_ownL.2 e)))))),
    own_leftB h.q hl (fun k hk e => hS k hk (List.mem_append.2 (.inr (List.mem_append.2 (.inr (List.mem_append.2 (.inl (mem_ownL.2 e)))))))),
    own_leftB h.i hl (fun k hk e => hS k hk (List.mem_append.2 (.inr (List.mem_append.2 (.inr (List.mem_append.2 (.inr (mem_ownL.2 e))))))))⟩
theorem SOwn.blk_ge (h : SOwn w B N r) : ∀ k ∈ blk r, B ≤ k := by
  intro k hk
  unfold blk at hk
  simp only [List.mem_append] at hk
  rcases hk with hk | hk | hk | hk
  · exact (h.s.lt k (mem_ownL.1 hk)).1
  · exact (h.f.lt k (mem_ownL.1 hk)).1
  · exact (h.q.lt k (mem_ownL.1 hk)).1
  · exact (h.i.lt k (mem_ownL.1 hk)).1
theorem SOwn.blk_ne (h : SOwn w B N r) {t : TypeId} {g : Nat} (hg : Ty w g t) (h1 : t ≠ 106) (h2 : t ≠ 108) (h3 : t ≠ 83) (h4 : t ≠ 3) : g ∉ blk r := by
  intro hk
  unfold blk at hk
  simp only [List.mem_append] at hk
  rcases hk with hk | hk | hk | hk
  · exact (own_ty h.s (mem_ownL.1 hk)).ne hg (fun e => h1 e.symm) rfl
  · exact (own_ty h.f (mem_ownL.1 hk)).ne hg (fun e => h2 e.symm) rfl
  · exact (own_ty h.q (mem_ownL.1 hk)).ne hg (fun e => h3 e.symm) rfl
  · exact (own_ty h.i (mem_ownL.1 hk)).ne hg (fun e => h4 e.symm) rfl
end
def qS : List Value := [.string ⟨#[63]⟩, .bool false, .int .i64 0, .slice none 0 0, .int .i64 0, .slice none 0 0, .slice none 0 0, .slice none 0 0, .bool false, .string ⟨#[]⟩, .string ⟨#[]⟩, .int .i64 0, .bool false, .int .i64 0, .int .i64 0]
def qRs : Rs := ⟨⟨⟨#[63]⟩, false, 0, [], ⟨0, [], []⟩, [], ⟨false, ⟨#[]⟩, ⟨#[]⟩, 0, false⟩, 0, 0⟩, none, 0, none, 0, none, 0, none, 0⟩
theorem lay_set (R : List Rs) (i : Nat) (x : Rs) (hi : i < R.length) : Enc.layL (eS.cells R) (i * 15) (eS.c x) = eS.cells (R.set i x) := by
  have hsp : eS.cells R = eS.cells (R.take i) ++ eS.c R[i] ++ eS.cells (R.drop (i + 1)) := by
    have h : R = R.take i ++ (R[i] :: R.drop (i + 1)) := by
      rw [← List.drop_eq_getElem_cons hi, List.take_append_drop]
    conv => lhs; rw [h]
    rw [eS.cells_app, eS.cells_cons, List.append_assoc]
  have hl : (eS.cells (R.take i)).length = i * 15 := by
    rw [eS.cells_length, List.length_take, Nat.min_eq_left (by omega)]
    rfl
  rw [hsp, ← hl, Enc.layL_app (eS.c x) (eS.cells (R.take i)) (eS.cells (R.drop (i + 1))) (eS.c R[i]) (by rw [eS.len, eS.len]), eS.cells_set R i x hi, List.append_assoc]
/-- What stands while a broker is written over, from session k on. -/
structure KJ (w wr : World) (B T : Nat) (sv kv : Value) (K : List Msg) : Prop where
  W : Whole wr T 26 [.slice none 0 0, sv, kv]
  b : Below B w wr
  k : wr.ownsRow B 83 4 kv K.length (eM.cells K)
def KS (wr : World) (B k : Nat) (sv : Value) (R : List Rs) : Prop := ∃ R2 : List Rs, R2.length = R.length ∧ (∀ i, k ≤ i → R2[i]? = R[i]?) ∧ wr.ownsRow B 61 15 sv R.length (eS.cells R2)
def KR (wr : World) (B k : Nat) (R : List Rs) : Prop := ∀ i x, k ≤ i → R[i]? = some x → SOwn wr B 0 x
section
variable {w wr w' : World} {B T k : Nat} {S : List Nat} {sv kv : Value} {R : List Rs} {K : List Msg} {x : Rs}
/-- Written over rows of session k alone: what is behind it stands. -/
theorem KJ.keep (h : KJ w wr B T sv kv K) (hs : KS wr B k sv R) (hr : KR wr B (k + 1) R) (hx : R[k]? = some x) (hp : R.Pairwise (fun x y => ∀ g ∈ blk x, g ∉ blk y)) (hq : ∀ x ∈ R, ∀ g ∈ blk x, g ∉ Value.ownL kv) (hB : B ≤ wr.heap.size)
    (hl : Left S wr w') (hS : ∀ g ∈ S, g ∈ blk x) (hge : ∀ g ∈ blk x, B ≤ g) (hT : T ∉ blk x) (hsv : ∀ g ∈ blk x, g ∉ Value.ownL sv) : KJ w w' B T sv kv K ∧ KS w' B k sv R ∧ KR w' B (k + 1) R := by
  refine ⟨⟨h.W.left hl (fun hm => hT (hS _ hm)), h.b.trans (hl.belowB hB (fun g hg => hge g (hS g hg))), own_leftB h.k hl (fun g hg e => hq x (List.mem_of_getElem? hx) g (hS g hg) (mem_ownL.2 e))⟩, ?_, fun i y hi hy => (hr i y hi hy).leftB hl (fun g hg => ?_)⟩
  · obtain ⟨R2, h1, h2, h3⟩ := hs
    exact ⟨R2, h1, h2, own_leftB h3 hl (fun g hg e => hsv g (hS g hg) (mem_ownL.2 e))⟩
  · obtain ⟨hi2, rfl⟩ := List.getElem?_eq_some_iff.1 hy
    obtain ⟨hk2, rfl⟩ := List.getElem?_eq_some_iff.1 hx
    exact (List.pairwise_iff_getElem.1 hp) k i hk2 hi2 (by omega) g (hS g hg)
end
theorem ks_cells {wr : World} {B k g n cap : Nat} {R : List Rs} {x : Rs} (h : KS wr B k (.slice (some ⟨g, 0, none⟩) n cap) R) (hx : R[k]? = some x) (hn : n = R.length) :
    wr.cell? ⟨g, k * 15, none⟩ = some (.string x.s.c) ∧ wr.cell? ⟨g, k * 15 + 1, none⟩ = some (.bool x.s.cl) ∧ wr.cell? ⟨g, k * 15 + 2, none⟩ = some (.int .i64 x.s.ln) ∧ wr.cell? ⟨g, k * 15 + 3, none⟩ = some (.slice x.sa x.s.S.length x.sc) ∧ wr.cell? ⟨g, k * 15 + 4, none⟩ = some (.int .i64 x.s.o.last) ∧
    wr.cell? ⟨g, k * 15 + 5, none⟩ = some (.slice x.fa x.s.o.F.length x.fc) ∧ wr.cell? ⟨g, k * 15 + 6, none⟩ = some (.slice x.qa x.s.o.Q.length x.qc) ∧ wr.cell? ⟨g, k * 15 + 7, none⟩ = some (.slice x.ia x.s.I.length x.ic) ∧ wr.cell? ⟨g, k * 15 + 8, none⟩ = some (.bool x.s.wl.is) ∧ wr.cell? ⟨g, k * 15 + 9, none⟩ = some (.string x.s.wl.t) ∧
    wr.cell? ⟨g, k * 15 + 10, none⟩ = some (.string x.s.wl.p) ∧ wr.cell? ⟨g, k * 15 + 11, none⟩ = some (.int .i64 x.s.wl.q) ∧ wr.cell? ⟨g, k * 15 + 12, none⟩ = some (.bool x.s.wl.r) ∧ wr.cell? ⟨g, k * 15 + 13, none⟩ = some (.int .i64 x.s.keep) ∧ wr.cell? ⟨g, k * 15 + 14, none⟩ = some (.int .i64 x.s.idle) := by
  obtain ⟨R2, e1, e2, ho⟩ := h
  subst hn
  rw [← e1] at ho
  obtain ⟨b, o, he, _, hcs⟩ := Enc.rd_cell (E := eS) (Rd.of_own ho) rfl ((e2 k (Nat.le_refl _)).trans hx)
  injection he with he
  injection he with h1 h2
  subst h1 h2
  exact ses_cells (show World.rangeAt _ g (k * 15) (eS.c x) from fun j v hv => by have := hcs j v hv; rw [Nat.zero_add] at this; exact this)
def NoLong (R : List Rs) : Prop := ∀ x ∈ R, x.s.S.length ≤ 1000000 ∧ x.s.o.F.length ≤ 1000000 ∧ x.s.o.Q.length ≤ 1000000 ∧ x.s.I.length ≤ 1000000
set_option maxRecDepth 20000 in
set_option maxHeartbeats 8000000 in
theorem kBro_any (w : World) (B : Nat) (sv kv : Value) (R : List Rs) (K : List Msg) (h : BOwn w B sv kv R K) (hB : B ≤ w.heap.size) (hn : R.length ≤ 1000000 ∧ K.length ≤ 1000000) (hN : NoLong R) :
    Calls Tryz.prog 13 #[.agg #[.slice none 0 0, sv, kv]] w fun e w' => e = .returned (.tuple #[]) ∧ Below B w w' := by
  obtain ⟨hn1, hn2⟩ := hn
  obtain ⟨so, sc, rfl, _, hsm⟩ := (Rd.of_own h.s).form
  obtain ⟨ko, kc, rfl, _, _⟩ := (Rd.of_own h.k).form
  have hsc : sc ≤ 9223372036854775807 := by unfold maxLen at hsm; omega
  obtain ⟨T, hT⟩ : ∃ T, w.heap.size = T := ⟨_, rfl⟩
  obtain ⟨wa, hwa⟩ : ∃ wa, w.alloc (.cells #[.slice none 0 0, .slice so R.length sc, .slice ko K.length kc] 26) = wa := ⟨_, rfl⟩
  have hb0 : Below w.heap.size w wa := by rw [← hwa]; exact (Below.refl _ _).alloc (Nat.le_refl _) _
  have hW : Whole wa T 26 [.slice none 0 0, .slice so R.length sc, .slice ko K.length kc] := by rw [← hwa, ← hT]; exact Whole.new w 26 _
  have hBT : B ≤ T := by omega
  have HJ0 : Hid (KJ w wa B T (.slice so R.length sc) (.slice ko K.length kc) K ∧ KS wa B 0 (.slice so R.length sc) R ∧ KR wa B 0 R) := Lib.hid
    ⟨⟨hW, hb0.mono hB, own_below h.k hb0⟩, ⟨R, rfl, fun i _ => rfl, own_below h.s hb0⟩, fun i x _ hx => (h.r x (List.mem_of_getElem? hx)).left (Left.of_below hb0 []) (by simp)⟩
  have HP := Lib.hid h.p
  have HQ := Lib.hid h.q
  have HTB : Hid (∀ x ∈ R, T ∉ blk x ∧ (∀ g ∈ blk x, B ≤ g) ∧ ∀ g ∈ blk x, g ∉ Value.ownL (.slice so R.length sc)) := Lib.hid (fun x hx => by
    have hxo := h.r x hx
    refine ⟨(hxo.left (Left.of_below hb0 []) (by simp)).blk_ne ⟨_, _, hW⟩ (by decide) (by decide) (by decide) (by decide), hxo.blk_ge, fun g hg e => ?_⟩
    exact hxo.blk_ne (own_ty h.s (mem_ownL.1 e)) (by decide) (by decide) (by decide) (by decide) hg)
  have HNN := Lib.hid hN
  have HWA := Lib.hid hwa
  have HTT := Lib.hid hT
  have HTS : Hid (∀ wx, KJ w wx B T (.slice so R.length sc) (.slice ko K.length kc) K → T + 1 ≤ wx.heap.size) := Lib.hid (fun wx hx => hx.W.lt)
  have HNUM := Lib.hid (Nums_left wa B (.slice none 0 0) 0 [] (World.ownsRow_nil _ _ _ _) (by have := hb0.size; omega) (by omega))
  obtain ⟨c0, c1, c2, _, _, _⟩ := hW.three
  clear h hb0 hW hN hsm hwa hT
  go_enter Tryz.func13, Tryz.ntmps13
  go_upto_region 1 with fail
  rw [HWA.out, HTT.out]
  go_upto_region 2 with (go_at_call 32; refine HNUM.out.mono ?_; rintro e w1 ⟨rfl, hl1⟩)
  have hb1 : Below wa.heap.size wa w1 := Left.below (by simpa [Value.ownL, Value.ownBlock] using hl1)
  have HJ1 : Hid (KJ w w1 B T (.slice so R.length sc) (.slice ko K.length kc) K ∧ KS w1 B 0 (.slice so R.length sc) R ∧ KR w1 B 0 R) := Lib.hid (by
    obtain ⟨h1, ⟨R2, e1, e2, h2⟩, h3⟩ := HJ0.out
    exact ⟨⟨h1.W.belowH hb1, h1.b.trans (hb1.mono (by have := h1.b.size; omega)), own_below h1.k hb1⟩, ⟨R2, e1, e2, own_below h2 hb1⟩, fun i x hi hx => (h3 i x hi hx).left (Left.of_below hb1 []) (by simp)⟩)
  clear c0 c1 c2 hl1 hb1 HJ0 HNUM
  go_wp2
  go_loopw [2] (fun i wr => ∃ k : Nat, k ≤ R.length ∧ i = .int .i64 k ∧ Hid (KJ w wr B T (.slice so R.length sc) (.slice ko K.length kc) K ∧ KS wr B k (.slice so R.length sc) R ∧ KR wr B k R)) (fun i _ => R.length - (intOf i).toNat)
  case atStart => exact ⟨0, by omega, rfl, HJ1⟩
  case round =>
    clear HJ1
    obtain ⟨k, hk, rfl, HJ⟩ := hrel
    have hBw : Hid (B ≤ wr.heap.size) := Lib.hid (by have := HTS.out _ HJ.out.1; omega)
    obtain ⟨c0, c1, c2, _, _, _⟩ := HJ.out.1.W.three
    by_cases hlt : k < R.length
    · have hlt' : (k : Int) < (R.length : Int) := by omega
      obtain ⟨x, hx⟩ : ∃ x, R[k]? = some x := ⟨_, List.getElem?_eq_getElem hlt⟩
      have hxm := List.mem_of_getElem? hx
      obtain ⟨g, rfl⟩ : ∃ g, so = some ⟨g, 0, none⟩ := by
        obtain ⟨R2, e1, e2, ho⟩ := HJ.out.2.1
        obtain ⟨g, cap', e, _⟩ := Enc.own_form ho (by omega)
        injection e with e
        exact ⟨g, e⟩
      have hso := HJ.out.2.2 k x (Nat.le_refl _) hx
      obtain ⟨hTx, hge, hsv⟩ := HTB.out x hxm
      obtain ⟨n1, n2, n3, n4⟩ := HNN.out x hxm
      have HX := Lib.hid hx
      have HSO := Lib.hid hso
      have HSET := Lib.hid (And.intro hTx (And.intro hge hsv))
      have HKR : Hid (KR wr B (k + 1) R) := Lib.hid (fun i y hi hy => HJ.out.2.2 i y (by omega) hy)
      have HWI := Lib.hid (Wis_left wr B _ _ _ hso.s hBw.out (by omega))
      obtain ⟨x0, x1, x2, x3, x4, x5, x6, x7, x8, x9, x10, x11, x12, x13, x14⟩ := ks_cells HJ.out.2.1 hx (by omega)
      clear hx hxm hso hTx hge hsv
      go_upto_region 6 with (go_at_call 33; refine HWI.out.mono ?_; rintro e w2 ⟨rfl, hl2⟩)
      have HJ2 := Lib.hid (HJ.out.1.keep HJ.out.2.1 HKR.out HX.out HP.out HQ.out hBw.out hl2 (fun g hg => List.mem_append.2 (.inl hg)) HSET.out.2.1 HSET.out.1 HSET.out.2.2)
      have hf2 := own_leftB HSO.out.f hl2 (fun k hk e => (own_ty HSO.out.f e).ne (own_ty HSO.out.s (mem_ownL.1 hk)) (by decide) rfl)
      have hq2 := own_leftB HSO.out.q hl2 (fun k hk e => (own_ty HSO.out.q e).ne (own_ty HSO.out.s (mem_ownL.1 hk)) (by decide) rfl)
      have hi2 := own_leftB HSO.out.i hl2 (fun k hk e => (own_ty HSO.out.i e).ne (own_ty HSO.out.s (mem_ownL.1 hk)) (by decide) rfl)
      have hB2 : Hid (B ≤ w2.heap.size) := Lib.hid (by have := HTS.out _ HJ2.out.1; omega)
      have HOB := Lib.hid (Ob_left w2 B x.s.o.last _ _ _ _ _ _ hf2 hq2 hB2.out (by omega) (by omega))
      have HI2 := Lib.hid hi2
      have HF2 := Lib.hid hf2
      have HQ2 := Lib.hid hq2
      clear x0 x1 x2 x3 x4 x5 x6 x7 x8 x9 x10 x11 x12 x13 x14 c0 c1 c2 hl2 hf2 hq2 hi2 HWI
      obtain ⟨c0, c1, c2, _, _, _⟩ := HJ2.out.1.W.three
      obtain ⟨x0, x1, x2, x3, x4, x5, x6, x7, x8, x9, x10, x11, x12, x13, x14⟩ := ks_cells HJ2.out.2.1 HX.out (by omega)
      go_upto_region 7 with (go_at_call 34; refine HOB.out.mono ?_; rintro e w3 ⟨rfl, hl3⟩)
      have HJ3 := Lib.hid (HJ2.out.1.keep HJ2.out.2.1 HJ2.out.2.2 HX.out HP.out HQ.out hB2.out hl3 (fun g hg => by
        rcases List.mem_append.1 hg with h | h
        · exact List.mem_append.2 (.inr (List.mem_append.2 (.inl h)))
        · exact List.mem_append.2 (.inr (List.mem_append.2 (.inr (List.mem_append.2 (.inl h)))))) HSET.out.2.1 HSET.out.1 HSET.out.2.2)
      have hi3 := own_leftB HI2.out hl3 (fun k hk e => by
        rcases List.mem_append.1 hk with h | h
        · exact (own_ty HI2.out e).ne (own_ty HF2.out (mem_ownL.1 h)) (by decide) rfl
        · exact (own_ty HI2.out e).ne (own_ty HQ2.out (mem_ownL.1 h)) (by decide) rfl)
      have hB3 : Hid (B ≤ w3.heap.size) := Lib.hid (by have := HTS.out _ HJ3.out.1; omega)
      have HNU := Lib.hid (Nums_left w3 B _ _ _ hi3 hB3.out (by omega))
      clear x0 x1 x2 x3 x4 x5 x6 x7 x8 x9 x10 x11 x12 x13 x14 c0 c1 c2 hl3 hi3 HOB
      obtain ⟨c0, c1, c2, _, _, _⟩ := HJ3.out.1.W.three
      obtain ⟨x0, x1, x2, x3, x4, x5, x6, x7, x8, x9, x10, x11, x12, x13, x14⟩ := ks_cells HJ3.out.2.1 HX.out (by omega)
      go_upto_region 8 with (go_at_call 32; refine HNU.out.mono ?_; rintro e w4 ⟨rfl, hl4⟩)
      have HJ4 := Lib.hid (HJ3.out.1.keep HJ3.out.2.1 HJ3.out.2.2 HX.out HP.out HQ.out hB3.out hl4 (fun g hg => List.mem_append.2 (.inr (List.mem_append.2 (.inr (List.mem_append.2 (.inr hg)))))) HSET.out.2.1 HSET.out.1 HSET.out.2.2)
      clear x0 x1 x2 x3 x4 x5 x6 x7 x8 x9 x10 x11 x12 x13 x14 c0 c1 c2 hl4 HNU
      obtain ⟨c0, c1, c2, _, _, _⟩ := HJ4.out.1.W.three
      obtain ⟨x0, x1, x2, x3, x4, x5, x6, x7, x8, x9, x10, x11, x12, x13, x14⟩ := ks_cells HJ4.out.2.1 HX.out (by omega)
      have hfr : ∀ j, w4.frozen? ⟨g, j, none⟩ = false := by
        obtain ⟨R2, e1, e2, ho⟩ := HJ4.out.2.1
        exact fun j => ho.frozenAt j
      obtain ⟨f0, f1, f2, f3, f4, f5, f6, f7, f8, f9, f10, f11, f12, f13, f14⟩ := And.intro (hfr (k * 15)) (And.intro (hfr (k * 15 + 1)) (And.intro (hfr (k * 15 + 2)) (And.intro (hfr (k * 15 + 3)) (And.intro (hfr (k * 15 + 4)) (And.intro (hfr (k * 15 + 5)) (And.intro (hfr (k * 15 + 6)) (And.intro (hfr (k * 15 + 7)) (And.intro (hfr (k * 15 + 8)) (And.intro (hfr (k * 15 + 9)) (And.intro (hfr (k * 15 + 10)) (And.intro (hfr (k * 15 + 11)) (And.intro (hfr (k * 15 + 12)) (And.intro (hfr (k * 15 + 13)) (hfr (k * 15 + 14)))))))))))))))
      have HJ5 : Hid (KJ w (w4.setCells g (k * 15) qS) B T (.slice (some ⟨g, 0, none⟩) R.length sc) (.slice ko K.length kc) K ∧ KS (w4.setCells g (k * 15) qS) B (k + 1) (.slice (some ⟨g, 0, none⟩) R.length sc) R ∧ KR (w4.setCells g (k * 15) qS) B (k + 1) R) := Lib.hid (by
        obtain ⟨hj, ⟨R2, e1, e2, ho⟩, hr⟩ := HJ4.out
        obtain ⟨o5, g5⟩ := Enc.own_setCells qS (k * 15) (eS.cells R2) w4 ho
        have hl5 := left_of_grown (v := .slice (some ⟨g, 0, none⟩) R.length sc) g5
        have hgs : ∀ q ∈ Value.ownL (.slice (some ⟨g, 0, none⟩) R.length sc), Ty w4 q 61 := fun q hq => own_ty ho (mem_ownL.1 hq)
        have hBg : B ≤ g := (ho.lt g rfl).1
        refine ⟨⟨hj.W.left hl5 (fun hm => (show Ty w4 T 26 from ⟨_, _, hj.W⟩).ne (hgs _ hm) (by decide) rfl), hj.b.trans (hl5.belowB (by have := HTS.out _ hj; omega) (fun q hq => by have := mem_ownL.1 hq; simp only [Value.ownBlock] at this; injection this with this; omega)), own_leftB hj.k hl5 (fun q hq e => (own_ty hj.k e).ne (hgs q hq) (by decide) rfl)⟩, ⟨R2.set k qRs, by rw [List.length_set]; exact e1, fun i hi => by rw [List.getElem?_set_ne (by omega)]; exact e2 i (by omega), ?_⟩, fun i y hi hy => (hr i y hi hy).ty hl5 hgs⟩
        rw [← lay_set R2 k qRs (by omega)]
        exact o5)
      clear hfr
      go_wp2
      go_roundw
      case rel => exact ⟨k + 1, by omega, by go_num, HJ5⟩
      case measure => simp [intOf]; omega
    · have hlt' : ¬ ((k : Int) < (R.length : Int)) := by omega
      have HMS := Lib.hid (Mss_left wr B _ _ _ HJ.out.1.k hBw.out (by omega))
      have HKB : Hid (∀ g ∈ Value.ownL (.slice ko K.length kc), B ≤ g) := Lib.hid (fun g hg => (HJ.out.1.k.lt g (mem_ownL.1 hg)).1)
      have HBB := Lib.hid HJ.out.1.b
      go_wp2_with (go_at_call 35; refine HMS.out.mono ?_; rintro e w1 ⟨rfl, hl1⟩)
      go_end0
      exact ⟨rfl, HBB.out.trans (hl1.belowB hBw.out HKB.out)⟩
end Go.Proofs.YtknnaeejkmlnbaaGreatDoor
namespace Go.Proofs.YtknnaeejkmlnbaaGreatDoor
section
variable {P : Program} {ops : Array Oper} {Q : Exit → Act → World → Prop} {md : Region.Mode} {S : World → Prop} {k : Nat}
end
end Go.Proofs.YtknnaeejkmlnbaaGreatDoor
namespace Go.Proofs.YtknnaeejkmlnbaaGreatDoor
open Go.RowKit
set_option maxHeartbeats 400000 in
theorem CloneI_any (w : World) (v : Value) (n : Nat) (xs : List Value) (h : Rd w w.heap.size 1 v n xs) (h1 : ∀ u ∈ xs, u.oneCell' = true) (hn : n ≤ 1048576) :
    Calls Tryz.prog 68 #[v] w fun e w' => ∃ v', e = .returned v' ∧ w'.ownsRow w.heap.size 3 1 v' n xs ∧ Below w.heap.size w w' := by
  obtain ⟨ao, cap, rfl, hc, hm⟩ := h.form
  clear hm
  rcases ao with _ | ad
  · obtain ⟨hl, ao', cap', e', h3, _, h5, _⟩ := h
    injection e' with e1 _ e3
    subst e1 e3
    have hc0 := h5 rfl
    subst hc0
    have hn0 : n = 0 := by omega
    subst hn0
    have hx : xs = [] := List.eq_nil_of_length_eq_zero (by omega)
    subst hx
    clear h5 hl hc h1 h3 hn
    have hnil := fun w => Lib.run_eql_slice_nil (P := Tryz.prog) w 22 3 none 0 0 0 0 Tryz.underlying22
    go_enter Tryz.func68, Tryz.ntmps68
    go_wp2
    go_ret
    exact ⟨_, rfl, World.ownsRow_nil _ _ _ _, Below.refl _ _⟩
  · have hnil := fun w => Lib.run_eql_slice_nil (P := Tryz.prog) w 22 3 (some ad) n cap 0 0 Tryz.underlying22
    have H := Lib.hid h
    have H1 := Lib.hid h1
    clear h h1
    go_enter Tryz.func68, Tryz.ntmps68
    go_wp2_with (at_builtin; refine wpList_app _ rfl (.tmp 5) (.tmp 6) _ rfl w.heap.size 3 (.int .i64 0) 1 8 Tryz.underlying22 inf_I rfl (by omega) (.slice (some ⟨w.heap.size, 0, none⟩) 0 0) 0 [] rfl (World.ownsRow_made w #[] 0 (Nat.le_refl _) (by unfold maxLen; omega) rfl) w.heap.size _ n xs rfl (H.out.below ((Below.refl _ _).alloc (Nat.le_refl _) _)) H1.out ?_ ?_ (by simp) ?_; unfold maxLen; omega; omega; intro v1 w1 hown hg hat; have hb1 := ((Below.refl w.heap.size w).alloc (Nat.le_refl _) (.cells #[] 3)).grown hg (by simp) (by simp [Value.ownBlock]))
    go_ret
    exact ⟨v1, rfl, by simpa using hown, hb1⟩
set_option maxHeartbeats 400000 in
theorem CloneW_any (w : World) (v : Value) (n : Nat) (xs : List Value) (h : Rd w w.heap.size 2 v n xs) (h1 : ∀ u ∈ xs, u.oneCell' = true) (hn : n ≤ 1048576) :
    Calls Tryz.prog 71 #[v] w fun e w' => ∃ v', e = .returned v' ∧ w'.ownsRow w.heap.size 106 2 v' n xs ∧ Below w.heap.size w w' := by
  obtain ⟨ao, cap, rfl, hc, hm⟩ := h.form
  clear hm
  rcases ao with _ | ad
  · obtain ⟨hl, ao', cap', e', h3, _, h5, _⟩ := h
    injection e' with e1 _ e3
    subst e1 e3
    have hc0 := h5 rfl
    subst hc0
    have hn0 : n = 0 := by omega
    subst hn0
    have hx : xs = [] := List.eq_nil_of_length_eq_zero (by omega)
    subst hx
    clear h5 hl hc h1 h3 hn
    have hnil := fun w => Lib.run_eql_slice_nil (P := Tryz.prog) w 45 106 none 0 0 0 0 Tryz.underlying45
    go_enter Tryz.func71, Tryz.ntmps71
    go_wp2
    go_ret
    exact ⟨_, rfl, World.ownsRow_nil _ _ _ _, Below.refl _ _⟩
  · have hnil := fun w => Lib.run_eql_slice_nil (P := Tryz.prog) w 45 106 (some ad) n cap 0 0 Tryz.underlying45
    have H := Lib.hid h
    have H1 := Lib.hid h1
    clear h h1
    go_enter Tryz.func71, Tryz.ntmps71
    go_wp2_with (at_builtin; refine wpList_app _ rfl (.tmp 5) (.tmp 6) _ rfl w.heap.size 106 (.agg #[.string ⟨#[]⟩, .int .i64 0]) 2 24 Tryz.underlying45 inf_W rfl (by omega) (.slice (some ⟨w.heap.size, 0, none⟩) 0 0) 0 [] rfl (World.ownsRow_made w #[] 0 (Nat.le_refl _) (by unfold maxLen; omega) rfl) w.heap.size _ n xs rfl (H.out.below ((Below.refl _ _).alloc (Nat.le_refl _) _)) H1.out ?_ ?_ (by simp) ?_; unfold maxLen; omega; omega; intro v1 w1 hown hg hat; have hb1 := ((Below.refl w.heap.size w).alloc (Nat.le_refl _) (.cells #[] 106)).grown hg (by simp) (by simp [Value.ownBlock]))
    go_ret
    exact ⟨v1, rfl, by simpa using hown, hb1⟩
set_option maxHeartbeats 400000 in
theorem CloneS_any (w : World) (v : Value) (n : Nat) (xs : List Value) (h : Rd w w.heap.size 15 v n xs) (h1 : ∀ u ∈ xs, u.oneCell' = true) (hn : n ≤ 1048576) :
    Calls Tryz.prog 70 #[v] w fun e w' => ∃ v', e = .returned v' ∧ w'.ownsRow w.heap.size 61 15 v' n xs ∧ Below w.heap.size w w' := by
  obtain ⟨ao, cap, rfl, hc, hm⟩ := h.form
  clear hm
  rcases ao with _ | ad
  · obtain ⟨hl, ao', cap', e', h3, _, h5, _⟩ := h
    injection e' with e1 _ e3
    subst e1 e3
    have hc0 := h5 rfl
    subst hc0
    have hn0 : n = 0 := by omega
    subst hn0
    have hx : xs = [] := List.eq_nil_of_length_eq_zero (by omega)
    subst hx
    clear h5 hl hc h1 h3 hn
    have hnil := fun w => Lib.run_eql_slice_nil (P := Tryz.prog) w 23 61 none 0 0 0 0 Tryz.underlying23
    go_enter Tryz.func70, Tryz.ntmps70
    go_wp2
    go_ret
    exact ⟨_, rfl, World.ownsRow_nil _ _ _ _, Below.refl _ _⟩
  · have hnil := fun w => Lib.run_eql_slice_nil (P := Tryz.prog) w 23 61 (some ad) n cap 0 0 Tryz.underlying23
    have H := Lib.hid h
    have H1 := Lib.hid h1
    clear h h1
    go_enter Tryz.func70, Tryz.ntmps70
    go_wp2_with (at_builtin; refine wpList_app _ rfl (.tmp 5) (.tmp 6) _ rfl w.heap.size 61 (.agg #[.string ⟨#[]⟩, .bool false, .int .i64 0, .slice none 0 0, .int .i64 0, .slice none 0 0, .slice none 0 0, .slice none 0 0, .bool false, .string ⟨#[]⟩, .string ⟨#[]⟩, .int .i64 0, .bool false, .int .i64 0, .int .i64 0]) 15 208 Tryz.underlying23 inf_S rfl (by omega) (.slice (some ⟨w.heap.size, 0, none⟩) 0 0) 0 [] rfl (World.ownsRow_made w #[] 0 (Nat.le_refl _) (by unfold maxLen; omega) rfl) w.heap.size _ n xs rfl (H.out.below ((Below.refl _ _).alloc (Nat.le_refl _) _)) H1.out ?_ ?_ (by simp) ?_; unfold maxLen; omega; omega; intro v1 w1 hown hg hat; have hb1 := ((Below.refl w.heap.size w).alloc (Nat.le_refl _) (.cells #[] 61)).grown hg (by simp) (by simp [Value.ownBlock]))
    go_ret
    exact ⟨v1, rfl, by simpa using hown, hb1⟩
theorem lay_rows (R : List Rs) (i : Nat) (x : Rs) (hx : R[i]? = some x) (a fa qa ia : Option Addr) (c fc qc ic : Nat) :
    Enc.layL (eS.cells R) (i * 15 + 3) [.slice a x.s.S.length c, .int .i64 x.s.o.last, .slice fa x.s.o.F.length fc, .slice qa x.s.o.Q.length qc, .slice ia x.s.I.length ic] = eS.cells (R.set i ⟨x.s, a, c, fa, fc, qa, qc, ia, ic⟩) := by
  obtain ⟨hi, rfl⟩ := List.getElem?_eq_some_iff.1 hx
  have hsp : eS.cells R = eS.cells (R.take i) ++ (seC R[i] ++ eS.cells (R.drop (i + 1))) := by
    have h : R = R.take i ++ (R[i] :: R.drop (i + 1)) := by
      rw [← List.drop_eq_getElem_cons hi, List.take_append_drop]
    conv => lhs; rw [h]
    rw [eS.cells_app, eS.cells_cons]
    rfl
  have hl : (eS.cells (R.take i)).length = i * 15 := by
    rw [eS.cells_length, List.length_take, Nat.min_eq_left (by omega)]
    rfl
  rw [eS.cells_set R i _ hi, hsp]
  obtain ⟨A, hA⟩ : ∃ A, eS.cells (R.take i) = A := ⟨_, rfl⟩
  obtain ⟨D, hD⟩ : ∃ D, eS.cells (R.drop (i + 1)) = D := ⟨_, rfl⟩
  obtain ⟨x, hx2⟩ : ∃ x, R[i] = x := ⟨_, rfl⟩
  rw [hA] at hl ⊢
  rw [hD, hx2]
  have := Enc.layL_app [.slice a x.s.S.length c, .int .i64 x.s.o.last, .slice fa x.s.o.F.length fc, .slice qa x.s.o.Q.length qc, .slice ia x.s.I.length ic] (A ++ [.string x.s.c, .bool x.s.cl, .int .i64 x.s.ln])
    ([.bool x.s.wl.is, .string x.s.wl.t, .string x.s.wl.p, .int .i64 x.s.wl.q, .bool x.s.wl.r, .int .i64 x.s.keep, .int .i64 x.s.idle] ++ D) [.slice x.sa x.s.S.length x.sc, .int .i64 x.s.o.last, .slice x.fa x.s.o.F.length x.fc, .slice x.qa x.s.o.Q.length x.qc, .slice x.ia x.s.I.length x.ic] rfl
  rw [List.length_append, hl] at this
  simpa [seC, eS, List.append_assoc] using this
/-- While sessions are made one's own: k are. -/
structure BI (w wr : World) (B k : Nat) (lv sv kv : Value) (L : List Int) (R : List Rs) (K : List Msg) (R2 : List Rs) : Prop where
  A : Whole wr B 26 [lv, sv, kv]
  Z : Whole wr (B + 1) 26 [.slice none 0 0, .slice none 0 0, .slice none 0 0]
  l : wr.ownsRow (B + 2) 3 1 lv L.length (eI.cells L)
  s : wr.ownsRow (B + 2) 61 15 sv R2.length (eS.cells R2)
  kk : wr.ownsRow (B + 2) 83 4 kv K.length (eM.cells K)
  m : R2.map (·.s) = R.map (·.s)
  t : ∀ i, k ≤ i → R2[i]? = R[i]?
  r : ∀ i x, i < k → R2[i]? = some x → SOwn wr (B + 2) 0 x
  p : (R2.take k).Pairwise (fun x y => ∀ g ∈ blk x, g ∉ blk y)
  q : ∀ x ∈ R2.take k, ∀ g ∈ blk x, g ∉ Value.ownL kv
  b : Below B w wr
set_option maxRecDepth 20000 in
set_option maxHeartbeats 8000000 in
theorem bOwn_any (w : World) (lv sv kv : Value) (R : List Rs) (b : Br) (h : BRd w w.heap.size lv sv kv R b) (hn : b.L.length ≤ 1000000 ∧ R.length ≤ 1000000 ∧ b.K.length ≤ 1000000) (hN : ∀ x ∈ R, x.s.S.length ≤ 100000 ∧ x.s.o.F.length ≤ 100000 ∧ x.s.o.Q.length ≤ 100000 ∧ x.s.I.length ≤ 100000) :
    Calls Tryz.prog 43 #[.agg #[lv, sv, kv]] w fun e w' => ∃ lv' sv' kv', e = .returned (.agg #[lv', sv', kv']) ∧ (∃ R2 : List Rs, R2.map (·.s) = b.S ∧ w'.ownsRow w.heap.size 3 1 lv' b.L.length (eI.cells b.L) ∧ BOwn w' w.heap.size sv' kv' R2 b.K) ∧ Below w.heap.size w w' := by
  obtain ⟨L, S, K⟩ := b
  obtain ⟨hRe, hRl, hRs, hRr, hRk⟩ := h
  obtain ⟨hn1, hn2, hn3⟩ := hn
  simp only at hRe hRl hRk hn1 hn3
  subst hRe
  obtain ⟨la, lc, rfl, _, _⟩ := hRl.form
  obtain ⟨sa, sc, rfl, _, _⟩ := hRs.form
  obtain ⟨ka, kc, rfl, _, _⟩ := hRk.form
  obtain ⟨B, hB⟩ : ∃ B, w.heap.size = B := ⟨_, rfl⟩
  obtain ⟨w1, hw1⟩ : ∃ w1, (w.alloc (.cells #[.slice la L.length lc, .slice sa R.length sc, .slice ka K.length kc] 26)).alloc (.cells #[.slice none 0 0, .slice none 0 0, .slice none 0 0] 26) = w1 := ⟨_, rfl⟩
  have hb1 : Below w.heap.size w w1 := by rw [← hw1]; go_grown
  have hz1 : w1.heap.size = B + 2 := by rw [← hw1]; simp [hB]
  have hA1 : Whole w1 B 26 [.slice la L.length lc, .slice sa R.length sc, .slice ka K.length kc] := by rw [← hw1, ← hB]; exact (Whole.new w 26 _).alloc _
  have hR1 : Whole w1 (B + 1) 26 [.slice none 0 0, .slice none 0 0, .slice none 0 0] := by
    rw [← hw1, ← hB]
    have := Whole.new (w.alloc (.cells #[.slice la L.length lc, .slice sa R.length sc, .slice ka K.length kc] 26)) 26 [.slice none 0 0, .slice none 0 0, .slice none 0 0]
    simpa using this
  have HCI := Lib.hid (fun wx (hx : Below w.heap.size w wx) => CloneI_any wx _ _ _ ((hRl.below hx).more hx.size) (eI.cells_oneCell L) (by omega))
  have HCM := Lib.hid (fun wx (hx : Below w.heap.size w wx) => CloneM_any wx _ _ _ ((hRk.below hx).more hx.size) (eM.cells_oneCell K) (by omega))
  have HCS := Lib.hid (fun wx (hx : Below w.heap.size w wx) => CloneS_any wx _ _ _ ((hRs.below hx).more hx.size) (eS.cells_oneCell R) (by omega))
  have HRR := Lib.hid (fun x (hm : x ∈ R) wx (hx : Below w.heap.size w wx) => ((hRr x hm).below hx).more hx.size)
  have HN := Lib.hid hN
  have HW1 := Lib.hid hw1
  have HBB := Lib.hid hB
  obtain ⟨a0, a1, a2, _, _, _⟩ := hA1.three
  have HA1 := Lib.hid (fun wx (hx : Below w1.heap.size w1 wx) => hA1.belowH hx)
  have HR1 := Lib.hid (fun wx (hx : Below w1.heap.size w1 wx) => hR1.belowH hx)
  have HB1 := Lib.hid hb1
  have HZ1 := Lib.hid hz1
  clear hRl hRs hRr hRk hN hw1 hA1 hR1
  go_enter Tryz.func43, Tryz.ntmps43
  go_upto_region 1 with fail
  rw [HW1.out]
  clear hz1 hB
  refine region_k 10 (S := fun wx => wx.cell? ⟨B, 0, none⟩ = some (.slice la L.length lc) ∧ wx.cell? ⟨B, 1, none⟩ = some (.slice sa R.length sc) ∧ wx.cell? ⟨B, 2, none⟩ = some (.slice ka K.length kc)) (by kernel_rfl) ⟨a0, a1, a2⟩ (fun hHeld => ?_)
  have hd1 := (Below.refl w1.heap.size w1).drew
  refine take_kp 0 ⟨?_, ?_, ?_, by kernel_rfl, by kernel_rfl, by kernel_rfl, ⟨by kernel_rfl, by kernel_rfl⟩, ?_, ?_, by assumption, ?_⟩
  rotate_left 2
  · (simp only [List.getElem?_toArray, List.getElem?_cons_succ, List.getElem?_cons_zero]; exact rfl)
  · exact fun _ _ _ h => h
  · first
      | (refine Or.inr ⟨by rfl, ?_⟩; exact rfl)
      | (refine Or.inl ⟨by rfl, ?_⟩
         intro w hSw
         (try dsimp only at hSw)
         (try go_split_ands)
         go_simp
         (first | done | with_reducible rfl))
  try simp only [aPt]
  refine take_kl 1 ⟨?_, ?_, ?_, by kernel_rfl, by kernel_rfl, by kernel_rfl, ⟨by kernel_rfl, by kernel_rfl, by kernel_rfl⟩, ?_, ?_, by assumption, ?_⟩
  rotate_left 2
  · (simp only [List.getElem?_toArray, List.getElem?_cons_succ, List.getElem?_cons_zero]; exact rfl)
  · exact fun _ _ _ h => h
  · first
      | (refine Or.inr ⟨by rfl, ?_⟩; exact rfl)
      | (refine Or.inl ⟨by rfl, ?_⟩
         intro w hSw
         (try dsimp only at hSw)
         (try go_split_ands)
         go_simp
         (first | done | with_reducible rfl))
  try simp only [aPt]
  refine take_kp 3 ⟨?_, ?_, ?_, by kernel_rfl, by kernel_rfl, by kernel_rfl, ⟨by kernel_rfl, by kernel_rfl⟩, ?_, ?_, by assumption, ?_⟩
  rotate_left 2
  · (simp only [List.getElem?_toArray, List.getElem?_cons_succ, List.getElem?_cons_zero]; exact rfl)
  · exact fun _ _ _ h => h
  · first
      | (refine Or.inr ⟨by rfl, ?_⟩; exact rfl)
      | (refine Or.inl ⟨by rfl, ?_⟩
         intro w hSw
         (try dsimp only at hSw)
         (try go_split_ands)
         go_simp
         (first | done | with_reducible rfl))
  try simp only [aPt]
  refine take_kl 4 ⟨?_, ?_, ?_, by kernel_rfl, by kernel_rfl, by kernel_rfl, ⟨by kernel_rfl, by kernel_rfl, by kernel_rfl⟩, ?_, ?_, by assumption, ?_⟩
  rotate_left 2
  · (simp only [List.getElem?_toArray, List.getElem?_cons_succ, List.getElem?_cons_zero]; exact rfl)
  · exact fun _ _ _ h => h
  · first
      | (refine Or.inr ⟨by rfl, ?_⟩; exact rfl)
      | (refine Or.inl ⟨by rfl, ?_⟩
         intro w hSw
         (try dsimp only at hSw)
         (try go_split_ands)
         go_simp
         (first | done | with_reducible rfl))
  try simp only [aPt]
  refine take_kp 6 ⟨?_, ?_, ?_, by kernel_rfl, by kernel_rfl, by kernel_rfl, ⟨by kernel_rfl, by kernel_rfl⟩, ?_, ?_, by assumption, ?_⟩
  rotate_left 2
  · (simp only [List.getElem?_toArray, List.getElem?_cons_succ, List.getElem?_cons_zero]; exact rfl)
  · exact fun _ _ _ h => h
  · first
      | (refine Or.inr ⟨by rfl, ?_⟩; exact rfl)
      | (refine Or.inl ⟨by rfl, ?_⟩
         intro w hSw
         (try dsimp only at hSw)
         (try go_split_ands)
         go_simp
         (first | done | with_reducible rfl))
  try simp only [aPt]
  refine take_kl 7 ⟨?_, ?_, ?_, by kernel_rfl, by kernel_rfl, by kernel_rfl, ⟨by kernel_rfl, by kernel_rfl, by kernel_rfl⟩, ?_, ?_, by assumption, ?_⟩
  rotate_left 2
  · (simp only [List.getElem?_toArray, List.getElem?_cons_succ, List.getElem?_cons_zero]; exact rfl)
  · exact fun _ _ _ h => h
  · first
      | (refine Or.inr ⟨by rfl, ?_⟩; exact rfl)
      | (refine Or.inl ⟨by rfl, ?_⟩
         intro w hSw
         (try dsimp only at hSw)
         (try go_split_ands)
         go_simp
         (first | done | with_reducible rfl))
  try simp only [aPt]
  refine call_k 2 (by kernel_rfl) ⟨?_, ?_, fun K hK => ?_⟩
  rotate_left 1
  · (simp only [List.getElem?_toArray, List.getElem?_cons_succ, List.getElem?_cons_zero]; exact rfl)
  go_simp
  (go_at_call 68; refine (HCI.out _ (HB1.out.trans (hd1.mono HB1.out.size))).mono ?_; rintro e w2 ⟨v2, rfl, ho2, hb2⟩; obtain ⟨l2, lc2, rfl, _, _⟩ := (Rd.of_own ho2).form)
  go_wp2_with fail
  have hb12 := b_tr hd1 hb2
  refine hK.out _ _ ⟨b_cell hb12 a0, b_cell hb12 a1, b_cell hb12 a2⟩ (fun hHeld => ?_)
  clear hK K
  (try simp only [aPt])
  refine take_kp 9 ⟨?_, ?_, ?_, by kernel_rfl, by kernel_rfl, by kernel_rfl, ⟨by kernel_rfl, by kernel_rfl⟩, ?_, ?_, by assumption, ?_⟩
  rotate_left 2
  · (simp only [List.getElem?_toArray, List.getElem?_cons_succ, List.getElem?_cons_zero]; exact rfl)
  · exact fun _ _ _ h => h
  · first
      | (refine Or.inr ⟨by rfl, ?_⟩; exact rfl)
      | (refine Or.inl ⟨by rfl, ?_⟩
         intro w hSw
         (try dsimp only at hSw)
         (try go_split_ands)
         go_simp
         (first | done | with_reducible rfl))
  try simp only [aPt]
  refine call_k 5 (by kernel_rfl) ⟨?_, ?_, fun K hK => ?_⟩
  rotate_left 1
  · (simp only [List.getElem?_toArray, List.getElem?_cons_succ, List.getElem?_cons_zero]; exact rfl)
  go_simp
  (go_at_call 69; refine (HCM.out _ (b_tr HB1.out hb12)).mono ?_; rintro e w3 ⟨v3, rfl, ho3, hb3⟩; obtain ⟨k2, kc2, rfl, _, _⟩ := (Rd.of_own ho3).form)
  go_wp2_with fail
  have hb13 := b_tr hb12 hb3
  refine hK.out _ _ ⟨b_cell hb13 a0, b_cell hb13 a1, b_cell hb13 a2⟩ (fun hHeld => ?_)
  clear hK K
  (try simp only [aPt])
  refine call_k 8 (by kernel_rfl) ⟨?_, ?_, fun K hK => ?_⟩
  rotate_left 1
  · (simp only [List.getElem?_toArray, List.getElem?_cons_succ, List.getElem?_cons_zero]; exact rfl)
  go_simp
  (go_at_call 70; refine (HCS.out _ (b_tr HB1.out hb13)).mono ?_; rintro e w4 ⟨v4, rfl, ho4, hb4⟩; obtain ⟨s2, sc2, rfl, _, _⟩ := (Rd.of_own ho4).form)
  go_wp2_with fail
  have hb14 := b_tr hb13 hb4
  refine hK.out _ _ ⟨b_cell hb14 a0, b_cell hb14 a1, b_cell hb14 a2⟩ (fun hHeld => ?_)
  clear hK K
  (try simp only [aPt])
  refine tail_k (by kernel_rfl) (by kernel_rfl) (by kernel_rfl) ?_
  clear hHeld
  simp only [List.drop_succ_cons, List.drop_zero]
  have hz2 : Hid (B + 2 ≤ w2.heap.size ∧ B + 2 ≤ w3.heap.size ∧ B + 2 ≤ w1.heap.size) := Lib.hid (by
    have h1 := HZ1.out
    have h2 := hb12.size
    have h3 := hb13.size
    omega)
  have hA4 := HA1.out _ hb14
  have hR4 := HR1.out _ hb14
  obtain ⟨a0, a1, a2, q0, q1, q2⟩ := hA4.three
  go_upto_region 2 with fail
  obtain ⟨w5, hw5⟩ : ∃ w5, ((w4.setCell ⟨B, 0, none⟩ (.slice l2 L.length lc2)).setCell ⟨B, 2, none⟩ (.slice k2 K.length kc2)).setCell ⟨B, 1, none⟩ (.slice s2 R.length sc2) = w5 := ⟨_, rfl⟩
  have hl5 : Left [B] w4 w5 := by rw [← hw5]; exact (((Left.refl _ w4).setCell (Or.inl (by simp)) _).setCell (Or.inl (by simp)) _).setCell (Or.inl (by simp)) _
  have HI0 : Hid (BI w w5 B 0 (.slice l2 L.length lc2) (.slice s2 R.length sc2) (.slice k2 K.length kc2) L R K R) := Lib.hid
    ⟨by rw [← hw5]; exact ((hA4.put 0 _).put 2 _).put 1 _, hR4.left hl5 (by simp), own_left (own_base (own_below (own_below ho2 hb3) hb4) (by have := HZ1.out; simp; omega)) hl5 (by simp),
      own_left (own_base ho4 hz2.out.2.1) hl5 (by simp), own_left (own_base (own_below ho3 hb4) hz2.out.1) hl5 (by simp), rfl, fun i _ => rfl, fun i x hi => by omega, by simp, by simp,
      (by rw [← HBB.out]; exact b_tr HB1.out hb14 : Below B w w4).trans (hl5.belowB (by have := hb14.size; have := HZ1.out; omega) (by simp))⟩
  rw [hw5]
  clear a0 a1 a2 q0 q1 q2 hA4 hR4 hl5 hw5 ho2 hb2 ho3 hb3 ho4 hb4 hb12 hb13 hb14 hd1 HCI HCM HCS HA1 HR1 hHeld
  obtain ⟨a0, a1, a2, _, _, _⟩ := HI0.out.A.three
  go_wp2
  go_loopw [20] (fun i wr => ∃ (k : Nat) (R2 : List Rs), i = .int .i64 k ∧ k ≤ R.length ∧ Hid (BI w wr B k (.slice l2 L.length lc2) (.slice s2 R.length sc2) (.slice k2 K.length kc2) L R K R2)) (fun i _ => R.length - (intOf i).toNat)
  case atStart => exact ⟨0, R, rfl, by omega, HI0⟩
  case round =>
    clear HI0 a0 a1 a2
    obtain ⟨k, R2, rfl, hk, HI⟩ := hrel
    obtain ⟨a0, a1, a2, _, _, _⟩ := HI.out.A.three
    have hrl : R2.length = R.length := by have := congrArg List.length HI.out.m; simpa using this
    have HRL := Lib.hid hrl
    clear hrl
    by_cases hlt : k < R.length
    · have hlt' : (k : Int) < (R.length : Int) := by omega
      obtain ⟨g, rfl⟩ : ∃ g, s2 = some ⟨g, 0, none⟩ := by
        obtain ⟨g, cap', e, _⟩ := Enc.own_form (by rw [← HRL.out] at *; exact HI.out.s) (by have := HRL.out; omega)
        injection e with e
        exact ⟨g, e⟩
      obtain ⟨x, hx⟩ : ∃ x, R[k]? = some x := ⟨_, List.getElem?_eq_getElem hlt⟩
      have hxm := List.mem_of_getElem? hx
      have hbw : Below w.heap.size w wr := by rw [HBB.out]; exact HI.out.b
      have HX := Lib.hid hx
      have HNX := Lib.hid (HN.out x hxm)
      obtain ⟨x0, x1, x2, x3, x4, x5, x6, x7, x8, x9, x10, x11, x12, x13, x14⟩ := ks_cells (B := B + 2) (k := k) ⟨R2, HRL.out, HI.out.t, by have h := HI.out.s; rw [HRL.out] at h; exact h⟩ hx rfl
      have HSR := Lib.hid (fun wx (hx : Below w.heap.size w wx) => HRR.out x hxm wx hx)
      have HCW := Lib.hid (fun wx (hx : Below w.heap.size w wx) => CloneW_any wx _ _ _ (HSR.out wx hx).s (eW.cells_oneCell x.s.S) (by have := HNX.out.1; omega))
      have HCO := Lib.hid (fun wx (hx : Below w.heap.size w wx) => Own_any wx (.agg #[.int .i64 x.s.o.last, .slice x.fa x.s.o.F.length x.fc, .slice x.qa x.s.o.Q.length x.qc]) x.s.o ⟨_, _, rfl, (HSR.out wx hx).f, (HSR.out wx hx).q⟩ ⟨HNX.out.2.1, HNX.out.2.2.1⟩)
      have HCI := Lib.hid (fun wx (hx : Below w.heap.size w wx) => CloneI_any wx _ _ _ (HSR.out wx hx).i (eI.cells_oneCell x.s.I) (by have := HNX.out.2.2.2; omega))
      clear hx hxm
      go_upto_region 6 with fail
      refine region_k 18 (S := fun wx => wx.cell? ⟨g, k * 15 + 3, none⟩ = some (.slice x.sa x.s.S.length x.sc) ∧ wx.cell? ⟨g, k * 15 + 4, none⟩ = some (.int .i64 x.s.o.last) ∧ wx.cell? ⟨g, k * 15 + 5, none⟩ = some (.slice x.fa x.s.o.F.length x.fc) ∧ wx.cell? ⟨g, k * 15 + 6, none⟩ = some (.slice x.qa x.s.o.Q.length x.qc) ∧ wx.cell? ⟨g, k * 15 + 7, none⟩ = some (.slice x.ia x.s.I.length x.ic)) (by kernel_rfl) ⟨x3, x4, x5, x6, x7⟩ (fun hHeld => ?_)
      have hd1 := (Below.refl wr.heap.size wr).drew
      refine take_kp 0 ⟨?_, ?_, ?_, by kernel_rfl, by kernel_rfl, by kernel_rfl, ⟨by kernel_rfl, by kernel_rfl⟩, ?_, ?_, by assumption, ?_⟩
      rotate_left 2
      · (simp only [List.getElem?_toArray, List.getElem?_cons_succ, List.getElem?_cons_zero]; exact rfl)
      · exact fun _ _ _ h => h
      · first
          | (refine Or.inr ⟨by rfl, ?_⟩; exact rfl)
          | (refine Or.inl ⟨by rfl, ?_⟩
             intro w hSw
             (try dsimp only at hSw)
             (try go_split_ands)
             go_simp
             (first | done | with_reducible rfl))
      try simp only [aPt]
      refine take_kp 1 ⟨?_, ?_, ?_, by kernel_rfl, by kernel_rfl, by kernel_rfl, ⟨by kernel_rfl, by kernel_rfl⟩, ?_, ?_, by assumption, ?_⟩
      rotate_left 2
      · (simp only [List.getElem?_toArray, List.getElem?_cons_succ, List.getElem?_cons_zero]; exact rfl)
      · exact fun _ _ _ h => h
      · first
          | (refine Or.inr ⟨by rfl, ?_⟩; exact rfl)
          | (refine Or.inl ⟨by rfl, ?_⟩
             intro w hSw
             (try dsimp only at hSw)
             (try go_split_ands)
             go_simp
             (first | done | with_reducible rfl))
      try simp only [aPt]
      refine take_kp 2 ⟨?_, ?_, ?_, by kernel_rfl, by kernel_rfl, by kernel_rfl, ⟨by kernel_rfl, by kernel_rfl⟩, ?_, ?_, by assumption, ?_⟩
      rotate_left 2
      · (simp only [List.getElem?_toArray, List.getElem?_cons_succ, List.getElem?_cons_zero]; exact rfl)
      · exact fun _ _ _ h => h
      · first
          | (refine Or.inr ⟨by rfl, ?_⟩; exact rfl)
          | (refine Or.inl ⟨by rfl, ?_⟩
             intro w hSw
             (try dsimp only at hSw)
             (try go_split_ands)
             go_simp
             (first | done | with_reducible rfl))
      try simp only [aPt]
      refine take_kp 3 ⟨?_, ?_, ?_, by kernel_rfl, by kernel_rfl, by kernel_rfl, ⟨by kernel_rfl, by kernel_rfl⟩, ?_, ?_, by assumption, ?_⟩
      rotate_left 2
      · (simp only [List.getElem?_toArray, List.getElem?_cons_succ, List.getElem?_cons_zero]; exact rfl)
      · exact fun _ _ _ h => h
      · first
          | (refine Or.inr ⟨by rfl, ?_⟩; exact rfl)
          | (refine Or.inl ⟨by rfl, ?_⟩
             intro w hSw
             (try dsimp only at hSw)
             (try go_split_ands)
             go_simp
             (first | done | with_reducible rfl))
      try simp only [aPt]
      refine take_kp 4 ⟨?_, ?_, ?_, by kernel_rfl, by kernel_rfl, by kernel_rfl, ⟨by kernel_rfl, by kernel_rfl⟩, ?_, ?_, by assumption, ?_⟩
      rotate_left 2
      · (simp only [List.getElem?_toArray, List.getElem?_cons_succ, List.getElem?_cons_zero]; exact rfl)
      · exact fun _ _ _ h => h
      · first
          | (refine Or.inr ⟨by rfl, ?_⟩; exact rfl)
          | (refine Or.inl ⟨by rfl, ?_⟩
             intro w hSw
             (try dsimp only at hSw)
             (try go_split_ands)
             go_simp
             (first | done | with_reducible rfl))
      try simp only [aPt]
      refine take_kp 5 ⟨?_, ?_, ?_, by kernel_rfl, by kernel_rfl, by kernel_rfl, ⟨by kernel_rfl, by kernel_rfl⟩, ?_, ?_, by assumption, ?_⟩
      rotate_left 2
      · (simp only [List.getElem?_toArray, List.getElem?_cons_succ, List.getElem?_cons_zero]; exact rfl)
      · exact fun _ _ _ h => h
      · first
          | (refine Or.inr ⟨by rfl, ?_⟩; exact rfl)
          | (refine Or.inl ⟨by rfl, ?_⟩
             intro w hSw
             (try dsimp only at hSw)
             (try go_split_ands)
             go_simp
             (first | done | with_reducible rfl))
      try simp only [aPt]
      refine take_kl 6 ⟨?_, ?_, ?_, by kernel_rfl, by kernel_rfl, by kernel_rfl, ⟨by kernel_rfl, by kernel_rfl, by kernel_rfl⟩, ?_, ?_, by assumption, ?_⟩
      rotate_left 2
      · (simp only [List.getElem?_toArray, List.getElem?_cons_succ, List.getElem?_cons_zero]; exact rfl)
      · exact fun _ _ _ h => h
      · first
          | (refine Or.inr ⟨by rfl, ?_⟩; exact rfl)
          | (refine Or.inl ⟨by rfl, ?_⟩
             intro w hSw
             (try dsimp only at hSw)
             (try go_split_ands)
             go_simp
             (first | done | with_reducible rfl))
      try simp only [aPt]
      refine take_kp 8 ⟨?_, ?_, ?_, by kernel_rfl, by kernel_rfl, by kernel_rfl, ⟨by kernel_rfl, by kernel_rfl⟩, ?_, ?_, by assumption, ?_⟩
      rotate_left 2
      · (simp only [List.getElem?_toArray, List.getElem?_cons_succ, List.getElem?_cons_zero]; exact rfl)
      · exact fun _ _ _ h => h
      · first
          | (refine Or.inr ⟨by rfl, ?_⟩; exact rfl)
          | (refine Or.inl ⟨by rfl, ?_⟩
             intro w hSw
             (try dsimp only at hSw)
             (try go_split_ands)
             go_simp
             (first | done | with_reducible rfl))
      try simp only [aPt]
      refine take_kp 9 ⟨?_, ?_, ?_, by kernel_rfl, by kernel_rfl, by kernel_rfl, ⟨by kernel_rfl, by kernel_rfl⟩, ?_, ?_, by assumption, ?_⟩
      rotate_left 2
      · (simp only [List.getElem?_toArray, List.getElem?_cons_succ, List.getElem?_cons_zero]; exact rfl)
      · exact fun _ _ _ h => h
      · first
          | (refine Or.inr ⟨by rfl, ?_⟩; exact rfl)
          | (refine Or.inl ⟨by rfl, ?_⟩
             intro w hSw
             (try dsimp only at hSw)
             (try go_split_ands)
             go_simp
             (first | done | with_reducible rfl))
      try simp only [aPt]
      refine take_kp 10 ⟨?_, ?_, ?_, by kernel_rfl, by kernel_rfl, by kernel_rfl, ⟨by kernel_rfl, by kernel_rfl⟩, ?_, ?_, by assumption, ?_⟩
      rotate_left 2
      · (simp only [List.getElem?_toArray, List.getElem?_cons_succ, List.getElem?_cons_zero]; exact rfl)
      · exact fun _ _ _ h => h
      · first
          | (refine Or.inr ⟨by rfl, ?_⟩; exact rfl)
          | (refine Or.inl ⟨by rfl, ?_⟩
             intro w hSw
             (try dsimp only at hSw)
             (try go_split_ands)
             go_simp
             (first | done | with_reducible rfl))
      try simp only [aPt]
      refine take_kl 11 ⟨?_, ?_, ?_, by kernel_rfl, by kernel_rfl, by kernel_rfl, ⟨by kernel_rfl, by kernel_rfl, by kernel_rfl⟩, ?_, ?_, by assumption, ?_⟩
      rotate_left 2
      · (simp only [List.getElem?_toArray, List.getElem?_cons_succ, List.getElem?_cons_zero]; exact rfl)
      · exact fun _ _ _ h => h
      · first
          | (refine Or.inr ⟨by rfl, ?_⟩; exact rfl)
          | (refine Or.inl ⟨by rfl, ?_⟩
             intro w hSw
             (try dsimp only at hSw)
             (try go_split_ands)
             go_simp
             (first | done | with_reducible rfl))
      try simp only [aPt]
      refine take_kp 13 ⟨?_, ?_, ?_, by kernel_rfl, by kernel_rfl, by kernel_rfl, ⟨by kernel_rfl, by kernel_rfl⟩, ?_, ?_, by assumption, ?_⟩
      rotate_left 2
      · (simp only [List.getElem?_toArray, List.getElem?_cons_succ, List.getElem?_cons_zero]; exact rfl)
      · exact fun _ _ _ h => h
      · first
          | (refine Or.inr ⟨by rfl, ?_⟩; exact rfl)
          | (refine Or.inl ⟨by rfl, ?_⟩
             intro w hSw
             (try dsimp only at hSw)
             (try go_split_ands)
             go_simp
             (first | done | with_reducible rfl))
      try simp only [aPt]
      refine take_kp 14 ⟨?_, ?_, ?_, by kernel_rfl, by kernel_rfl, by kernel_rfl, ⟨by kernel_rfl, by kernel_rfl⟩, ?_, ?_, by assumption, ?_⟩
      rotate_left 2
      · (simp only [List.getElem?_toArray, List.getElem?_cons_succ, List.getElem?_cons_zero]; exact rfl)
      · exact fun _ _ _ h => h
      · first
          | (refine Or.inr ⟨by rfl, ?_⟩; exact rfl)
          | (refine Or.inl ⟨by rfl, ?_⟩
             intro w hSw
             (try dsimp only at hSw)
             (try go_split_ands)
             go_simp
             (first | done | with_reducible rfl))
      try simp only [aPt]
      refine take_kp 15 ⟨?_, ?_, ?_, by kernel_rfl, by kernel_rfl, by kernel_rfl, ⟨by kernel_rfl, by kernel_rfl⟩, ?_, ?_, by assumption, ?_⟩
      rotate_left 2
      · (simp only [List.getElem?_toArray, List.getElem?_cons_succ, List.getElem?_cons_zero]; exact rfl)
      · exact fun _ _ _ h => h
      · first
          | (refine Or.inr ⟨by rfl, ?_⟩; exact rfl)
          | (refine Or.inl ⟨by rfl, ?_⟩
             intro w hSw
             (try dsimp only at hSw)
             (try go_split_ands)
             go_simp
             (first | done | with_reducible rfl))
      try simp only [aPt]
      refine take_kl 16 ⟨?_, ?_, ?_, by kernel_rfl, by kernel_rfl, by kernel_rfl, ⟨by kernel_rfl, by kernel_rfl, by kernel_rfl⟩, ?_, ?_, by assumption, ?_⟩
      rotate_left 2
      · (simp only [List.getElem?_toArray, List.getElem?_cons_succ, List.getElem?_cons_zero]; exact rfl)
      · exact fun _ _ _ h => h
      · first
          | (refine Or.inr ⟨by rfl, ?_⟩; exact rfl)
          | (refine Or.inl ⟨by rfl, ?_⟩
             intro w hSw
             (try dsimp only at hSw)
             (try go_split_ands)
             go_simp
             (first | done | with_reducible rfl))
      try simp only [aPt]
      refine call_k 7 (by kernel_rfl) ⟨?_, ?_, fun K hK => ?_⟩
      rotate_left 1
      · (simp only [List.getElem?_toArray, List.getElem?_cons_succ, List.getElem?_cons_zero]; exact rfl)
      go_simp
      (go_at_call 71; refine (HCW.out _ (b_tr hbw hd1)).mono ?_; rintro e w2 ⟨v2, rfl, ho2, hb2⟩; obtain ⟨nsa, nsc, rfl, _, _⟩ := (Rd.of_own ho2).form)
      go_wp2_with fail
      have hb12 := b_tr hd1 hb2
      refine hK.out _ _ ⟨b_cell hb12 x3, b_cell hb12 x4, b_cell hb12 x5, b_cell hb12 x6, b_cell hb12 x7⟩ (fun hHeld => ?_)
      clear hK K
      (try simp only [aPt])
      refine call_k 12 (by kernel_rfl) ⟨?_, ?_, fun K hK => ?_⟩
      rotate_left 1
      · (simp only [List.getElem?_toArray, List.getElem?_cons_succ, List.getElem?_cons_zero]; exact rfl)
      go_simp
      (go_at_call 72; refine (HCO.out _ (b_tr hbw hb12)).mono ?_; rintro e w3 ⟨v3, rfl, ⟨fv, qv, rfl, hof, hoq⟩, hb3⟩; obtain ⟨nfa, nfc, rfl, _, _⟩ := (Rd.of_own hof).form; obtain ⟨nqa, nqc, rfl, _, _⟩ := (Rd.of_own hoq).form)
      go_wp2_with fail
      have hb13 := b_tr hb12 hb3
      refine hK.out _ _ ⟨b_cell hb13 x3, b_cell hb13 x4, b_cell hb13 x5, b_cell hb13 x6, b_cell hb13 x7⟩ (fun hHeld => ?_)
      clear hK K
      (try simp only [aPt])
      refine call_k 17 (by kernel_rfl) ⟨?_, ?_, fun K hK => ?_⟩
      rotate_left 1
      · (simp only [List.getElem?_toArray, List.getElem?_cons_succ, List.getElem?_cons_zero]; exact rfl)
      go_simp
      (go_at_call 68; refine (HCI.out _ (b_tr hbw hb13)).mono ?_; rintro e w4 ⟨v4, rfl, hoi, hb4⟩; obtain ⟨nia, nic, rfl, _, _⟩ := (Rd.of_own hoi).form)
      go_wp2_with fail
      have hb14 := b_tr hb13 hb4
      refine hK.out _ _ ⟨b_cell hb14 x3, b_cell hb14 x4, b_cell hb14 x5, b_cell hb14 x6, b_cell hb14 x7⟩ (fun hHeld => ?_)
      clear hK K
      (try simp only [aPt])
      refine tail_k (by kernel_rfl) (by kernel_rfl) (by kernel_rfl) ?_
      clear hHeld
      simp only [List.drop_succ_cons, List.drop_zero]
      have hs9 := HI.out.s
      rw [HRL.out] at hs9
      have hfr : ∀ j, w4.frozen? ⟨g, j, none⟩ = false := fun j => (own_below hs9 hb14).frozenAt j
      clear hs9
      have f3 := hfr (k * 15 + 3)
      have f4 := hfr (k * 15 + 4)
      have f5 := hfr (k * 15 + 5)
      have f6 := hfr (k * 15 + 6)
      have f7 := hfr (k * 15 + 7)
      have y3 := b_cell hb14 x3
      have y4 := b_cell hb14 x4
      have y5 := b_cell hb14 x5
      have y6 := b_cell hb14 x6
      have y7 := b_cell hb14 x7
      have HJ : Hid (BI w (w4.setCells g (k * 15 + 3) [.slice nsa x.s.S.length nsc, .int .i64 x.s.o.last, .slice nfa x.s.o.F.length nfc, .slice nqa x.s.o.Q.length nqc, .slice nia x.s.I.length nic]) B (k + 1) (.slice l2 L.length lc2) (.slice (some ⟨g, 0, none⟩) R.length sc2) (.slice k2 K.length kc2) L R K (R2.set k ⟨x.s, nsa, nsc, nfa, nfc, nqa, nqc, nia, nic⟩)) := Lib.hid (by
        obtain ⟨hA, hZ, hl, hs, hkk, hm, ht, hr, hp, hq, hbb⟩ := HI.out
        rw [HRL.out] at hs
        have hx2 : R2[k]? = some x := (ht k (Nat.le_refl _)).trans HX.out
        have hk2 : k < R2.length := (List.getElem?_eq_some_iff.1 hx2).1
        have hs4 := own_below hs hb14
        obtain ⟨o5, g5⟩ := Enc.own_setCells [.slice nsa x.s.S.length nsc, .int .i64 x.s.o.last, .slice nfa x.s.o.F.length nfc, .slice nqa x.s.o.Q.length nqc, .slice nia x.s.I.length nic] (k * 15 + 3) (eS.cells R2) w4 hs4
        rw [lay_rows R2 k x hx2] at o5
        have hl5 := left_of_grown (v := .slice (some ⟨g, 0, none⟩) R.length sc2) g5
        have hgs : ∀ q ∈ Value.ownL (.slice (some ⟨g, 0, none⟩) R.length sc2), Ty w4 q 61 := fun q hq => own_ty hs4 (mem_ownL.1 hq)
        have hwr : B + 2 ≤ wr.heap.size := by have := (hs.lt g rfl); omega
        have hz2 := hb2.size
        have hz3 := hb3.size
        have hz12 := hb12.size
        have hso : SOwn w4 wr.heap.size 0 ⟨x.s, nsa, nsc, nfa, nfc, nqa, nqc, nia, nic⟩ := ⟨own_base (own_below (own_below ho2 hb3) hb4) (by simp), own_base (own_below hof hb4) (by omega), own_base (own_below hoq hb4) (by omega), own_base hoi (by omega)⟩
        have hold : ∀ i y, i < k → R2[i]? = some y → SOwn w4 (B + 2) 0 y := fun i y hi hy => (hr i y hi hy).left (Left.of_below hb14 []) (by simp)
        have hlt : ∀ i y, i < k → R2[i]? = some y → ∀ q ∈ blk y, q < wr.heap.size := fun i y hi hy q hq => by
          have h := hr i y hi hy
          unfold blk at hq
          simp only [List.mem_append] at hq
          rcases hq with hq | hq | hq | hq
          · exact (h.s.lt q (mem_ownL.1 hq)).2
          · exact (h.f.lt q (mem_ownL.1 hq)).2
          · exact (h.q.lt q (mem_ownL.1 hq)).2
          · exact (h.i.lt q (mem_ownL.1 hq)).2
        have htk : (R2.set k (⟨x.s, nsa, nsc, nfa, nfc, nqa, nqc, nia, nic⟩ : Rs)).take (k + 1) = R2.take k ++ [⟨x.s, nsa, nsc, nfa, nfc, nqa, nqc, nia, nic⟩] := by
          rw [List.take_add_one, List.take_set_of_le (Nat.le_refl _), List.getElem?_set_self hk2]
          rfl
        refine ⟨(hA.belowH hb14).left hl5 (fun hm => (show Ty w4 B 26 from ⟨_, _, hA.belowH hb14⟩).ne (hgs _ hm) (by decide) rfl), (hZ.belowH hb14).left hl5 (fun hm => (show Ty w4 (B + 1) 26 from ⟨_, _, hZ.belowH hb14⟩).ne (hgs _ hm) (by decide) rfl),
          own_leftB (own_below hl hb14) hl5 (fun q hq e => (own_ty (own_below hl hb14) e).ne (hgs q hq) (by decide) rfl), by rw [List.length_set, HRL.out]; exact o5, own_leftB (own_below hkk hb14) hl5 (fun q hq e => (own_ty (own_below hkk hb14) e).ne (hgs q hq) (by decide) rfl), ?_, fun i hi => by rw [List.getElem?_set_ne (by omega)]; exact ht i (by omega), fun i y hi hy => ?_, ?_, ?_, ?_⟩
        · rw [List.map_set, hm]
          refine List.ext_getElem? fun t => ?_
          by_cases e : k = t
          · subst e
            rw [List.getElem?_set_self (by rw [List.length_map]; exact (List.getElem?_eq_some_iff.1 HX.out).1)]
            rw [List.getElem?_map, HX.out]
            rfl
          · rw [List.getElem?_set_ne e]
        · by_cases e : i = k
          · subst e
            rw [List.getElem?_set_self hk2] at hy
            injection hy with hy
            rw [← hy]
            exact (hso.base hwr).ty hl5 hgs
          · rw [List.getElem?_set_ne (by omega)] at hy
            exact (hold i y (by omega) hy).ty hl5 hgs
        · rw [htk, List.pairwise_append]
          refine ⟨hp, by simp, fun y hy z hz q hq hq2 => ?_⟩
          rw [List.mem_singleton.1 hz] at hq2
          obtain ⟨i, hi⟩ := List.getElem?_of_mem hy
          have hik : i < k := by have := (List.getElem?_eq_some_iff.1 hi).1; rw [List.length_take] at this; omega
          rw [List.getElem?_take_of_lt hik] at hi
          have h1 := hlt i y hik hi q hq
          have h2 := hso.blk_ge q hq2
          omega
        · rw [htk]
          intro y hy q hq hq2
          rcases List.mem_append.1 hy with hy | hy
          · exact HI.out.q y hy q hq hq2
          · rw [List.mem_singleton.1 hy] at hq
            have h1 := hso.blk_ge q hq
            have h2 := (hkk.lt q (mem_ownL.1 hq2)).2
            omega
        · exact (hbb.trans (hb14.mono (by omega))).trans (hl5.belowB (by have := hb14.size; omega) (fun q hq => by have := (hs4.lt q (mem_ownL.1 hq)).1; omega)))
      clear hfr
      go_wp2
      go_roundw
      case rel => exact ⟨k + 1, _, by go_num, by omega, HJ⟩
      case measure => simp [intOf]; omega
    · have hlt' : ¬ ((k : Int) < (R.length : Int)) := by omega
      obtain rfl : k = R.length := by omega
      have hZ := HI.out.Z
      obtain ⟨z0, z1, z2, q0, q1, q2⟩ := hZ.three
      have HZ := Lib.hid hZ
      have hls : Left [B + 1] wr (((wr.setCell ⟨B + 1, 0, none⟩ (.slice l2 L.length lc2)).setCell ⟨B + 1, 1, none⟩ (.slice s2 R.length sc2)).setCell ⟨B + 1, 2, none⟩ (.slice k2 K.length kc2)) := (((Left.refl _ wr).setCell (Or.inl (by simp)) _).setCell (Or.inl (by simp)) _).setCell (Or.inl (by simp)) _
      have HLS := Lib.hid hls
      clear hZ hls
      go_wp2
      (try simp only [Exit.inBlock, Exit.then])
      refine bodyPost_ret (results_cell_row (P := Tryz.prog) (p := 2) (ty := 26) rfl _ _ (B + 1) 26 _ (0, 0) _ rfl (((HZ.out.put 0 _).put 1 _).put 2 _) Tryz.underlying26 rfl (by kernel_rfl)) rfl ?_
      have hB1 : ∀ q ∈ [B + 1], q < B + 2 := fun q hq => by rw [List.mem_singleton.1 hq]; omega
      have htk : R2.take R.length = R2 := by rw [← HRL.out, List.take_length]
      have hp := HI.out.p
      have hq := HI.out.q
      rw [htk] at hp hq
      refine ⟨_, _, _, rfl, ⟨R2, HI.out.m, own_base (own_left HI.out.l HLS.out hB1) (by have := HBB.out; omega), own_base (by have h := own_left HI.out.s HLS.out hB1; exact h) (by have := HBB.out; omega), fun y hy => ?_, own_base (own_left HI.out.kk HLS.out hB1) (by have := HBB.out; omega), hp, hq⟩, by have h := HI.out.b.trans (HLS.out.belowB (by have := HZ.out.lt; omega) (by simp) : Below B _ _); rw [← HBB.out] at h ⊢; exact h⟩
      obtain ⟨i, hi⟩ := List.getElem?_of_mem hy
      exact ((HI.out.r i y (by have := (List.getElem?_eq_some_iff.1 hi).1; have := HRL.out; omega) hi).left HLS.out hB1).base (by have := HBB.out; omega)
end Go.Proofs.YtknnaeejkmlnbaaGreatDoor
namespace Go.Proofs.YtknnaeejkmlnbaaGreatDoor
open Go.RowKit
def zSv : Value := .agg #[.string ⟨#[]⟩, .bool false, .int .i64 0, .slice none 0 0, .int .i64 0, .slice none 0 0, .slice none 0 0, .slice none 0 0, .bool false, .string ⟨#[]⟩, .string ⟨#[]⟩, .int .i64 0, .bool false, .int .i64 0, .int .i64 0]
def zRow (c : Nat) : List Value := (Builtin.zeroCells zSv.cells c).toList
theorem zRow_len (c : Nat) : (zRow c).length = c * 15 := by simp [zRow, Builtin.zeroCells, zSv, Value.cells]
theorem zRow_one (c : Nat) : ∀ u ∈ zRow c, u.oneCell' = true := by
  intro u hu
  simp only [zRow, Builtin.zeroCells, Array.toList_map, List.mem_map] at hu
  obtain ⟨i, _, rfl⟩ := hu
  have hlt : i % 15 < 15 := Nat.mod_lt _ (by omega)
  have hsz : zSv.cells.size = 15 := rfl
  rw [hsz]
  generalize i % 15 = j at hlt
  have h : ∀ j, j < 15 → (zSv.cells[j]!).oneCell' = true := by decide
  exact h j hlt
theorem zero_S (w : World) : (zeroValue 61).run Tryz.prog w = .ok zSv w := by kernel_rfl
theorem run_clearS (w : World) (ty : TypeId) (b o c cap : Nat) (hc : ∀ j, j < c * 15 → (w.cell? ⟨b, o + j, none⟩).isSome = true) (hf : ∀ j, j < c * 15 → w.frozen? ⟨b, o + j, none⟩ = false) :
    (Builtin.clear_ #[23] ty #[.slice (some ⟨b, o, none⟩) c cap]).run Tryz.prog w = .ok (.tuple #[]) (w.setCells b o (zRow c)) := by
  have hst := run_storeCells_cells (P := Tryz.prog) b o (zRow c) 0 w (by rw [zRow_len]; simpa using hc) (by rw [zRow_len]; simpa using hf) (zRow_one c)
  simp only [Nat.add_zero] at hst
  cases c with
  | zero =>
    have hz : zRow 0 = [] := by simp [zRow, Builtin.zeroCells]
    rw [hz]
    simp [Builtin.clear_, run_underlying Tryz.underlying23]
    rfl
  | succ n =>
    unfold zRow zSv at hst ⊢
    simp [Builtin.clear_, run_underlying Tryz.underlying23, zero_S, hst]
theorem clos_any (r : Rs) (w : World) : Calls Tryz.prog 45 #[seV r] w fun e w' => e = .returned (.bool r.s.cl) ∧ Below w.heap.size w w' := by
  have hb0 := (Below.refl w.heap.size w).alloc (Nat.le_refl _) (.cells #[.string r.s.c, .bool r.s.cl, .int .i64 r.s.ln, .slice r.sa r.s.S.length r.sc, .int .i64 r.s.o.last, .slice r.fa r.s.o.F.length r.fc, .slice r.qa r.s.o.Q.length r.qc, .slice r.ia r.s.I.length r.ic, .bool r.s.wl.is, .string r.s.wl.t, .string r.s.wl.p, .int .i64 r.s.wl.q, .bool r.s.wl.r, .int .i64 r.s.keep, .int .i64 r.s.idle] 61)
  unfold seV
  go_enter Tryz.func45, Tryz.ntmps45
  go_wp2
  go_ret
  exact ⟨rfl, hb0⟩
set_option maxRecDepth 20000 in
set_option maxHeartbeats 2000000 in
theorem IndexS_any (w : World) (v : Value) (R : List Rs) (Bd : Nat) (h : Rd w Bd 15 v R.length (eS.cells R)) (hB : Bd ≤ w.heap.size) (hn : R.length ≤ 1000000) :
    Calls Tryz.prog 73 #[v, .func (.func 45) #[] #[]] w fun e w' => ∃ i : Int, e = .returned (.int .i64 i) ∧ ((i = -1 ∧ ∀ x ∈ R, x.s.cl = false) ∨ ∃ k : Nat, i = k ∧ k < R.length ∧ (∀ j x, j < k → R[j]? = some x → x.s.cl = false) ∧ ∀ x, R[k]? = some x → x.s.cl = true) ∧ Below w.heap.size w w' := by
  obtain ⟨ao, cap, rfl, hcc, hm⟩ := h.form
  have hm' : cap ≤ 9223372036854775807 := by unfold maxLen at hm; omega
  have H := Lib.hid h
  clear h hm
  go_enter Tryz.func73, Tryz.ntmps73
  go_wp2
  go_loopw [8] (fun s wr => ∃ k : Nat, s = .int .i64 k ∧ k ≤ R.length ∧ Below w.heap.size w wr ∧ Hid (∀ j x, j < k → R[j]? = some x → x.s.cl = false)) (fun s _ => R.length - (intOf s).toNat)
  case atStart => exact ⟨0, rfl, by omega, Below.refl _ _, Lib.hid (fun j x hj => by omega)⟩
  case round =>
    obtain ⟨k, rfl, hk, hb, HK⟩ := hrel
    by_cases hlt : k < R.length
    · obtain ⟨x, hx⟩ : ∃ x, R[k]? = some x := ⟨_, List.getElem?_eq_getElem hlt⟩
      obtain ⟨b, o, rfl, _, hcs⟩ := Enc.rd_cell (E := eS) (H.out.below (hb.mono hB)) rfl hx
      obtain ⟨x0, x1, x2, x3, x4, x5, x6, x7, x8, x9, x10, x11, x12, x13, x14⟩ := ses_cells (show World.rangeAt _ b (o + k * 15) (eS.c x) from hcs)
      have HX := Lib.hid hx
      have HA := Lib.hid (clos_any x wr)
      clear hcs hx
      unfold seV at HA
      go_wp2_with fail
      refine HA.out.mono ?_
      rintro e w1 ⟨rfl, hb1⟩
      have hb2 := b_tr hb hb1
      clear x0 x1 x2 x3 x4 x5 x6 x7 x8 x9 x10 x11 x12 x13 x14
      cases hcl : x.s.cl
      · have HK2 : Hid (∀ j y, j < k + 1 → R[j]? = some y → y.s.cl = false) := Lib.hid (fun j y hj hy => by
          by_cases e : j = k
          · subst e
            rw [HX.out] at hy
            injection hy with hy
            rw [← hy]
            exact hcl
          · exact HK.out j y (by omega) hy)
        clear hcl
        go_wp2
        go_roundw
        case rel => exact ⟨k + 1, by go_num, by omega, hb2, HK2⟩
        case measure => simp [intOf]; omega
      · have HE : Hid (∀ y, R[k]? = some y → y.s.cl = true) := Lib.hid (fun y hy => by rw [HX.out] at hy; injection hy with hy; rw [← hy]; exact hcl)
        clear hcl
        go_wp2
        go_ret
        exact ⟨_, rfl, .inr ⟨k, rfl, hlt, HK.out, HE.out⟩, hb2⟩
    · obtain rfl : k = R.length := by omega
      have HE : Hid (∀ x ∈ R, x.s.cl = false) := Lib.hid (fun x hx => by
        obtain ⟨j, hj⟩ := List.getElem?_of_mem hx
        exact HK.out j x (List.getElem?_eq_some_iff.1 hj).1 hj)
      go_wp2
      go_ret
      exact ⟨_, rfl, .inl ⟨rfl, HE.out⟩, hb⟩
theorem filter_step {R : List Rs} {j : Nat} {x : Rs} (h : R[j]? = some x) : (R.take (j + 1)).filter (fun r => !r.s.cl) = (R.take j).filter (fun r => !r.s.cl) ++ (if x.s.cl then [] else [x]) := by
  rw [List.take_add_one, h, List.filter_append]
  cases hc : x.s.cl <;> simp [hc]
/-- While sessions are moved to the front: i of the first j stay. -/
structure DelI (w wr : World) (B g cap i j : Nat) (R : List Rs) : Prop where
  o : ∃ R2 : List Rs, R2.length = R.length ∧ R2.take i = (R.take j).filter (fun r => !r.s.cl) ∧ (∀ t, j ≤ t → R2[t]? = R[t]?) ∧ wr.ownsRow B 61 15 (.slice (some ⟨g, 0, none⟩) R.length cap) R.length (eS.cells R2)
  l : Left [g] w wr
  n : i = ((R.take j).filter (fun r => !r.s.cl)).length
  b : i < j ∧ j ≤ R.length
set_option maxRecDepth 20000 in
set_option maxHeartbeats 4000000 in
theorem DelS_any (w : World) (B : Nat) (v : Value) (R : List Rs) (h : w.ownsRow B 61 15 v R.length (eS.cells R)) (hB : B ≤ w.heap.size) (hn : R.length ≤ 1000000) :
    Calls Tryz.prog 44 #[v, .func (.func 45) #[] #[]] w fun e w' => ∃ v', e = .returned v' ∧ w'.ownsRow B 61 15 v' (R.filter (fun r => !r.s.cl)).length (eS.cells (R.filter (fun r => !r.s.cl))) ∧ Left (Value.ownL v) w w' ∧ (∀ q ∈ Value.ownL v', q ∈ Value.ownL v) := by
  obtain ⟨ao, cap, rfl, hcc, hm⟩ := (Rd.of_own h).form
  have hm' : cap ≤ 9223372036854775807 := by unfold maxLen at hm; omega
  have H := Lib.hid h
  have HIX := Lib.hid (IndexS_any w _ R _ (Rd.of_own h) (Nat.le_refl _) hn)
  clear h hm
  go_enter Tryz.func44, Tryz.ntmps44
  go_upto_region 2 with (go_at_call 73; refine HIX.out.mono ?_; rintro e w1 ⟨i0, rfl, hd, hb1⟩)
  rcases hd with ⟨rfl, hall⟩ | ⟨k, rfl, hk, hpre, hat⟩
  · have HE : Hid (R.filter (fun r => !r.s.cl) = R) := Lib.hid (List.filter_eq_self.2 (fun x hx => by rw [hall x hx]; rfl))
    have HO := Lib.hid (own_below H.out hb1)
    have HL := Lib.hid (Left.of_below hb1 (Value.ownL (.slice ao R.length cap)))
    clear hall hb1
    go_wp2
    go_ret
    exact ⟨_, rfl, by rw [HE.out]; exact HO.out, HL.out, fun q hq => hq⟩
  · obtain ⟨g, cap', e, hBg, hgl, hnc, hcm⟩ := Enc.own_form H.out (by omega)
    injection e with e1 e2 e3
    subst e1 e3
    have hne : ((k : Int) == -1) = false := beq_eq_false_iff_ne.2 (by omega)
    obtain ⟨x, hx⟩ : ∃ x, R[k]? = some x := ⟨_, List.getElem?_eq_getElem hk⟩
    have HI0 : Hid (DelI w w1 B g cap k (k + 1) R) := Lib.hid (by
      have hf : (R.take k).filter (fun r => !r.s.cl) = R.take k := List.filter_eq_self.2 (fun y hy => by
        obtain ⟨t, ht⟩ := List.getElem?_of_mem hy
        have htk : t < k := by have := (List.getElem?_eq_some_iff.1 ht).1; rw [List.length_take] at this; omega
        rw [List.getElem?_take_of_lt htk] at ht
        rw [hpre t y htk ht]; rfl)
      have hf2 : (R.take (k + 1)).filter (fun r => !r.s.cl) = R.take k := by rw [filter_step hx, hf, if_pos (hat x hx), List.append_nil]
      exact ⟨⟨R, rfl, hf2.symm, fun t _ => rfl, own_below H.out hb1⟩, Left.of_below hb1 _, by rw [hf2, List.length_take]; omega, by omega, by omega⟩)
    clear hpre hat hx hb1
    go_wp2
    go_loopw [5, 6] (fun a s wr => ∃ i j : Nat, a = .int .i64 i ∧ s = .int .i64 j ∧ i < j ∧ j ≤ R.length ∧ Hid (DelI w wr B g cap i j R)) (fun _ s _ => R.length - (intOf s).toNat)
    case atStart => exact ⟨k, k + 1, rfl, by go_num, by omega, by omega, HI0⟩
    case round =>
      clear HI0
      obtain ⟨i, j, rfl, rfl, hij, hjn, HI⟩ := hrel
      obtain ⟨R2, e1, e2, e3, ho⟩ := HI.out.o
      have HO := Lib.hid ho
      have HE1 := Lib.hid e1
      have HE2 := Lib.hid e2
      have HE3 := Lib.hid e3
      have HL := Lib.hid HI.out.l
      have HNI := Lib.hid HI.out.n
      by_cases hlt : j < R.length
      · have hlt' : (j : Int) < (R.length : Int) := by omega
        obtain ⟨x, hx⟩ : ∃ x, R[j]? = some x := ⟨_, List.getElem?_eq_getElem hlt⟩
        obtain ⟨x0, x1, x2, x3, x4, x5, x6, x7, x8, x9, x10, x11, x12, x13, x14⟩ := ks_cells (k := j) ⟨R2, e1, e3, ho⟩ hx rfl
        obtain ⟨w7, hw7⟩ : ∃ w7, wr.alloc (.cells (seC x).toArray 61) = w7 := ⟨_, rfl⟩
        have hb7 : Below wr.heap.size wr w7 := by rw [← hw7]; exact (Below.refl _ _).alloc (Nat.le_refl _) _
        have hW7 : Whole w7 wr.heap.size 61 (seC x) := by rw [← hw7]; exact Whole.new wr 61 _
        obtain ⟨T, hT⟩ : ∃ T, wr.heap.size = T := ⟨_, rfl⟩
        rw [hT] at hW7
        have HT := Lib.hid hT
        have HA := Lib.hid (clos_any x w7)
        have HX := Lib.hid hx
        have HW7 := Lib.hid (fun wx (hx : Below w7.heap.size w7 wx) => ses_whole (hW7.belowH hx))
        have HB7 := Lib.hid hb7
        simp only [seC] at hw7
        have HWW := Lib.hid hw7
        clear e1 e2 e3 ho hx hw7 hb7 hW7 hT
        go_upto_region 8 with fail
        rw [HWW.out, HT.out]
        clear x0 x1 x2 x3 x4 x5 x6 x7 x8 x9 x10 x11 x12 x13 x14
        obtain ⟨x0, x1, x2, x3, x4, x5, x6, x7, x8, x9, x10, x11, x12, x13, x14⟩ := HW7.out _ (Below.refl _ _)
        unfold seV at HA
        go_wp2_with fail
        refine HA.out.mono ?_
        rintro e w8 ⟨rfl, hb8⟩
        clear x0 x1 x2 x3 x4 x5 x6 x7 x8 x9 x10 x11 x12 x13 x14
        obtain ⟨x0, x1, x2, x3, x4, x5, x6, x7, x8, x9, x10, x11, x12, x13, x14⟩ := HW7.out _ hb8
        have ho8 := own_below (own_below HO.out HB7.out) hb8
        have HL8 : Hid (Left [g] w w8) := Lib.hid ((HL.out.trans (Left.of_below HB7.out [g]) (fun k hk => .inl hk)).trans (Left.of_below hb8 [g]) (fun k hk => .inl hk))
        cases hcl : x.s.cl
        · rw [hcl] at x1
          obtain ⟨u0, p0⟩ : ∃ u, w8.cell? ⟨g, i * 15, none⟩ = some u := ⟨_, (ho8.cellAt _ (by omega)).trans (List.getElem?_eq_getElem (by rw [ho8.1]; omega))⟩
          have z0 : w8.frozen? ⟨g, i * 15, none⟩ = false := ho8.frozenAt _
          obtain ⟨u1, p1⟩ : ∃ u, w8.cell? ⟨g, i * 15 + 1, none⟩ = some u := ⟨_, (ho8.cellAt _ (by omega)).trans (List.getElem?_eq_getElem (by rw [ho8.1]; omega))⟩
          have z1 : w8.frozen? ⟨g, i * 15 + 1, none⟩ = false := ho8.frozenAt _
          obtain ⟨u2, p2⟩ : ∃ u, w8.cell? ⟨g, i * 15 + 2, none⟩ = some u := ⟨_, (ho8.cellAt _ (by omega)).trans (List.getElem?_eq_getElem (by rw [ho8.1]; omega))⟩
          have z2 : w8.frozen? ⟨g, i * 15 + 2, none⟩ = false := ho8.frozenAt _
          obtain ⟨u3, p3⟩ : ∃ u, w8.cell? ⟨g, i * 15 + 3, none⟩ = some u := ⟨_, (ho8.cellAt _ (by omega)).trans (List.getElem?_eq_getElem (by rw [ho8.1]; omega))⟩
          have z3 : w8.frozen? ⟨g, i * 15 + 3, none⟩ = false := ho8.frozenAt _
          obtain ⟨u4, p4⟩ : ∃ u, w8.cell? ⟨g, i * 15 + 4, none⟩ = some u := ⟨_, (ho8.cellAt _ (by omega)).trans (List.getElem?_eq_getElem (by rw [ho8.1]; omega))⟩
          have z4 : w8.frozen? ⟨g, i * 15 + 4, none⟩ = false := ho8.frozenAt _
          obtain ⟨u5, p5⟩ : ∃ u, w8.cell? ⟨g, i * 15 + 5, none⟩ = some u := ⟨_, (ho8.cellAt _ (by omega)).trans (List.getElem?_eq_getElem (by rw [ho8.1]; omega))⟩
          have z5 : w8.frozen? ⟨g, i * 15 + 5, none⟩ = false := ho8.frozenAt _
          obtain ⟨u6, p6⟩ : ∃ u, w8.cell? ⟨g, i * 15 + 6, none⟩ = some u := ⟨_, (ho8.cellAt _ (by omega)).trans (List.getElem?_eq_getElem (by rw [ho8.1]; omega))⟩
          have z6 : w8.frozen? ⟨g, i * 15 + 6, none⟩ = false := ho8.frozenAt _
          obtain ⟨u7, p7⟩ : ∃ u, w8.cell? ⟨g, i * 15 + 7, none⟩ = some u := ⟨_, (ho8.cellAt _ (by omega)).trans (List.getElem?_eq_getElem (by rw [ho8.1]; omega))⟩
          have z7 : w8.frozen? ⟨g, i * 15 + 7, none⟩ = false := ho8.frozenAt _
          obtain ⟨u8, p8⟩ : ∃ u, w8.cell? ⟨g, i * 15 + 8, none⟩ = some u := ⟨_, (ho8.cellAt _ (by omega)).trans (List.getElem?_eq_getElem (by rw [ho8.1]; omega))⟩
          have z8 : w8.frozen? ⟨g, i * 15 + 8, none⟩ = false := ho8.frozenAt _
          obtain ⟨u9, p9⟩ : ∃ u, w8.cell? ⟨g, i * 15 + 9, none⟩ = some u := ⟨_, (ho8.cellAt _ (by omega)).trans (List.getElem?_eq_getElem (by rw [ho8.1]; omega))⟩
          have z9 : w8.frozen? ⟨g, i * 15 + 9, none⟩ = false := ho8.frozenAt _
          obtain ⟨u10, p10⟩ : ∃ u, w8.cell? ⟨g, i * 15 + 10, none⟩ = some u := ⟨_, (ho8.cellAt _ (by omega)).trans (List.getElem?_eq_getElem (by rw [ho8.1]; omega))⟩
          have z10 : w8.frozen? ⟨g, i * 15 + 10, none⟩ = false := ho8.frozenAt _
          obtain ⟨u11, p11⟩ : ∃ u, w8.cell? ⟨g, i * 15 + 11, none⟩ = some u := ⟨_, (ho8.cellAt _ (by omega)).trans (List.getElem?_eq_getElem (by rw [ho8.1]; omega))⟩
          have z11 : w8.frozen? ⟨g, i * 15 + 11, none⟩ = false := ho8.frozenAt _
          obtain ⟨u12, p12⟩ : ∃ u, w8.cell? ⟨g, i * 15 + 12, none⟩ = some u := ⟨_, (ho8.cellAt _ (by omega)).trans (List.getElem?_eq_getElem (by rw [ho8.1]; omega))⟩
          have z12 : w8.frozen? ⟨g, i * 15 + 12, none⟩ = false := ho8.frozenAt _
          obtain ⟨u13, p13⟩ : ∃ u, w8.cell? ⟨g, i * 15 + 13, none⟩ = some u := ⟨_, (ho8.cellAt _ (by omega)).trans (List.getElem?_eq_getElem (by rw [ho8.1]; omega))⟩
          have z13 : w8.frozen? ⟨g, i * 15 + 13, none⟩ = false := ho8.frozenAt _
          obtain ⟨u14, p14⟩ : ∃ u, w8.cell? ⟨g, i * 15 + 14, none⟩ = some u := ⟨_, (ho8.cellAt _ (by omega)).trans (List.getElem?_eq_getElem (by rw [ho8.1]; omega))⟩
          have z14 : w8.frozen? ⟨g, i * 15 + 14, none⟩ = false := ho8.frozenAt _
          have HJ8 : Hid (DelI w (w8.setCells g (i * 15) (seC x)) B g cap (i + 1) (j + 1) R) := Lib.hid (by
            obtain ⟨o5, g5⟩ := Enc.own_setCells (seC x) (i * 15) (eS.cells R2) w8 ho8
            have hl5 := left_of_grown (v := .slice (some ⟨g, 0, none⟩) R.length cap) g5
            have hfs : (R.take (j + 1)).filter (fun r => !r.s.cl) = (R.take j).filter (fun r => !r.s.cl) ++ [x] := by rw [filter_step HX.out, hcl]; rfl
            refine ⟨⟨R2.set i x, by rw [List.length_set]; exact HE1.out, ?_, fun t ht => by rw [List.getElem?_set_ne (by omega)]; exact HE3.out t (by omega), ?_⟩, HL8.out.trans hl5 (fun q hq => .inl (by have := mem_ownL.1 hq; simp only [Value.ownBlock] at this; injection this with this; first | done | simp [this])), by rw [hfs, List.length_append, ← HNI.out]; rfl, by omega, by omega⟩
            · rw [hfs, List.take_add_one, List.take_set_of_le (Nat.le_refl _), HE2.out, List.getElem?_set_self (by rw [HE1.out]; omega)]
              rfl
            · rw [← lay_set R2 i x (by rw [HE1.out]; omega)]
              exact o5)
          simp only [seC] at HJ8
          rw [hcl] at HJ8
          clear ho8 hb8 hcl
          go_wp2
          go_roundw
          case rel => exact ⟨i + 1, j + 1, by go_num, by go_num, by omega, by omega, HJ8⟩
          case measure => simp [intOf]; omega
        · have HJ8 : Hid (DelI w w8 B g cap i (j + 1) R) := Lib.hid (by
            have hfs : (R.take (j + 1)).filter (fun r => !r.s.cl) = (R.take j).filter (fun r => !r.s.cl) := by rw [filter_step HX.out, hcl, if_pos rfl, List.append_nil]
            exact ⟨⟨R2, HE1.out, by rw [hfs]; exact HE2.out, fun t ht => HE3.out t (by omega), ho8⟩, HL8.out, by rw [hfs]; exact HNI.out, by omega, by omega⟩)
          clear ho8 hb8 hcl
          go_wp2
          go_roundw
          case rel => exact ⟨i, j + 1, rfl, by go_num, by omega, by omega, HJ8⟩
          case measure => simp [intOf]; omega
      · have hlt' : ¬ ((j : Int) < (R.length : Int)) := by omega
        have hjl : j = R.length := by omega
        have HFR : Hid (R.filter (fun r => !r.s.cl) = R2.take i) := Lib.hid (by rw [e2, hjl, List.take_length])
        have hcl := run_clearS wr
        have hin : i ≤ R.length := by omega
        have hic : i ≤ cap := by omega
        have hcc2 := fun ty c2 => run_clearS wr ty g (i * 15) (R.length - i) c2 (fun q hq => by rw [ho.cellAt _ (by omega), List.getElem?_eq_getElem (by rw [ho.1]; omega)]; rfl) (fun q hq => ho.frozenAt _)
        have HFIN : Hid ((wr.setCells g (i * 15) (zRow (R.length - i))).ownsRow B 61 15 (.slice (some ⟨g, 0, none⟩) i cap) i (eS.cells (R2.take i)) ∧ Left [g] w (wr.setCells g (i * 15) (zRow (R.length - i)))) := Lib.hid (by
          obtain ⟨o5, g5⟩ := Enc.own_setCells (zRow (R.length - i)) (i * 15) (eS.cells R2) wr ho
          have hl5 := left_of_grown (v := .slice (some ⟨g, 0, none⟩) R.length cap) g5
          have hsp : eS.cells R2 = eS.cells (R2.take i) ++ eS.cells (R2.drop i) := by rw [← eS.cells_app, List.take_append_drop]
          have l1 : (eS.cells (R2.take i)).length = i * 15 := by rw [eS.cells_length, List.length_take, Nat.min_eq_left (by omega)]; rfl
          have l2 : (eS.cells (R2.drop i)).length = (R.length - i) * 15 := by rw [eS.cells_length, List.length_drop, e1]; rfl
          have hlay : Enc.layL (eS.cells R2) (i * 15) (zRow (R.length - i)) = eS.cells (R2.take i) ++ zRow (R.length - i) := by
            have := Enc.layL_app (zRow (R.length - i)) (eS.cells (R2.take i)) [] (eS.cells (R2.drop i)) (by rw [zRow_len, l2])
            rw [List.append_nil, List.append_nil, l1, ← hsp] at this
            exact this
          rw [hlay] at o5
          have o6 := Enc.own_cut (m := i) o5 hin
          rw [List.take_append_of_le_length (by rw [l1]; omega), List.take_of_length_le (by rw [l1]; omega)] at o6
          exact ⟨o6, HL.out.trans hl5 (fun q hq => .inl (by have := mem_ownL.1 hq; simp only [Value.ownBlock] at this; injection this with this; first | done | simp [this]))⟩)
        have HLT : Hid ((R2.take i).length = i) := Lib.hid (by rw [List.length_take]; omega)
        clear hcl e1 e2 e3 ho hjl
        go_wp2
        go_ret
        exact ⟨_, rfl, by rw [HFR.out, HLT.out]; exact HFIN.out.1, left_more HFIN.out.2 (fun q hq => by simp only [List.mem_singleton] at hq; subst hq; exact mem_ownL.2 rfl), fun q hq => by have := mem_ownL.1 hq; exact mem_ownL.2 this⟩
end Go.Proofs.YtknnaeejkmlnbaaGreatDoor
namespace Go.Proofs.YtknnaeejkmlnbaaGreatDoor
open Go.RowKit Go.Shelf Go.Proofs
/-- What lasts of a session. -/
def dur1 (s : Se) : Se := ⟨s.c, s.cl, 0, s.S, s.o, s.I, wl0, 0, 0⟩
/-- What lasts of a broker. -/
def durL (S : List Se) : List Se := (S.filter (fun s => !s.cl)).map dur1
def durB (b : Br) : Br := ⟨[], durL b.S, b.K⟩
theorem durL_skip {S : List Se} {k : Nat} {s : Se} (h : S[k]? = some s) (hc : s.cl = true) : durL (S.take (k + 1)) = durL (S.take k) := by
  unfold durL
  rw [List.take_add_one, h, List.filter_append]
  simp [hc]
theorem durL_one {S : List Se} {k : Nat} {s : Se} (h : S[k]? = some s) (hc : s.cl = false) : durL (S.take (k + 1)) = durL (S.take k) ++ [dur1 s] := by
  unfold durL
  rw [List.take_add_one, h, List.filter_append]
  simp [hc]
theorem dur1_same {s : Se} (hs : sesOk s) (h0 : s.ln = 0 ∧ s.cl = false) : dur1 s = s := by
  obtain ⟨_, _, _, _, _, _, hwl, hwn, _, _, hlk⟩ := hs
  have hwi : s.wl.is = false := by
    cases hi : s.wl.is
    · rfl
    · exact absurd h0.1 (hwn hi).1
  have h1 := hwl.1 hwi
  have h2 : s.keep = 0 ∧ s.idle = 0 := by
    rcases hlk with h | h
    · have := h0.1; omega
    · exact h
  obtain ⟨c, cl, ln, S, o, I, wl, keep, idle⟩ := s
  simp only at h0 h1 h2
  unfold dur1
  simp only
  rw [h0.1, h1, h2.1, h2.2]
/-- What lasts lasts as it is. -/
theorem durB_same {b : Br} (h : rmOk b) : durB b = b := by
  obtain ⟨L, S, K⟩ := b
  obtain ⟨⟨_, _, _, h4, _⟩, h5, h6⟩ := h
  simp only at h4 h5 h6
  subst h5
  unfold durB durL
  simp only
  congr 1
  rw [List.filter_eq_self.2 (fun s hs => by rw [(h6 s hs).2]; rfl)]
  refine (List.map_congr_left fun s hs => ?_).trans (List.map_id S)
  obtain ⟨i, hi⟩ := List.getElem?_of_mem hs
  exact dur1_same (h4 i s hi).1 (h6 s hs)
/-- A broker on its way. -/
structure DI (w wr : World) (T : Nat) (ar : List Value) (sv : Value) (R : List Rs) (kv : Value) (K : List Msg) : Prop where
  A : Whole wr w.heap.size 26 ar
  Z : Whole wr (w.heap.size + 1) 26 [.slice none 0 0, .slice none 0 0, .slice none 0 0]
  W : Whole wr T 26 [.slice none 0 0, sv, kv]
  s : wr.ownsRow (T + 1) 61 15 sv R.length (eS.cells R)
  e : ∀ x ∈ R, SOwn wr (T + 1) 0 x
  k : wr.ownsRow (w.heap.size + 2) 83 4 kv K.length (eM.cells K)
  l : Below w.heap.size w wr
  o : w.heap.size + 2 ≤ T ∧ T + 1 ≤ wr.heap.size
section
variable {w wr w' : World} {T : Nat} {ar : List Value} {sv v' kv : Value} {R : List Rs} {K : List Msg}
theorem DI.below (h : DI w wr T ar sv R kv K) (hb : Below wr.heap.size wr w') : DI w w' T ar sv R kv K := by
  have hl := Left.of_below hb []
  have ho := h.o
  have hz := hb.size
  exact ⟨h.A.belowH hb, h.Z.belowH hb, h.W.belowH hb, own_below h.s hb, fun x hx => (h.e x hx).left hl (by simp), own_below h.k hb, b_tr h.l hb, by omega⟩
theorem DI.put_s {x : Rs} (h : DI w wr T ar sv R kv K) (hx : SOwn wr (T + 1) 0 x) (ho : w'.ownsRow (T + 1) 61 15 v' (R.length + 1) (eS.cells R ++ eS.c x)) (hg : wr.grownBy w' sv.ownBlock) :
    DI w (w'.setCell ⟨T, 1, none⟩ v') T ar v' (R ++ [x]) kv K := by
  have hoo := h.o
  have hl := left_of_grown hg
  have hne : ∀ k ∈ Value.ownL sv, T + 1 ≤ k := fun k hk => (h.s.lt k (mem_ownL.1 hk)).1
  have hty : ∀ k ∈ Value.ownL sv, Ty wr k 61 := fun k hk => own_ty h.s (mem_ownL.1 hk)
  have hsT : Left [T] w' (w'.setCell ⟨T, 1, none⟩ v') := set1 w' T 1 v'
  have hT : ∀ k ∈ [T], k < T + 1 := fun k hk => by rw [List.mem_singleton.1 hk]; omega
  have hzz := hl.size
  have hz2 := hsT.size
  have hk1 := own_leftB h.k hl (fun k hk e => (own_ty h.k e).ne (hty k hk) (by decide) rfl)
  have hW1 : Whole w' T 26 [.slice none 0 0, sv, kv] := h.W.left hl (fun hm => by have := hne _ hm; omega)
  refine ⟨(h.A.left hl (fun hm => by have := hne _ hm; omega)).other (by simp only; omega) v', (h.Z.left hl (fun hm => by have := hne _ hm; omega)).other (by simp only; omega) v', hW1.put 1 v', ?_, ?_,
    own_leftB hk1 hsT (fun k hk e => by rw [List.mem_singleton.1 hk] at e; exact (own_ty hk1 e).ne ⟨_, _, hW1⟩ (by decide) rfl), ?_, ⟨hoo.1, by omega⟩⟩
  · rw [eS.cells_app, eS.cells_one, List.length_append]
    exact own_left ho hsT hT
  · intro z hz
    rcases List.mem_append.1 hz with hz | hz
    · exact ((h.e z hz).ty hl hty).left hsT hT
    · rw [List.mem_singleton.1 hz]
      exact (hx.ty hl hty).left hsT hT
  · exact (h.l.trans (hl.belowB (by omega) (fun k hk => by have := hne k hk; omega))).trans (hsT.belowB (by omega) (fun k hk => by rw [List.mem_singleton.1 hk]; omega))
/-- The answer laid where it is told. -/
theorem DI.res (h : DI w wr T ar sv R kv K) (hl : Left [w.heap.size + 1] wr w') : Below w.heap.size w w' ∧ BRd w' w'.heap.size (.slice none 0 0) sv kv R ⟨[], R.map (·.s), K⟩ := by
  have hoo := h.o
  have hT : ∀ k ∈ [w.heap.size + 1], k < T + 1 := fun k hk => by rw [List.mem_singleton.1 hk]; omega
  exact ⟨h.l.trans (hl.belowB (by omega) (fun k hk => by rw [List.mem_singleton.1 hk]; omega)), ⟨rfl, Rd.nil_ _ _ _, Rd.of_own (own_left h.s hl hT), fun x hx => ((h.e x hx).left hl hT).rd, Rd.of_own (own_left h.k hl (fun k hk => by rw [List.mem_singleton.1 hk]; omega))⟩⟩
end
set_option maxRecDepth 20000 in
set_option maxHeartbeats 8000000 in
theorem Dur_any (w : World) (lv sv kv : Value) (R : List Rs) (b : Br) (h : BRd w w.heap.size lv sv kv R b) (hk : broOk b) :
    Calls Tryz.prog 11 #[.agg #[lv, sv, kv]] w fun e w' => ∃ sv' kv', e = .returned (.agg #[.slice none 0 0, sv', kv']) ∧ (∃ R', BRd w' w'.heap.size (.slice none 0 0) sv' kv' R' (durB b)) ∧ Below w.heap.size w w' := by
  obtain ⟨L, S, K⟩ := b
  obtain ⟨hRe, hRl, hRs, hRr, hRk⟩ := h
  obtain ⟨hk1, hk2, _, hk4, _⟩ := hk
  simp only at hRe hRl hRk hk1 hk2 hk4
  subst hRe
  obtain ⟨la, lc, rfl, _, hlm⟩ := hRl.form
  obtain ⟨sa, sc, rfl, _, hsm⟩ := hRs.form
  obtain ⟨ka, kc, rfl, _, _⟩ := hRk.form
  have hsc : sc ≤ 9223372036854775807 := by unfold maxLen at hsm; omega
  have hrl : R.length ≤ 8 := by simpa using hk1
  have hkl : K.length ≤ 16 := (kept_f hk2).1
  obtain ⟨B, hB⟩ : ∃ B, w.heap.size = B := ⟨_, rfl⟩
  obtain ⟨w1, hw1⟩ : ∃ w1, (w.alloc (.cells #[.slice la L.length lc, .slice sa R.length sc, .slice ka K.length kc] 26)).alloc (.cells #[.slice none 0 0, .slice none 0 0, .slice none 0 0] 26) = w1 := ⟨_, rfl⟩
  have hb1 : Below w.heap.size w w1 := by rw [← hw1]; go_grown
  have hz1 : w1.heap.size = B + 2 := by rw [← hw1]; simp [hB]
  have hA1 : Whole w1 B 26 [.slice la L.length lc, .slice sa R.length sc, .slice ka K.length kc] := by rw [← hw1, ← hB]; exact (Whole.new w 26 _).alloc _
  have hR1 : Whole w1 (B + 1) 26 [.slice none 0 0, .slice none 0 0, .slice none 0 0] := by
    rw [← hw1, ← hB]
    have := Whole.new (w.alloc (.cells #[.slice la L.length lc, .slice sa R.length sc, .slice ka K.length kc] 26)) 26 [.slice none 0 0, .slice none 0 0, .slice none 0 0]
    simpa using this
  have HCM := Lib.hid (cpM_any w1 _ K _ (hRk.below hb1) hb1.size (by omega))
  have HRS := Lib.hid (fun wx (hx : Below w.heap.size w wx) => hRs.below hx)
  have HRR := Lib.hid (fun x (hm : x ∈ R) wx (hx : Below w.heap.size w wx) => ((hRr x hm).below hx).more hx.size)
  have HSZ : Hid (∀ x ∈ R, x.s.S.length ≤ 1000000 ∧ x.s.o.F.length ≤ 1000000 ∧ x.s.o.Q.length ≤ 1000000 ∧ x.s.I.length ≤ 1000000) := Lib.hid (fun x hx => by
    obtain ⟨i, hi⟩ := List.getElem?_of_mem hx
    obtain ⟨_, _, _, h4, h5, h6, _⟩ := (hk4 i x.s (by rw [List.getElem?_map, hi]; rfl)).1
    have g1 := (subs_f h4).1
    have g2 := h6.1
    obtain ⟨_, _, o3, o4, _⟩ := h5
    omega)
  have HW1 := Lib.hid hw1
  have HBB := Lib.hid hB
  obtain ⟨a0, a1, a2, _, _, _⟩ := hA1.three
  clear hRl hRs hRr hRk hk2 hk4 hlm hsm hk1 hw1
  go_enter Tryz.func11, Tryz.ntmps11
  go_upto_region 1 with fail
  rw [HW1.out]
  go_upto_region 2 with (go_at_call 18; refine HCM.out.mono ?_; rintro e w2 ⟨v2, rfl, ho2, hb2⟩; obtain ⟨k2, kc2, rfl, _, _⟩ := (Rd.of_own ho2).form)
  clear a0 a1 a2
  obtain ⟨T, hT⟩ : ∃ T, w2.heap.size = T := ⟨_, rfl⟩
  obtain ⟨w3, hw3⟩ : ∃ w3, w2.alloc (.cells #[.slice none 0 0, .slice none 0 0, .slice k2 K.length kc2] 26) = w3 := ⟨_, rfl⟩
  have hb3 : Below w2.heap.size w2 w3 := by rw [← hw3]; exact (Below.refl _ _).alloc (Nat.le_refl _) _
  have hz2 := hb2.size
  have hz3 : w3.heap.size = T + 1 := by rw [← hw3, ← hT]; simp
  have HI0 : Hid (DI w w3 T [.slice la L.length lc, .slice sa R.length sc, .slice ka K.length kc] (.slice none 0 0) [] (.slice k2 K.length kc2) K) := Lib.hid
    ⟨by rw [hB]; exact (hA1.belowH hb2).belowH hb3, by rw [hB]; exact (hR1.belowH hb2).belowH hb3, by rw [← hw3, ← hT]; exact Whole.new w2 26 _, World.ownsRow_nil _ _ _ _, by simp, own_below (own_base ho2 (by omega)) hb3, b_tr (b_tr hb1 hb2) hb3, by omega⟩
  rw [hw3]
  have HTT := Lib.hid hT
  clear hA1 hR1 hb1 hb2 ho2 hb3 hw3 hz1 hz2 hz3 hT hB
  rw [HTT.out]
  go_wp2
  go_loopw [4] (fun i wr => ∃ (k : Nat) (sv : Value) (R2 : List Rs), i = .int .i64 k ∧ k ≤ R.length ∧ Hid (DI w wr T [.slice la L.length lc, .slice sa R.length sc, .slice ka K.length kc] sv R2 (.slice k2 K.length kc2) K) ∧ Hid (R2.map (·.s) = durL ((R.map (·.s)).take k)) ∧ R2.length ≤ k) (fun i _ => R.length - (intOf i).toNat)
  case atStart => exact ⟨0, _, [], rfl, by omega, HI0, Lib.hid rfl, by simp⟩
  case round =>
    clear HI0
    obtain ⟨k, sv, R2, rfl, hkl2, HI, HR2, hr2⟩ := hrel
    have hA := HI.out.A
    rw [HBB.out] at hA
    obtain ⟨a0, a1, a2, _, _, _⟩ := hA.three
    clear hA
    obtain ⟨so, scp, rfl, _, _⟩ := (Rd.of_own HI.out.s).form
    by_cases hlt : k < R.length
    · have hlt' : (k : Int) < (R.length : Int) := by omega
      obtain ⟨x, hx⟩ : ∃ x, R[k]? = some x := ⟨_, List.getElem?_eq_getElem hlt⟩
      obtain ⟨b, o, rfl, _, hcs⟩ := Enc.rd_cell (E := eS) (HRS.out _ HI.out.l) rfl hx
      obtain ⟨x0, x1, x2, x3, x4, x5, x6, x7, x8, x9, x10, x11, x12, x13, x14⟩ := ses_cells (show World.rangeAt _ b (o + k * 15) (eS.c x) from hcs)
      have hxm := List.mem_of_getElem? hx
      have HCS := Lib.hid (cpS_any wr x (HRR.out x hxm _ HI.out.l) (HSZ.out x hxm))
      have HXS : Hid ((R.map (·.s))[k]? = some x.s) := Lib.hid (by rw [List.getElem?_map, hx]; rfl)
      clear hx hcs hxm
      unfold seV at HCS
      go_upto_region 6 with (go_at_call 31; refine HCS.out.mono ?_; rintro e wz ⟨⟨rs, rsa, rsc, rfa, rfc, rqa, rqc, ria, ric⟩, hrs, rfl, hso, hbz⟩; obtain rfl : rs = x.s := hrs)
      clear x0 x1 x2 x3 x4 x5 x6 x7 x8 x9 x10 x11 x12 x13 x14 a0 a1 a2 HCS
      obtain ⟨w5, hw5⟩ : ∃ w5, wz.alloc (.cells (seC ⟨x.s, rsa, rsc, rfa, rfc, rqa, rqc, ria, ric⟩).toArray 61) = w5 := ⟨_, rfl⟩
      have hb5 : Below wz.heap.size wz w5 := by rw [← hw5]; exact (Below.refl _ _).alloc (Nat.le_refl _) _
      have hW5 : Whole w5 wz.heap.size 61 (seC ⟨x.s, rsa, rsc, rfa, rfc, rqa, rqc, ria, ric⟩) := by rw [← hw5]; exact Whole.new wz 61 _
      obtain ⟨T5, hT5⟩ : ∃ T5, wz.heap.size = T5 := ⟨_, rfl⟩
      simp only [seC] at hw5
      rw [hw5]
      rw [hT5] at hW5 ⊢
      have HT5 := Lib.hid hT5
      clear hw5 hT5
      obtain ⟨y0, y1, y2, y3, y4, y5, y6, y7, y8, y9, y10, y11, y12, y13, y14⟩ := ses_whole hW5
      dsimp only at y0 y1 y2 y3 y4 y5 y6 y7 y8 y9 y10 y11 y12 y13 y14
      cases hcl : x.s.cl
      · rw [hcl] at y1
        simp only [seC] at hW5
        rw [hcl] at hW5
        have HCL := Lib.hid hcl
        clear hcl
        have f2 := hW5.free 2
        have f8 := hW5.free 8
        have f9 := hW5.free 9
        have f10 := hW5.free 10
        have f11 := hW5.free 11
        have f12 := hW5.free 12
        have f13 := hW5.free 13
        have f14 := hW5.free 14
        go_upto_region 8 with fail
        clear f2 f8 f9 f10 f11 f12 f13 f14 y0 y1 y2 y3 y4 y5 y6 y7 y8 y9 y10 y11 y12 y13 y14
        obtain ⟨w6, hw6⟩ : ∃ w6, ((((((((w5.setCell ⟨T5, 2, none⟩ (.int .i64 0)).setCell ⟨T5, 13, none⟩ (.int .i64 0)).setCell ⟨T5, 14, none⟩ (.int .i64 0)).setCell ⟨T5, 8, none⟩ (.bool false)).setCell ⟨T5, 9, none⟩ (.string ⟨#[]⟩)).setCell ⟨T5, 10, none⟩ (.string ⟨#[]⟩)).setCell ⟨T5, 11, none⟩ (.int .i64 0)).setCell ⟨T5, 12, none⟩ (.bool false)) = w6 := ⟨_, rfl⟩
        have hle : wz.heap.size ≤ T5 := Nat.le_of_eq HT5.out
        have hb6 : Below wz.heap.size wz w6 := by
          rw [← hw6]
          exact (((((((hb5.setCell hle _).setCell hle _).setCell hle _).setCell hle _).setCell hle _).setCell hle _).setCell hle _).setCell hle _
        have hW6 : Whole w6 T5 61 (seC ⟨⟨x.s.c, false, 0, x.s.S, x.s.o, x.s.I, wl0, 0, 0⟩, rsa, rsc, rfa, rfc, rqa, rqc, ria, ric⟩) := by
          rw [← hw6]
          exact ((((((((hW5.put 2 _).put 13 _).put 14 _).put 8 _).put 9 _).put 10 _).put 11 _).put 12 _)
        rw [hw6]
        have hdi := HI.out.below (b_tr hbz hb6)
        have hoo := HI.out.o
        have HSO : Hid (SOwn w6 (T + 1) 0 ⟨⟨x.s.c, false, 0, x.s.S, x.s.o, x.s.I, wl0, 0, 0⟩, rsa, rsc, rfa, rfc, rqa, rqc, ria, ric⟩) := Lib.hid (by
          have h := (hso.base hoo.2).left (Left.of_below hb6 []) (by simp)
          exact ⟨h.s, h.f, h.q, h.i⟩)
        have hba : Below w6.heap.size w6 (w6.alloc (.cells (seC ⟨⟨x.s.c, false, 0, x.s.S, x.s.o, x.s.I, wl0, 0, 0⟩, rsa, rsc, rfa, rfc, rqa, rqc, ria, ric⟩).toArray 61)) := (Below.refl _ _).alloc (Nat.le_refl _) _
        have HI7 := Lib.hid (hdi.below hba)
        have HSO7 := Lib.hid (HSO.out.left (Left.of_below hba []) (by simp))
        have HA := Lib.hid (enc_new eS w6 61 ⟨⟨x.s.c, false, 0, x.s.S, x.s.o, x.s.I, wl0, 0, 0⟩, rsa, rsc, rfa, rfc, rqa, rqc, ria, ric⟩)
        obtain ⟨y0, y1, y2, y3, y4, y5, y6, y7, y8, y9, y10, y11, y12, y13, y14⟩ := ses_whole hW6
        dsimp only [wl0] at y0 y1 y2 y3 y4 y5 y6 y7 y8 y9 y10 y11 y12 y13 y14
        obtain ⟨d0, d1, d2, _, _, _⟩ := hdi.W.three
        have hT6 : T + 1 ≤ w6.heap.size := hdi.o.2
        simp only [eS, seC, wl0] at HA
        simp only [seC, wl0] at HI7
        clear hw6 hle hb6 hW6 hdi hso hba hb5 hW5 HSO
        go_wp2_with (at_builtin; refine wpList_app _ rfl (.tmp 31) (.tmp 33) _ rfl (T + 1) 61 (.agg #[.string ⟨#[]⟩, .bool false, .int .i64 0, .slice none 0 0, .int .i64 0, .slice none 0 0, .slice none 0 0, .slice none 0 0, .bool false, .string ⟨#[]⟩, .string ⟨#[]⟩, .int .i64 0, .bool false, .int .i64 0, .int .i64 0]) 15 208 Tryz.underlying23 inf_S rfl (by omega) _ R2.length (eS.cells R2) rfl HI7.out.s _ _ 1 (eS.c ⟨⟨x.s.c, false, 0, x.s.S, x.s.o, x.s.I, wl0, 0, 0⟩, rsa, rsc, rfa, rfc, rqa, rqc, ria, ric⟩) rfl HA.out (eS.one _) ?_ ?_ ?_ ?_)
        · unfold maxLen; omega
        · omega
        · simp; omega
        intro v5 w7 ho7 hg7 _
        have hW7 : Whole w7 T 26 [.slice none 0 0, .slice so R2.length scp, .slice k2 K.length kc2] := HI7.out.W.left (left_of_grown hg7) (fun hm => by have := (HI7.out.s.lt _ (mem_ownL.1 hm)).1; omega)
        obtain ⟨g0, g1, g2, q0, q1, q2⟩ := hW7.three
        obtain ⟨vo5, vc5, rfl, _, _⟩ := (Rd.of_own ho7).form
        have HI8 := Lib.hid (HI7.out.put_s HSO7.out ho7 hg7)
        have HR3 : Hid ((R2 ++ [(⟨⟨x.s.c, false, 0, x.s.S, x.s.o, x.s.I, wl0, 0, 0⟩, rsa, rsc, rfa, rfc, rqa, rqc, ria, ric⟩ : Rs)]).map (·.s) = durL ((R.map (·.s)).take (k + 1))) := Lib.hid (by
          rw [durL_one HXS.out HCL.out, List.map_append, HR2.out]
          unfold dur1
          rw [HCL.out]
          rfl)
        clear ho7 hg7 hW7
        go_wp2
        go_roundw
        case rel => exact ⟨k + 1, _, _, by go_num, by omega, HI8, HR3, by simp; omega⟩
        case measure => simp [intOf]; omega
      · rw [hcl] at y1
        have HI5 := Lib.hid (HI.out.below (b_tr hbz hb5))
        have HR3 : Hid (R2.map (·.s) = durL ((R.map (·.s)).take (k + 1))) := Lib.hid (by rw [durL_skip HXS.out hcl, HR2.out])
        clear hcl hso hbz hb5 hW5
        go_wp2
        go_roundw
        case rel => exact ⟨k + 1, _, R2, by go_num, by omega, HI5, HR3, by omega⟩
        case measure => simp [intOf]; omega
    · have hlt' : ¬ ((k : Int) < (R.length : Int)) := by omega
      obtain rfl : k = R.length := by omega
      obtain ⟨d0, d1, d2, _, _, _⟩ := HI.out.W.three
      have hZ := HI.out.Z
      rw [HBB.out] at hZ
      obtain ⟨z0, z1, z2, q0, q1, q2⟩ := hZ.three
      have HZ := Lib.hid hZ
      have HB2 := Lib.hid (HI.out.res (w' := ((wr.setCell ⟨B + 1, 0, none⟩ (.slice none 0 0)).setCell ⟨B + 1, 1, none⟩ (.slice so R2.length scp)).setCell ⟨B + 1, 2, none⟩ (.slice k2 K.length kc2)) (by rw [HBB.out]; exact (((Left.refl _ wr).setCell (Or.inl (by simp)) _).setCell (Or.inl (by simp)) _).setCell (Or.inl (by simp)) _))
      have HE : Hid (R2.map (·.s) = durL (R.map (·.s))) := Lib.hid (by rw [HR2.out, List.take_of_length_le (by simp)])
      clear hZ
      go_wp2
      (try simp only [Exit.inBlock, Exit.then])
      refine bodyPost_ret (results_cell_row (P := Tryz.prog) (p := 2) (ty := 26) rfl _ _ (B + 1) 26 _ (0, 0) _ rfl (((HZ.out.put 0 _).put 1 _).put 2 _) Tryz.underlying26 rfl (by kernel_rfl)) rfl ?_
      refine ⟨_, _, rfl, ⟨R2, ?_⟩, HB2.out.1⟩
      have := HB2.out.2
      rw [HE.out] at this
      exact this
end Go.Proofs.YtknnaeejkmlnbaaGreatDoor
namespace Go.Proofs.YtknnaeejkmlnbaaGreatDoor
open Go.RowKit
/-- Clean ones taken out: the others stay apart. -/
theorem BOwn.del {w w' : World} {B : Nat} {sv kv v' : Value} {R : List Rs} {K : List Msg} (h : BOwn w B sv kv R K) (ho : w'.ownsRow B 61 15 v' (R.filter (fun r => !r.s.cl)).length (eS.cells (R.filter (fun r => !r.s.cl)))) (hl : Left (Value.ownL sv) w w') :
    BOwn w' B v' kv (R.filter (fun r => !r.s.cl)) K := by
  have hty : ∀ q ∈ Value.ownL sv, Ty w q 61 := fun q hq => own_ty h.s (mem_ownL.1 hq)
  exact ⟨ho, fun x hx => (h.r x (List.mem_filter.1 hx).1).ty hl hty, own_leftB h.k hl (fun q hq e => (own_ty h.k e).ne (hty q hq) (by decide) rfl), h.p.filter _, fun x hx => h.q x (List.mem_filter.1 hx).1⟩
/-- What is beneath stands. -/
theorem BOwn.left {w w' : World} {B : Nat} {sv kv : Value} {R : List Rs} {K : List Msg} {S : List Nat} (h : BOwn w B sv kv R K) (hl : Left S w w') (hS : ∀ k ∈ S, k < B) : BOwn w' B sv kv R K :=
  ⟨own_left h.s hl hS, fun x hx => (h.r x hx).left hl hS, own_left h.k hl hS, h.p, h.q⟩
theorem BOwn.base {w : World} {B B' : Nat} {sv kv : Value} {R : List Rs} {K : List Msg} (h : BOwn w B sv kv R K) (hB : B' ≤ B) : BOwn w B' sv kv R K :=
  ⟨own_base h.s hB, fun x hx => (h.r x hx).base hB, own_base h.k hB, h.p, h.q⟩
theorem BOwn.brd {w : World} {B : Nat} {sv kv : Value} {R : List Rs} {b : Br} (h : BOwn w B sv kv R b.K) (hL : b.L = []) (he : R.map (·.s) = b.S) : BRd w w.heap.size (.slice none 0 0) sv kv R b :=
  ⟨he, by rw [hL]; exact Rd.nil_ _ _ _, Rd.of_own h.s, fun x hx => (h.r x hx).rd, Rd.of_own h.k⟩
def dr1 (x : Rs) : Rs := ⟨dur1 x.s, x.sa, x.sc, x.fa, x.fc, x.qa, x.qc, x.ia, x.ic⟩
/-- The first k are what lasts. -/
def drK (R : List Rs) (k : Nat) : List Rs := (R.take k).map dr1 ++ R.drop k
theorem drK_len (R : List Rs) (k : Nat) : (drK R k).length = R.length := by
  unfold drK
  rw [List.length_append, List.length_map, ← List.length_append, List.take_append_drop]
theorem drK_zero (R : List Rs) : drK R 0 = R := by simp [drK]
theorem drK_all (R : List Rs) : drK R R.length = R.map dr1 := by simp [drK]
theorem drK_set (R : List Rs) (k : Nat) (x : Rs) (h : R[k]? = some x) : (drK R k).set k (dr1 x) = drK R (k + 1) := by
  obtain ⟨hk, rfl⟩ := List.getElem?_eq_some_iff.1 h
  unfold drK
  have hl : ((R.take k).map dr1).length = k := by rw [List.length_map, List.length_take]; omega
  rw [List.set_append_right _ _ (by omega), hl, Nat.sub_self, List.drop_eq_getElem_cons hk, List.set_cons_zero, List.take_add_one, List.getElem?_eq_getElem hk, List.map_append, List.append_assoc]
  rfl
theorem drK_at (R : List Rs) (k : Nat) : (drK R k)[k]? = R[k]? := by
  unfold drK
  by_cases hk : k < R.length
  · have hl : ((R.take k).map dr1).length = k := by rw [List.length_map, List.length_take]; omega
    rw [List.getElem?_append_right (by omega), hl, Nat.sub_self, List.getElem?_drop, Nat.add_zero]
  · rw [List.getElem?_eq_none (by simp; omega), List.getElem?_eq_none (by omega)]
theorem dr1_blk (x : Rs) : blk (dr1 x) = blk x := rfl
theorem drK_blk (R : List Rs) (k : Nat) : (drK R k).map blk = R.map blk := by
  unfold drK
  rw [List.map_append, List.map_map, show (blk ∘ dr1) = blk from funext dr1_blk, ← List.map_append, List.take_append_drop]
theorem pw_blk {R R2 : List Rs} (h : R.Pairwise (fun x y => ∀ g ∈ blk x, g ∉ blk y)) (e : R2.map blk = R.map blk) : R2.Pairwise (fun x y => ∀ g ∈ blk x, g ∉ blk y) := by
  have h1 : (R.map blk).Pairwise (fun a b => ∀ g ∈ a, g ∉ b) := List.pairwise_map.2 h
  rw [← e] at h1
  exact List.pairwise_map.1 h1
theorem SOwn.dr1 {w : World} {B N : Nat} {x : Rs} (h : SOwn w B N x) : SOwn w B N (dr1 x) := ⟨h.s, h.f, h.q, h.i⟩
theorem lay_dur (R : List Rs) (i : Nat) (x : Rs) (hx : R[i]? = some x) :
    Enc.layL (Enc.layL (Enc.layL (Enc.layL (eS.cells R) (i * 15 + 2) [.int .i64 0]) (i * 15 + 13) [.int .i64 0]) (i * 15 + 14) [.int .i64 0]) (i * 15 + 8) [.bool false, .string ⟨#[]⟩, .string ⟨#[]⟩, .int .i64 0, .bool false] = eS.cells (R.set i (dr1 x)) := by
  obtain ⟨hi, rfl⟩ := List.getElem?_eq_some_iff.1 hx
  have hsp : eS.cells R = eS.cells (R.take i) ++ (seC R[i] ++ eS.cells (R.drop (i + 1))) := by
    have h : R = R.take i ++ (R[i] :: R.drop (i + 1)) := by
      rw [← List.drop_eq_getElem_cons hi, List.take_append_drop]
    conv => lhs; rw [h]
    rw [eS.cells_app, eS.cells_cons]
    rfl
  have hl : (eS.cells (R.take i)).length = i * 15 := by
    rw [eS.cells_length, List.length_take, Nat.min_eq_left (by omega)]
    rfl
  rw [eS.cells_set R i _ hi, hsp]
  obtain ⟨A, hA⟩ : ∃ A, eS.cells (R.take i) = A := ⟨_, rfl⟩
  obtain ⟨D, hD⟩ : ∃ D, eS.cells (R.drop (i + 1)) = D := ⟨_, rfl⟩
  obtain ⟨x, hx2⟩ : ∃ x, R[i] = x := ⟨_, rfl⟩
  rw [hA] at hl ⊢
  rw [hD, hx2]
  have h1 : ∀ (V P C D' : List Value) (o : Nat), D'.length = V.length → (A ++ P).length = o → Enc.layL (A ++ (P ++ (D' ++ C))) o V = A ++ (P ++ (V ++ C)) := by
    intro V P C D' o e1 e2
    have := Enc.layL_app V (A ++ P) C D' e1
    rw [e2] at this
    simpa [List.append_assoc] using this
  have e1 : seC x ++ D = [.string x.s.c, .bool x.s.cl] ++ ([.int .i64 x.s.ln] ++ ([.slice x.sa x.s.S.length x.sc, .int .i64 x.s.o.last, .slice x.fa x.s.o.F.length x.fc, .slice x.qa x.s.o.Q.length x.qc, .slice x.ia x.s.I.length x.ic, .bool x.s.wl.is, .string x.s.wl.t, .string x.s.wl.p, .int .i64 x.s.wl.q, .bool x.s.wl.r, .int .i64 x.s.keep, .int .i64 x.s.idle] ++ D)) := rfl
  rw [e1, h1 [.int .i64 0] _ _ _ (i * 15 + 2) ?_ ?_]
  rotate_left 1
  · rfl
  · simp [hl]
  have e2 : ([.string x.s.c, .bool x.s.cl] : List Value) ++ ([.int .i64 0] ++ ([.slice x.sa x.s.S.length x.sc, .int .i64 x.s.o.last, .slice x.fa x.s.o.F.length x.fc, .slice x.qa x.s.o.Q.length x.qc, .slice x.ia x.s.I.length x.ic, .bool x.s.wl.is, .string x.s.wl.t, .string x.s.wl.p, .int .i64 x.s.wl.q, .bool x.s.wl.r, .int .i64 x.s.keep, .int .i64 x.s.idle] ++ D))
      = [.string x.s.c, .bool x.s.cl, .int .i64 0, .slice x.sa x.s.S.length x.sc, .int .i64 x.s.o.last, .slice x.fa x.s.o.F.length x.fc, .slice x.qa x.s.o.Q.length x.qc, .slice x.ia x.s.I.length x.ic, .bool x.s.wl.is, .string x.s.wl.t, .string x.s.wl.p, .int .i64 x.s.wl.q, .bool x.s.wl.r] ++ ([.int .i64 x.s.keep] ++ ([.int .i64 x.s.idle] ++ D)) := rfl
  rw [e2, h1 [.int .i64 0] _ _ _ (i * 15 + 13) ?_ ?_]
  rotate_left 1
  · rfl
  · simp [hl]
  have e3 : ([.string x.s.c, .bool x.s.cl, .int .i64 0, .slice x.sa x.s.S.length x.sc, .int .i64 x.s.o.last, .slice x.fa x.s.o.F.length x.fc, .slice x.qa x.s.o.Q.length x.qc, .slice x.ia x.s.I.length x.ic, .bool x.s.wl.is, .string x.s.wl.t, .string x.s.wl.p, .int .i64 x.s.wl.q, .bool x.s.wl.r] : List Value) ++ ([.int .i64 0] ++ ([.int .i64 x.s.idle] ++ D))
      = [.string x.s.c, .bool x.s.cl, .int .i64 0, .slice x.sa x.s.S.length x.sc, .int .i64 x.s.o.last, .slice x.fa x.s.o.F.length x.fc, .slice x.qa x.s.o.Q.length x.qc, .slice x.ia x.s.I.length x.ic, .bool x.s.wl.is, .string x.s.wl.t, .string x.s.wl.p, .int .i64 x.s.wl.q, .bool x.s.wl.r, .int .i64 0] ++ ([.int .i64 x.s.idle] ++ ([] ++ D)) := rfl
  rw [e3, h1 [.int .i64 0] _ _ _ (i * 15 + 14) ?_ ?_]
  rotate_left 1
  · rfl
  · simp [hl]
  have e4 : ([.string x.s.c, .bool x.s.cl, .int .i64 0, .slice x.sa x.s.S.length x.sc, .int .i64 x.s.o.last, .slice x.fa x.s.o.F.length x.fc, .slice x.qa x.s.o.Q.length x.qc, .slice x.ia x.s.I.length x.ic, .bool x.s.wl.is, .string x.s.wl.t, .string x.s.wl.p, .int .i64 x.s.wl.q, .bool x.s.wl.r, .int .i64 0] : List Value) ++ ([.int .i64 0] ++ ([] ++ D))
      = [.string x.s.c, .bool x.s.cl, .int .i64 0, .slice x.sa x.s.S.length x.sc, .int .i64 x.s.o.last, .slice x.fa x.s.o.F.length x.fc, .slice x.qa x.s.o.Q.length x.qc, .slice x.ia x.s.I.length x.ic] ++ ([.bool x.s.wl.is, .string x.s.wl.t, .string x.s.wl.p, .int .i64 x.s.wl.q, .bool x.s.wl.r] ++ ([.int .i64 0, .int .i64 0] ++ D)) := rfl
  rw [e4, h1 [.bool false, .string ⟨#[]⟩, .string ⟨#[]⟩, .int .i64 0, .bool false] _ _ _ (i * 15 + 8) ?_ ?_]
  · rfl
  · rfl
  · simp [hl]
theorem drK_ge (R : List Rs) (k i : Nat) (h : k ≤ i) : (drK R k)[i]? = R[i]? := by
  unfold drK
  by_cases hk : k ≤ R.length
  · have hl : ((R.take k).map dr1).length = k := by rw [List.length_map, List.length_take]; omega
    rw [List.getElem?_append_right (by omega), hl, List.getElem?_drop]
    congr 1
    omega
  · rw [List.getElem?_eq_none (by simp; omega), List.getElem?_eq_none (by omega)]
/-- While sessions are made what lasts: k are. -/
structure RI (w wr : World) (B k : Nat) (sv kv : Value) (R : List Rs) (K : List Msg) : Prop where
  A : Whole wr B 26 [.slice none 0 0, sv, kv]
  Z : Whole wr (B + 1) 26 [.slice none 0 0, .slice none 0 0, .slice none 0 0]
  o : BOwn wr (B + 2) sv kv (drK R k) K
  b : Below B w wr
set_option maxRecDepth 20000 in
set_option maxHeartbeats 8000000 in
theorem Rest_any (w : World) (lv sv kv : Value) (R : List Rs) (b : Br) (h : BRd w w.heap.size lv sv kv R b) (hn : b.L.length ≤ 1000000 ∧ R.length ≤ 1000000 ∧ b.K.length ≤ 1000000) (hN : ∀ x ∈ R, x.s.S.length ≤ 100000 ∧ x.s.o.F.length ≤ 100000 ∧ x.s.o.Q.length ≤ 100000 ∧ x.s.I.length ≤ 100000) :
    Calls Tryz.prog 20 #[.agg #[lv, sv, kv]] w fun e w' => ∃ sv' kv', e = .returned (.agg #[.slice none 0 0, sv', kv']) ∧ (∃ R2 : List Rs, R2.map (·.s) = durL b.S ∧ BOwn w' w.heap.size sv' kv' R2 b.K) ∧ Below w.heap.size w w' := by
  obtain ⟨la, lc, rfl, _, _⟩ := h.l.form
  obtain ⟨sa, sc, rfl, _, _⟩ := h.s.form
  obtain ⟨ka, kc, rfl, _, _⟩ := h.k.form
  obtain ⟨B, hB⟩ : ∃ B, w.heap.size = B := ⟨_, rfl⟩
  obtain ⟨w1, hw1⟩ : ∃ w1, (w.alloc (.cells #[.slice la b.L.length lc, .slice sa R.length sc, .slice ka b.K.length kc] 26)).alloc (.cells #[.slice none 0 0, .slice none 0 0, .slice none 0 0] 26) = w1 := ⟨_, rfl⟩
  have hb1 : Below w.heap.size w w1 := by rw [← hw1]; go_grown
  have hz1 : w1.heap.size = B + 2 := by rw [← hw1]; simp [hB]
  have hA1 : Whole w1 B 26 [.slice la b.L.length lc, .slice sa R.length sc, .slice ka b.K.length kc] := by rw [← hw1, ← hB]; exact (Whole.new w 26 _).alloc _
  have hZ1 : Whole w1 (B + 1) 26 [.slice none 0 0, .slice none 0 0, .slice none 0 0] := by
    rw [← hw1, ← hB]
    have := Whole.new (w.alloc (.cells #[.slice la b.L.length lc, .slice sa R.length sc, .slice ka b.K.length kc] 26)) 26 [.slice none 0 0, .slice none 0 0, .slice none 0 0]
    simpa using this
  have HOW := Lib.hid (bOwn_any w1 _ _ _ R b ((h.below hb1).more hb1.size) hn hN)
  have hRS : R.map (·.s) = b.S := h.e
  have HRS := Lib.hid hRS
  have HN1 := Lib.hid hn
  have HW1 := Lib.hid hw1
  have HBB := Lib.hid hB
  have HB1 := Lib.hid hb1
  have HZ1 := Lib.hid hz1
  have HA1 := Lib.hid (fun wx (hx : Below w1.heap.size w1 wx) => hA1.belowH hx)
  have HX1 := Lib.hid (fun wx (hx : Below w1.heap.size w1 wx) => hZ1.belowH hx)
  obtain ⟨a0, a1, a2, _, _, _⟩ := hA1.three
  clear h hn hN hRS hw1 hA1 hZ1
  go_enter Tryz.func20, Tryz.ntmps20
  go_upto_region 1 with fail
  rw [HW1.out]
  clear hz1 hB
  go_upto_region 2 with (go_at_call 43; refine HOW.out.mono ?_; rintro e w2 ⟨lv2, sv2, kv2, rfl, ⟨R1, hm1, hol, hbo⟩, hb2⟩; obtain ⟨la2, lc2, rfl, _, _⟩ := (Rd.of_own hol).form; obtain ⟨sa2, sc2, rfl, _, _⟩ := (Rd.of_own hbo.s).form; obtain ⟨ka2, kc2, rfl, _, _⟩ := (Rd.of_own hbo.k).form; clear a0 a1 a2; obtain ⟨a0, a1, a2, q0, q1, q2⟩ := (HA1.out _ hb2).three)
  obtain ⟨w3, hw3⟩ : ∃ w3, (((w2.setCell ⟨B, 0, none⟩ (.slice la2 b.L.length lc2)).setCell ⟨B, 1, none⟩ (.slice sa2 R1.length sc2)).setCell ⟨B, 2, none⟩ (.slice ka2 b.K.length kc2)) = w3 := ⟨_, rfl⟩
  have hl3 : Left [B] w2 w3 := by rw [← hw3]; exact (((Left.refl _ w2).setCell (Or.inl (by simp)) _).setCell (Or.inl (by simp)) _).setCell (Or.inl (by simp)) _
  have hA3 : Whole w3 B 26 [.slice la2 b.L.length lc2, .slice sa2 R1.length sc2, .slice ka2 b.K.length kc2] := by rw [← hw3]; exact (((HA1.out _ hb2).put 0 _).put 1 _).put 2 _
  have hX3 : Whole w3 (B + 1) 26 [.slice none 0 0, .slice none 0 0, .slice none 0 0] := (HX1.out _ hb2).left hl3 (by simp)
  have ho3 := (hbo.base (B' := B + 2) (by have := HZ1.out; omega)).left hl3 (by simp)
  have hb3 : Below B w w3 := by
    have h1 := b_tr HB1.out hb2
    rw [HBB.out] at h1
    exact h1.trans (hl3.belowB (by have := h1.size; have := HBB.out; omega) (by simp))
  have hz3 : B + 2 ≤ w3.heap.size := by have := HZ1.out; have := hb2.size; have := hl3.size; omega
  rw [hw3]
  clear a0 a1 a2 q0 q1 q2 hw3 hl3 hol hbo hb2 HOW HA1 HX1
  obtain ⟨a0, a1, a2, q0, q1, q2⟩ := hA3.three
  go_upto_region 3 with fail
  obtain ⟨w4, hw4⟩ : ∃ w4, w3.setCell ⟨B, 0, none⟩ (.slice none 0 0) = w4 := ⟨_, rfl⟩
  have hl4 : Left [B] w3 w4 := by rw [← hw4]; exact (Left.refl _ w3).setCell (Or.inl (by simp)) _
  have hA4 : Whole w4 B 26 [.slice none 0 0, .slice sa2 R1.length sc2, .slice ka2 b.K.length kc2] := by rw [← hw4]; exact hA3.put 0 _
  have hX4 := hX3.left hl4 (by simp)
  have ho4 := ho3.left hl4 (by simp)
  have hb4 : Below B w w4 := hb3.trans (hl4.belowB (by omega) (by simp))
  have hz4 : B + 2 ≤ w4.heap.size := by have := hl4.size; omega
  rw [hw4]
  clear a0 a1 a2 q0 q1 q2 hw4 hl4 hA3 hX3 ho3 hb3 hz3
  obtain ⟨a0, a1, a2, _, _, _⟩ := hA4.three
  have hRn : R1.length ≤ 1000000 := by
    have h1 := congrArg List.length hm1
    rw [List.length_map, ← HRS.out, List.length_map] at h1
    have := HN1.out.2.1
    omega
  have HDEL := Lib.hid (DelS_any w4 (B + 2) _ R1 ho4.s hz4 hRn)
  have HO4 := Lib.hid ho4
  have HA4 := Lib.hid hA4
  have HX4 := Lib.hid hX4
  have HB4 := Lib.hid hb4
  have HM1 := Lib.hid hm1
  clear ho4 hX4 hA4 hb4 hm1 hz4
  go_upto_region 4 with (go_at_call 44; refine HDEL.out.mono ?_; rintro e w5 ⟨v5, rfl, ho5, hl5, hs5⟩; obtain ⟨sa5, sc5, rfl, _, hsm⟩ := (Rd.of_own ho5).form; have hA5 := HA4.out.left hl5 (fun hm => by have := (HO4.out.s.lt B (mem_ownL.1 hm)).1; omega); clear a0 a1 a2; obtain ⟨a0, a1, a2, q0, q1, q2⟩ := hA5.three)
  obtain ⟨RF, hRF⟩ : ∃ RF, R1.filter (fun r => !r.s.cl) = RF := ⟨_, rfl⟩
  have ho5d := HO4.out.del ho5 hl5
  rw [hRF] at ho5 ho5d ⊢
  obtain ⟨w6, hw6⟩ : ∃ w6, w5.setCell ⟨B, 1, none⟩ (.slice sa5 RF.length sc5) = w6 := ⟨_, rfl⟩
  have hl6 : Left [B] w5 w6 := by rw [← hw6]; exact (Left.refl _ w5).setCell (Or.inl (by simp)) _
  have HMR : Hid (RF.map (·.s) = b.S.filter (fun s => !s.cl)) := Lib.hid (by
    rw [← hRF, ← HM1.out, List.filter_map]
    rfl)
  have HI0 : Hid (RI w w6 B 0 (.slice sa5 RF.length sc5) (.slice ka2 b.K.length kc2) RF b.K) := Lib.hid
    ⟨by rw [← hw6]; exact hA5.put 1 _, (HX4.out.left hl5 (fun hm => by have := (HO4.out.s.lt (B + 1) (mem_ownL.1 hm)).1; omega)).left hl6 (by simp), by rw [drK_zero]; exact ho5d.left hl6 (by simp),
      (HB4.out.trans (hl5.belowB (by have := HB4.out.size; have := HBB.out; omega) (fun g hg => by have := (HO4.out.s.lt g (mem_ownL.1 hg)).1; omega))).trans (hl6.belowB (by have := HB4.out.size; have := hl5.size; have := HBB.out; omega) (by simp))⟩
  have hsc : sc5 ≤ 9223372036854775807 := by unfold maxLen at hsm; omega
  have hRFn : Hid (RF.length ≤ 1000000) := Lib.hid (by rw [← hRF]; exact Nat.le_trans (List.length_filter_le _ _) hRn)
  rw [hw6]
  clear a0 a1 a2 q0 q1 q2 hw6 hl6 ho5d ho5 hl5 hs5 hA5 hsm hRF hRn HDEL HO4 HA4 HX4 HB4
  obtain ⟨a0, a1, a2, _, _, _⟩ := HI0.out.A.three
  go_wp2
  go_loopw [15] (fun i wr => ∃ k : Nat, i = .int .i64 k ∧ k ≤ RF.length ∧ Hid (RI w wr B k (.slice sa5 RF.length sc5) (.slice ka2 b.K.length kc2) RF b.K)) (fun i _ => RF.length - (intOf i).toNat)
  case atStart => exact ⟨0, rfl, by omega, HI0⟩
  case round =>
    clear HI0 a0 a1 a2
    obtain ⟨k, rfl, hk, HI⟩ := hrel
    have hrn := hRFn.out
    obtain ⟨a0, a1, a2, _, _, _⟩ := HI.out.A.three
    by_cases hlt : k < RF.length
    · have hlt' : (k : Int) < (RF.length : Int) := by omega
      obtain ⟨g, rfl⟩ : ∃ g, sa5 = some ⟨g, 0, none⟩ := by
        have h1 := HI.out.o.s
        rw [drK_len] at h1
        obtain ⟨g, cap', e, _⟩ := Enc.own_form h1 (by omega)
        injection e with e
        exact ⟨g, e⟩
      obtain ⟨x, hx⟩ : ∃ x, RF[k]? = some x := ⟨_, List.getElem?_eq_getElem hlt⟩
      have hs9 : wr.ownsRow (B + 2) 61 15 (.slice (some ⟨g, 0, none⟩) RF.length sc5) RF.length (eS.cells (drK RF k)) := by
        have h1 := HI.out.o.s
        rw [drK_len] at h1
        exact h1
      obtain ⟨x0, x1, x2, x3, x4, x5, x6, x7, x8, x9, x10, x11, x12, x13, x14⟩ := ks_cells (B := B + 2) (k := k) ⟨drK RF k, drK_len RF k, drK_ge RF k, hs9⟩ hx rfl
      have hfr : ∀ j, wr.frozen? ⟨g, j, none⟩ = false := fun j => hs9.frozenAt j
      have f2 := hfr (k * 15 + 2)
      have f8 := hfr (k * 15 + 8)
      have f9 := hfr (k * 15 + 9)
      have f10 := hfr (k * 15 + 10)
      have f11 := hfr (k * 15 + 11)
      have f12 := hfr (k * 15 + 12)
      have f13 := hfr (k * 15 + 13)
      have f14 := hfr (k * 15 + 14)
      have HX := Lib.hid hx
      have HS9 := Lib.hid hs9
      have HJ : Hid (RI w ((((wr.setCells g (k * 15 + 2) [.int .i64 0]).setCells g (k * 15 + 13) [.int .i64 0]).setCells g (k * 15 + 14) [.int .i64 0]).setCells g (k * 15 + 8) [.bool false, .string ⟨#[]⟩, .string ⟨#[]⟩, .int .i64 0, .bool false]) B (k + 1) (.slice (some ⟨g, 0, none⟩) RF.length sc5) (.slice ka2 b.K.length kc2) RF b.K) := Lib.hid (by
        obtain ⟨o1, g1⟩ := Enc.own_setCells [.int .i64 0] (k * 15 + 2) _ wr hs9
        obtain ⟨o2, g2⟩ := Enc.own_setCells [.int .i64 0] (k * 15 + 13) _ _ o1
        obtain ⟨o3, g3⟩ := Enc.own_setCells [.int .i64 0] (k * 15 + 14) _ _ o2
        obtain ⟨o4, g4⟩ := Enc.own_setCells [.bool false, .string ⟨#[]⟩, .string ⟨#[]⟩, .int .i64 0, .bool false] (k * 15 + 8) _ _ o3
        have hat : (drK RF k)[k]? = some x := (drK_at RF k).trans hx
        rw [lay_dur (drK RF k) k x hat, drK_set RF k x hx] at o4
        have hl := left_of_grown (v := .slice (some ⟨g, 0, none⟩) RF.length sc5) (((g1.trans g2).trans g3).trans g4)
        have hge : ∀ q ∈ Value.ownL (.slice (some ⟨g, 0, none⟩) RF.length sc5), B + 2 ≤ q := fun q hq => (hs9.lt q (mem_ownL.1 hq)).1
        have hty : ∀ q ∈ Value.ownL (.slice (some ⟨g, 0, none⟩) RF.length sc5), Ty wr q 61 := fun q hq => own_ty hs9 (mem_ownL.1 hq)
        obtain ⟨hA, hZ, ho, hb⟩ := HI.out
        refine ⟨hA.left hl (fun hm => by have := hge _ hm; omega), hZ.left hl (fun hm => by have := hge _ hm; omega), ⟨by rw [drK_len]; exact o4, fun y hy => ?_, own_leftB ho.k hl (fun q hq e => (own_ty ho.k e).ne (hty q hq) (by decide) rfl), pw_blk ho.p (by rw [drK_blk, drK_blk]), fun y hy => ?_⟩, hb.trans (hl.belowB (by have := hb.size; have := HBB.out; omega) (fun q hq => by have := hge q hq; omega))⟩
        · rw [← drK_set RF k x hx] at hy
          rcases List.mem_or_eq_of_mem_set hy with hy | rfl
          · exact (ho.r y hy).ty hl hty
          · exact ((ho.r x (List.mem_of_getElem? hat)).ty hl hty).dr1
        · rw [← drK_set RF k x hx] at hy
          rcases List.mem_or_eq_of_mem_set hy with hy | rfl
          · exact ho.q y hy
          · exact ho.q x (List.mem_of_getElem? hat))
      clear hx hs9 hfr
      go_wp2
      go_roundw
      case rel => exact ⟨k + 1, by go_num, by omega, HJ⟩
      case measure => simp [intOf]; omega
    · have hlt' : ¬ ((k : Int) < (RF.length : Int)) := by omega
      obtain rfl : k = RF.length := by omega
      have hI := HI.out
      obtain ⟨r0, r1, r2, s0, s1, s2⟩ := hI.Z.three
      have HL6 : Hid (Left [B + 1] wr (((wr.setCell ⟨B + 1, 0, none⟩ (.slice none 0 0)).setCell ⟨B + 1, 1, none⟩ (.slice sa5 RF.length sc5)).setCell ⟨B + 1, 2, none⟩ (.slice ka2 b.K.length kc2))) := Lib.hid ((((Left.refl _ wr).setCell (Or.inl (by simp)) _).setCell (Or.inl (by simp)) _).setCell (Or.inl (by simp)) _)
      clear hI
      go_wp2
      (try simp only [Exit.inBlock, Exit.then])
      refine bodyPost_ret (results_cell_row (P := Tryz.prog) (p := 2) (ty := 26) rfl _ _ (B + 1) 26 _ (0, 0) _ rfl (((HI.out.Z.put 0 _).put 1 _).put 2 _) Tryz.underlying26 rfl (by kernel_rfl)) rfl ?_
      have ho := HI.out.o.left HL6.out (by simp)
      rw [drK_all] at ho
      refine ⟨_, _, rfl, ⟨RF.map dr1, ?_, ?_⟩, by rw [HBB.out]; exact HI.out.b.trans (HL6.out.belowB (by have := HI.out.b.size; have := HBB.out; omega) (by simp))⟩
      · unfold durL
        rw [← HMR.out, List.map_map, List.map_map]
        rfl
      · exact ho.base (by have := HBB.out; omega)
end Go.Proofs.YtknnaeejkmlnbaaGreatDoor
namespace Go.Proofs.YtknnaeejkmlnbaaGreatDoor
open Go.RowKit
set_option maxRecDepth 20000 in
set_option maxHeartbeats 4000000 in
theorem Check_ok (w : World) (lv sv kv : Value) (R : List Rs) (b : Br) (h : BRd w w.heap.size lv sv kv R b) (hs : ShB b) (hE : Env w) (hk : broOk b) :
    Calls Tryz.prog 12 #[.agg #[lv, sv, kv]] w fun e w' => e = .returned (.int .i64 0) ∧ Below w.heap.size w w' := by
  obtain ⟨la, lc, rfl, _, _⟩ := h.l.form
  obtain ⟨sa, sc, rfl, _, _⟩ := h.s.form
  obtain ⟨ka, kc, rfl, _, _⟩ := h.k.form
  obtain ⟨w1, hw1⟩ : ∃ w1, w.alloc (.cells #[.slice la b.L.length lc, .slice sa R.length sc, .slice ka b.K.length kc] 26) = w1 := ⟨_, rfl⟩
  have hb1 : Below w.heap.size w w1 := by rw [← hw1]; go_grown
  have hA1 : Whole w1 w.heap.size 26 [.slice la b.L.length lc, .slice sa R.length sc, .slice ka b.K.length kc] := by rw [← hw1]; exact Whole.new w 26 _
  have HMY := Lib.hid (bMay_any w1 _ _ _ R b ((h.below hb1).more hb1.size) hs (hE.below hb1))
  rw [yes_true hk] at HMY
  obtain ⟨a0, a1, a2, _, _, _⟩ := hA1.three
  have HW1 := Lib.hid hw1
  have HB1 := Lib.hid hb1
  clear h hs hE hk hw1 hb1 hA1
  go_enter Tryz.func12, Tryz.ntmps12
  go_upto_region 1 with fail
  rw [HW1.out]
  go_wp2_with (go_at_call 19; refine HMY.out.mono ?_; rintro e w2 ⟨rfl, hb2⟩; clear a0 a1 a2)
  go_ret
  exact ⟨rfl, b_tr HB1.out hb2⟩
set_option maxRecDepth 20000 in
set_option maxHeartbeats 4000000 in
theorem Durable_no (w : World) (lv sv kv : Value) (R : List Rs) (b : Br) (h : BRd w w.heap.size lv sv kv R b) (hs : ShB b) (hE : Env w) (hk : ¬ broOk b) :
    Calls Tryz.prog 6 #[.agg #[lv, sv, kv]] w fun e w' => e = .returned (.tuple #[.agg #[.slice none 0 0, .slice none 0 0, .slice none 0 0], .int .i64 1]) ∧ Below w.heap.size w w' := by
  obtain ⟨la, lc, rfl, _, _⟩ := h.l.form
  obtain ⟨sa, sc, rfl, _, _⟩ := h.s.form
  obtain ⟨ka, kc, rfl, _, _⟩ := h.k.form
  obtain ⟨B, hB⟩ : ∃ B, w.heap.size = B := ⟨_, rfl⟩
  obtain ⟨w1, hw1⟩ : ∃ w1, (w.alloc (.cells #[.slice la b.L.length lc, .slice sa R.length sc, .slice ka b.K.length kc] 26)).alloc (.cells #[.slice none 0 0, .slice none 0 0, .slice none 0 0] 26) = w1 := ⟨_, rfl⟩
  have hb1 : Below w.heap.size w w1 := by rw [← hw1]; go_grown
  have hz1 : w1.heap.size = B + 2 := by rw [← hw1]; simp [hB]
  have hA1 : Whole w1 B 26 [.slice la b.L.length lc, .slice sa R.length sc, .slice ka b.K.length kc] := by rw [← hw1, ← hB]; exact (Whole.new w 26 _).alloc _
  have hZ1 : Whole w1 (B + 1) 26 [.slice none 0 0, .slice none 0 0, .slice none 0 0] := by
    rw [← hw1, ← hB]
    have := Whole.new (w.alloc (.cells #[.slice la b.L.length lc, .slice sa R.length sc, .slice ka b.K.length kc] 26)) 26 [.slice none 0 0, .slice none 0 0, .slice none 0 0]
    simpa using this
  have HMY := Lib.hid (bMay_any w1 _ _ _ R b ((h.below hb1).more hb1.size) hs (hE.below hb1))
  have HW1 := Lib.hid hw1
  have HBB := Lib.hid hB
  have HB1 := Lib.hid hb1
  have HZ1 := Lib.hid hz1
  have HA1 := Lib.hid (fun wx (hx : Below w1.heap.size w1 wx) => hA1.belowH hx)
  have HX1 := Lib.hid (fun wx (hx : Below w1.heap.size w1 wx) => hZ1.belowH hx)
  obtain ⟨a0, a1, a2, _, _, _⟩ := hA1.three
  rw [yes_false hk] at HMY
  clear h hs hE hk hw1 hb1 hA1 hZ1
  go_enter Tryz.func6, Tryz.ntmps6
  go_upto_region 1 with fail
  rw [HW1.out]
  go_wp2_with (go_at_call 19; refine HMY.out.mono ?_; rintro e w2 ⟨rfl, hb2⟩; clear a0 a1 a2 hz1 hB; have hx2 := HX1.out _ hb2; obtain ⟨r0, r1, r2, s0, s1, s2⟩ := hx2.three)
  (try simp only [Exit.inBlock, Exit.then])
  refine bodyPost_ret (results_row_tmp (P := Tryz.prog) (p := 2) (u := 3) (ty := 26) rfl _ _ (B + 1) 26 _ (0, 0) _ rfl (((hx2.put 0 _).put 1 _).put 2 _) Tryz.underlying26 rfl (by kernel_rfl)) rfl ?_
  refine ⟨rfl, (b_tr HB1.out hb2).trans ((((Left.refl [B + 1] w2).setCell (Or.inl (by simp)) _).setCell (Or.inl (by simp)) _).setCell (Or.inl (by simp)) _ |>.belowB (by have := HB1.out.size; have := hb2.size; omega) (by simp; have := HBB.out; omega))⟩
set_option maxRecDepth 20000 in
set_option maxHeartbeats 4000000 in
theorem Durable_ok (w : World) (lv sv kv : Value) (R : List Rs) (b : Br) (h : BRd w w.heap.size lv sv kv R b) (hs : ShB b) (hE : Env w) (hk : broOk b) (hn : b.L.length ≤ 1000000 ∧ R.length ≤ 1000000 ∧ b.K.length ≤ 1000000) (hN : ∀ x ∈ R, x.s.S.length ≤ 100000 ∧ x.s.o.F.length ≤ 100000 ∧ x.s.o.Q.length ≤ 100000 ∧ x.s.I.length ≤ 100000) :
    Calls Tryz.prog 6 #[.agg #[lv, sv, kv]] w fun e w' => ∃ sv' kv', e = .returned (.tuple #[.agg #[.slice none 0 0, sv', kv'], .int .i64 0]) ∧ (∃ R2 : List Rs, R2.map (·.s) = durL b.S ∧ BOwn w' w.heap.size sv' kv' R2 b.K) ∧ Below w.heap.size w w' := by
  obtain ⟨la, lc, rfl, _, _⟩ := h.l.form
  obtain ⟨sa, sc, rfl, _, _⟩ := h.s.form
  obtain ⟨ka, kc, rfl, _, _⟩ := h.k.form
  obtain ⟨B, hB⟩ : ∃ B, w.heap.size = B := ⟨_, rfl⟩
  obtain ⟨w1, hw1⟩ : ∃ w1, (w.alloc (.cells #[.slice la b.L.length lc, .slice sa R.length sc, .slice ka b.K.length kc] 26)).alloc (.cells #[.slice none 0 0, .slice none 0 0, .slice none 0 0] 26) = w1 := ⟨_, rfl⟩
  have hb1 : Below w.heap.size w w1 := by rw [← hw1]; go_grown
  have hz1 : w1.heap.size = B + 2 := by rw [← hw1]; simp [hB]
  have hA1 : Whole w1 B 26 [.slice la b.L.length lc, .slice sa R.length sc, .slice ka b.K.length kc] := by rw [← hw1, ← hB]; exact (Whole.new w 26 _).alloc _
  have hZ1 : Whole w1 (B + 1) 26 [.slice none 0 0, .slice none 0 0, .slice none 0 0] := by
    rw [← hw1, ← hB]
    have := Whole.new (w.alloc (.cells #[.slice la b.L.length lc, .slice sa R.length sc, .slice ka b.K.length kc] 26)) 26 [.slice none 0 0, .slice none 0 0, .slice none 0 0]
    simpa using this
  have HMY := Lib.hid (bMay_any w1 _ _ _ R b ((h.below hb1).more hb1.size) hs (hE.below hb1))
  have HW1 := Lib.hid hw1
  have HBB := Lib.hid hB
  have HB1 := Lib.hid hb1
  have HZ1 := Lib.hid hz1
  have HA1 := Lib.hid (fun wx (hx : Below w1.heap.size w1 wx) => hA1.belowH hx)
  have HX1 := Lib.hid (fun wx (hx : Below w1.heap.size w1 wx) => hZ1.belowH hx)
  obtain ⟨a0, a1, a2, _, _, _⟩ := hA1.three
  rw [yes_true hk] at HMY
  have HRE := Lib.hid (fun wx (hx : Below w1.heap.size w1 wx) => Rest_any wx _ _ _ R b ((((h.below hb1).more hb1.size).below hx).more hx.size) hn hN)
  clear h hs hE hk hw1 hb1 hA1 hZ1 hn hN
  go_enter Tryz.func6, Tryz.ntmps6
  go_upto_region 1 with fail
  rw [HW1.out]
  go_upto_region 3 with (go_at_call 19; refine HMY.out.mono ?_; rintro e w2 ⟨rfl, hb2⟩; clear a0 a1 a2 hz1 hB)
  obtain ⟨a0, a1, a2, _, _, _⟩ := (HA1.out _ hb2).three
  go_wp2_with (go_at_call 20; refine (HRE.out _ hb2).mono ?_; rintro e w3 ⟨sv3, kv3, rfl, ⟨R3, hm3, ho3⟩, hb3⟩; obtain ⟨sa3, sc3, rfl, _, _⟩ := (Rd.of_own ho3.s).form; obtain ⟨ka3, kc3, rfl, _, _⟩ := (Rd.of_own ho3.k).form; clear a0 a1 a2; have hx3 := HX1.out _ (b_tr hb2 hb3); obtain ⟨r0, r1, r2, s0, s1, s2⟩ := hx3.three)
  have HL4 : Hid (Left [B + 1] w3 (((w3.setCell ⟨B + 1, 0, none⟩ (.slice none 0 0)).setCell ⟨B + 1, 1, none⟩ (.slice sa3 R3.length sc3)).setCell ⟨B + 1, 2, none⟩ (.slice ka3 b.K.length kc3))) := Lib.hid ((((Left.refl _ w3).setCell (Or.inl (by simp)) _).setCell (Or.inl (by simp)) _).setCell (Or.inl (by simp)) _)
  (try simp only [Exit.inBlock, Exit.then])
  refine bodyPost_ret (results_row_tmp (P := Tryz.prog) (p := 2) (u := 3) (ty := 26) rfl _ _ (B + 1) 26 _ (0, 0) _ rfl (((hx3.put 0 _).put 1 _).put 2 _) Tryz.underlying26 rfl (by kernel_rfl)) rfl ?_
  have hz2 : B + 2 ≤ w2.heap.size := by have := HZ1.out; have := hb2.size; omega
  have hbb := HBB.out
  exact ⟨_, _, rfl, ⟨R3, hm3, ((ho3.base hz2).left HL4.out (by simp)).base (by omega)⟩, (b_tr HB1.out (b_tr hb2 hb3)).trans (HL4.out.belowB (by have := HB1.out.size; have := hb2.size; have := hb3.size; omega) (by simp; omega))⟩
end Go.Proofs.YtknnaeejkmlnbaaGreatDoor
namespace Go.Proofs.YtknnaeejkmlnbaaGreatDoor
open Go.RowKit
theorem less_trans' : ∀ a b c : List UInt8, Op.bytesLess a b = true → Op.bytesLess b c = true → Op.bytesLess a c = true
  | _, _, [], _, h => by simp [Op.bytesLess] at h
  | _, [], _ :: _, h, _ => by simp [Op.bytesLess] at h
  | [], _ :: _, _ :: _, _, _ => by simp [Op.bytesLess]
  | a :: x, b :: y, c :: z, h1, h2 => by
    simp only [Op.bytesLess, Bool.or_eq_true, Bool.and_eq_true, decide_eq_true_eq, beq_iff_eq] at h1 h2 ⊢
    rcases h1 with h1 | ⟨rfl, h1⟩
    · rcases h2 with h2 | ⟨rfl, h2⟩
      · exact .inl (UInt8.lt_trans h1 h2)
      · exact .inl h1
    · rcases h2 with h2 | ⟨rfl, h2⟩
      · exact .inl h2
      · exact .inr ⟨rfl, less_trans' x y z h1 h2⟩
/-- Sorted step by step, sorted in all. -/
theorem pw_step (S : List Se) (h : ∀ j y s, S[j]? = some y → S[j + 1]? = some s → lessB y.c s.c = true) : S.Pairwise (fun x y => lessB x.c y.c = true) := by
  have hk : ∀ d i y s, S[i]? = some y → S[i + 1 + d]? = some s → lessB y.c s.c = true := by
    intro d
    induction d with
    | zero => exact fun i y s h1 h2 => h i y s h1 h2
    | succ d ih =>
      intro i y s h1 h2
      have hlt : i + 1 + (d + 1) < S.length := (List.getElem?_eq_some_iff.1 h2).1
      have hm : S[i + 1 + d]? = some (S[i + 1 + d]'(by omega)) := List.getElem?_eq_getElem (by omega)
      exact less_trans' _ _ _ (ih i y _ h1 hm) (h (i + 1 + d) _ s hm (by rw [← h2]; congr 1))
  rw [List.pairwise_iff_getElem]
  intro i j hi hj hij
  exact hk (j - i - 1) i _ _ (List.getElem?_eq_getElem hi) (by rw [← List.getElem?_eq_getElem hj]; congr 1; omega)
theorem sesOk_dur {s : Se} (h : sesOk s) (hc : s.cl = false) : sesOk (dur1 s) := by
  obtain ⟨h1, h2, h3, h4, h5, h6, h7, h8, h9, h10, h11⟩ := h
  exact ⟨h1, ⟨by show (0 : Int) ≤ 0; omega, by show (0 : Int) ≤ 1099511627776; omega⟩, fun hh => (by have : s.cl = true := hh.1; rw [hc] at this; cases this), h4, h5, h6, ⟨fun _ => rfl, fun hh => (by cases hh)⟩, fun hh => (by cases hh), ⟨by show (0 : Int) ≤ 0; omega, by show (0 : Int) ≤ 65535; omega⟩, ⟨by show (0 : Int) ≤ 0; omega, by show (0 : Int) ≤ 1048576; omega⟩, .inr ⟨rfl, rfl⟩⟩
theorem durL_ln (S : List Se) : ∀ s ∈ durL S, s.ln = 0 ∧ s.cl = false := by
  intro s hs
  obtain ⟨y, hy, rfl⟩ := List.mem_map.1 hs
  have := (List.mem_filter.1 hy).2
  exact ⟨rfl, by cases hc : y.cl <;> simp [hc] at this; exact hc⟩
theorem durL_seen (S : List Se) (k : Nat) : seenK [] (durL S) k = [] := by
  unfold seenK
  rw [List.nil_append, List.filter_eq_nil_iff]
  intro x hx
  obtain ⟨y, hy, rfl⟩ := List.mem_map.1 hx
  rw [(durL_ln S y (List.mem_of_mem_take hy)).1]
  decide
theorem dur_ok {b : Br} (h : broOk b) : broOk (durB b) := by
  obtain ⟨L, S, K⟩ := b
  obtain ⟨h1, h2, _, h4, _⟩ := h
  simp only at h1 h2 h4
  have hmem : ∀ s ∈ S, sesOk s := fun s hs => by
    obtain ⟨j, hj⟩ := List.getElem?_of_mem hs
    exact (h4 j s hj).1
  have hp : (durL S).Pairwise (fun x y => lessB x.c y.c = true) := by
    have h0 := pw_step S (fun j y s hy hs => (h4 (j + 1) s hs).2.1 j y rfl hy)
    exact List.pairwise_map.2 (h0.filter _)
  refine ⟨?_, h2, fun k x hx => (by cases hx), fun k s hs => ⟨?_, fun j y hj hy => ?_, ?_⟩, ?_⟩
  · show (durL S).length ≤ 8
    unfold durL
    rw [List.length_map]
    exact Nat.le_trans (List.length_filter_le _ _) h1
  · have hs : (durL S)[k]? = some s := hs
    obtain ⟨y, hy, rfl⟩ := List.mem_map.1 (List.mem_of_getElem? hs)
    have h0 := List.mem_filter.1 hy
    exact sesOk_dur (hmem y h0.1) (by cases hc : y.cl; · rfl
                                      · have := h0.2; rw [hc] at this; cases this)
  · have hs : (durL S)[k]? = some s := hs
    have hy : (durL S)[j]? = some y := hy
    subst hj
    obtain ⟨i1, rfl⟩ := List.getElem?_eq_some_iff.1 hs
    obtain ⟨i2, rfl⟩ := List.getElem?_eq_some_iff.1 hy
    exact (List.pairwise_iff_getElem.1 hp) j (j + 1) i2 i1 (by omega)
  · rw [show (durB ⟨L, S, K⟩).L = [] from rfl, show (durB ⟨L, S, K⟩).S = durL S from rfl, durL_seen]
    simp
  · rw [show (durB ⟨L, S, K⟩).L = [] from rfl, show (durB ⟨L, S, K⟩).S = durL S from rfl, durL_seen]
    simp
theorem dur_dur {b : Br} (h : broOk b) : durB (durB b) = durB b := durB_same ⟨dur_ok h, rfl, durL_ln b.S⟩
theorem dur_bw {n : Nat} {b : Br} (h : BW n b) : BW n (durB b) := by
  refine ⟨Nat.zero_le _, ⟨?_, fun s hs => ?_⟩, h.k⟩
  · show (durL b.S).length ≤ n
    unfold durL
    rw [List.length_map]
    exact Nat.le_trans (List.length_filter_le _ _) h.s.1
  · have hs : s ∈ durL b.S := hs
    obtain ⟨y, hy, rfl⟩ := List.mem_map.1 hs
    have h0 := h.s.2 y (List.mem_filter.1 hy).1
    exact ⟨h0.c, h0.i, h0.s, h0.q, h0.f, ⟨Nat.zero_le _, Nat.zero_le _⟩⟩
theorem bw_sh {n : Nat} {b : Br} (h : BW n b) (hn : n ≤ 20000) : ShB b :=
  ⟨by have := h.l; omega, ⟨by have := h.s.1; omega, fun x hx => by
    have hx := h.s.2 x hx
    exact ⟨by have := hx.c; omega, fun y hy => by have := hx.s.2 y hy; omega, ⟨by have := hx.f.1; omega, by have := hx.q.1; omega, fun f hf => by have := hx.f.2 f hf; unfold ShortM; omega, fun m hm => by have := hx.q.2 m hm; unfold ShortM; omega⟩, by have := hx.i; omega, by have := hx.w; omega⟩⟩, fun m hm => by have := h.k.2 m hm; omega⟩
/-- No list is too long. -/
theorem bw_len {n : Nat} {b : Br} {R : List Rs} (h : BW n b) (hn : n ≤ 20000) (he : R.map (·.s) = b.S) :
    (b.L.length ≤ 1000000 ∧ R.length ≤ 1000000 ∧ b.K.length ≤ 1000000) ∧ (∀ x ∈ R, x.s.S.length ≤ 100000 ∧ x.s.o.F.length ≤ 100000 ∧ x.s.o.Q.length ≤ 100000 ∧ x.s.I.length ≤ 100000) := by
  refine ⟨⟨by have := h.l; omega, ?_, by have := h.k.1; omega⟩, fun x hx => ?_⟩
  · have h1 := congrArg List.length he
    rw [List.length_map] at h1
    have := h.s.1
    omega
  · have h0 := h.s.2 x.s (by rw [← he]; exact List.mem_map.2 ⟨x, hx, rfl⟩)
    exact ⟨by have := h0.s.1; omega, by have := h0.f.1; omega, by have := h0.q.1; omega, by have := h0.i; omega⟩
end Go.Proofs.YtknnaeejkmlnbaaGreatDoor
