/- Law 6: CopyStrings, Strings (what it leaves), text, TextWeight, size, Within. Law 6: heavy. -/


import Derived.Test.YtcgdlmlolmfinaaLkArg
import Derived.IntWalk
import Derived.Test.YtcgdlmlolmfinaaDraw
namespace Go.Proofs.Ytcgdlmlolmfinaa
section
open Go.RowKit
def sts (l : List (List UInt8)) : List Value := l.map strL
theorem sts_len (l : List (List UInt8)) : (sts l).length = l.length := by simp [sts]
theorem sts_at (l : List (List UInt8)) (i : Nat) (h : i < l.length) : (sts l)[i]? = some (strL l[i]) := by simp [sts, h]
theorem sts_set (l : List (List UInt8)) (i : Nat) (x : List UInt8) : (sts l).set i (strL x) = sts (l.set i x) := by simp [sts, List.map_set]
theorem take_snocS {α : Type} (L : List α) (k : Nat) (h : k < L.length) : L.take (k + 1) = L.take k ++ [L[k]] := List.take_succ_eq_append_getElem h
def within (i n : Int) : Int := i % 18446744073709551616 % n
theorem within_nn (i n : Int) (h : 1 ≤ n) : 0 ≤ within i n := Int.emod_nonneg _ (by omega)
theorem within_lt (i n : Int) (h : 1 ≤ n) : within i n < n := Int.emod_lt_of_pos _ (by omega)
theorem within_eq (i n : Int) (h : 1 ≤ n) (h2 : n ≤ 65536) : wrap64 ((IntKind.u64.wrap i).tmod n) = within i n := by
  have h0 : 0 ≤ IntKind.u64.wrap i := by rw [IntKind.wrap_u64]; omega
  rw [Int.tmod_eq_emod_of_nonneg h0, IntKind.wrap_u64]
  have a := within_nn i n h
  have b := within_lt i n h
  unfold within at a b ⊢
  exact IntWalk.wrap64_in _ ⟨by omega, by omega⟩
set_option maxHeartbeats 400000 in
theorem Within_any (w : World) (i n : Int) (h : 1 ≤ n) (h2 : n ≤ 65536) :
    Calls Try.prog 18 #[.int .i64 i, .int .i64 n] w fun e w' => e = .returned (.int .i64 (within i n)) ∧ w = w' := by
  go_enter Try.func18, Try.ntmps18
  go_wp2
  rw [within_eq i n h h2]
  go_ret
  exact ⟨rfl, rfl⟩
set_option maxHeartbeats 1000000 in
theorem CopyStrings_any (w : World) (v : Value) (L : List (List UInt8)) (Bd : Nat) (h : Rd w Bd 1 v L.length (sts L)) (hBd : Bd ≤ w.heap.size) (hn : L.length ≤ 1048576) :
    Calls Try.prog 32 #[v] w fun e w' => ∃ v', e = .returned v' ∧ w'.ownsRow w.heap.size 9 1 v' L.length (sts L) ∧ Below w.heap.size w w' := by
  obtain ⟨ao, cap, rfl, hc, hm⟩ := h.form
  have hm' : cap ≤ 9223372036854775807 := by unfold maxLen at hm; omega
  have H := Lib.hid h
  clear h hm
  go_enter Try.func32, Try.ntmps32
  go_wp2
  go_loopw [3, 4] (fun v i wr => ∃ k : Nat, k ≤ L.length ∧ i = .int .i64 k ∧ wr.ownsRow w.heap.size 9 1 v k (sts (L.take k)) ∧ Below w.heap.size w wr) (fun _ i _ => L.length - (intOf i).toNat)
  case atStart => exact ⟨0, by omega, rfl, by simpa [sts] using World.ownsRow_nil _ _ _ _, Below.refl _ _⟩
  case round =>
    obtain ⟨k, hk, rfl, hown, hb⟩ := hrel
    by_cases hlt : k < L.length
    · obtain ⟨b, o, u, rfl, hbb, hu, hcell⟩ := (H.out.below (hb.mono hBd)).at_ (k := k) (by omega)
      rw [sts_at L k hlt] at hu
      injection hu with hu
      subst hu
      obtain ⟨z, hz⟩ : ∃ z, z = L[k] := ⟨_, rfl⟩
      rw [← hz] at hcell
      unfold strL at hcell
      have HZ := Lib.hid hz
      clear hz
      have HO := Lib.hid hown
      have hzs := hb.size
      clear hown
      go_wp2_with (at_builtin; with_reducible refine wpList_app _ rfl (.tmp 11) (.tmp 16) _ rfl w.heap.size 9 (.string ⟨#[]⟩) 1 16 Try.underlying35 inf_Ts rfl (by omega) _ k (sts (L.take k)) rfl (HO.out.alloc _) _ _ 1 [.string ⟨z.toArray⟩] rfl (one_newS _ _) (by simp [Value.oneCell']) ?_ ?_ ?_ ?_)
      · unfold maxLen; omega
      · omega
      · simp; omega
      intro v1 w1 hown1 hg1 _
      have hb1 := (hb.alloc hzs _).grown hg1 (by simp; omega) (fun g hg => (HO.out.lt g hg).1)
      have hs : sts (L.take k) ++ [.string ⟨z.toArray⟩] = sts (L.take (k + 1)) := by rw [take_snocS L k hlt, ← HZ.out, sts, sts, List.map_append]; rfl
      rw [hs] at hown1
      have HO1 := Lib.hid hown1
      clear hown1 hs hg1
      go_wp2
      go_roundw
      case rel => exact ⟨k + 1, by omega, by go_num, HO1.out, hb1⟩
      case measure => simp [intOf]; omega
    · have : k = L.length := by omega
      subst this
      go_wp2
      go_ret
      exact ⟨_, rfl, by simpa using hown, hb⟩
theorem ownsRowS_stored_left {w : World} {B : Nat} {ao : Option Addr} {n cap k : Nat} {M : List Value} (h : w.ownsRow B 9 1 (.slice ao n cap) n M) {g : Nat} (hg : ao = some ⟨g, 0, none⟩) (u : Value) : Left (Value.ownL (.slice ao n cap)) w (w.setCell ⟨g, k, none⟩ u) :=
  (Left.refl _ _).setCell (Or.inl (by subst hg; simp [Value.ownL, Value.ownBlock])) _
set_option maxHeartbeats 1000000 in
theorem Strings_left (w : World) (B : Nat) (v : Value) (L : List (List UInt8)) (h : w.ownsRow B 9 1 v L.length (sts L)) (hB : B ≤ w.heap.size) (hn : L.length ≤ 1048576) :
    Calls Try.prog 17 #[v] w fun e w' => e = .returned (.tuple #[]) ∧ Left (Value.ownL v) w w' := by
  obtain ⟨ao, cap, rfl, hc, hm⟩ := (Rd.of_own h).form
  have H := Lib.hid h
  clear h hm
  go_enter Try.func17, Try.ntmps17
  go_wp2
  go_loopw [2] (fun i wr => ∃ k : Nat, k ≤ L.length ∧ i = .int .i64 k ∧ (∃ M : List (List UInt8), M.length = L.length ∧ wr.ownsRow B 9 1 (.slice ao L.length cap) L.length (sts M)) ∧ Left (Value.ownL (.slice ao L.length cap)) w wr) (fun i _ => L.length - (intOf i).toNat)
  case atStart => exact ⟨0, by omega, rfl, ⟨L, rfl, H.out⟩, Left.refl _ _⟩
  case round =>
    obtain ⟨k, hk, rfl, ⟨M, hM, hown⟩, hb⟩ := hrel
    by_cases hlt : k < L.length
    · obtain ⟨b, o, u, rfl, hbb, hu, hcell⟩ := (Rd.of_own hown).at_ (k := k) (by omega)
      obtain ⟨g, hg, hBg⟩ : ∃ g, (⟨b, o, none⟩ : Addr) = ⟨g, 0, none⟩ ∧ B ≤ g := by
        rcases hown.2 with ⟨h', _⟩ | ⟨g, cap', cur, hv, hBg, _⟩
        · cases h'
        · injection hv with hv
          injection hv with hv
          exact ⟨g, hv, hBg⟩
      injection hg with hg1 hg2
      subst hg1 hg2
      rw [sts_at M k (by omega)] at hu
      injection hu with hu
      subst hu
      rw [Nat.zero_add] at hcell
      unfold strL at hcell
      have hfr := hown.frozenAt k
      have HO := Lib.hid hown
      clear hown
      go_wp2
      go_roundw
      case rel => exact ⟨k + 1, by omega, by go_num, ⟨M.set k [63], by simp [hM], by rw [← sts_set]; exact (HO.out.stored k _).1⟩, hb.trans (ownsRowS_stored_left HO.out rfl _) (fun x hx => .inl hx)⟩
      case measure => simp [intOf]; omega
    · have hke : k = L.length := by omega
      subst hke
      have HO := Lib.hid hown
      have hzs := hb.size
      clear hown
      go_wp2_with (at_builtin; with_reducible refine wpList_app _ rfl (.tmp 12) (.tmp 13) _ rfl B 9 (.string ⟨#[]⟩) 1 16 Try.underlying35 inf_Ts rfl (by omega) _ L.length (sts M) rfl (HO.out.alloc _) _ _ 1 [.string ⟨#[63]⟩] rfl (one_newS _ _) (by simp [Value.oneCell']) ?_ ?_ ?_ ?_)
      · unfold maxLen; omega
      · omega
      · simp; omega
      intro v1 w1 hown1 hg1 _
      have hb1 := (hb.alloc (.cells #[.string ⟨#[63]⟩] 9)).trans (left_of_grown hg1) (fun x hx => .inl hx)
      clear hown1 hg1
      go_wp2
      go_end0
      exact ⟨rfl, hb1⟩
/-- What texts weigh, as far as it is counted. -/
def txW (l : List (List UInt8)) : Nat := l.length + (l.map List.length).sum
theorem sum_take_le (l : List (List UInt8)) (k : Nat) : ((l.take k).map List.length).sum ≤ (l.map List.length).sum := by
  induction l generalizing k with
  | nil => simp
  | cons x r ih => cases k with
    | zero => simp
    | succ k => simp only [List.take_succ_cons, List.map_cons, List.sum_cons]; have := ih k; omega
theorem sum_take_succ (l : List (List UInt8)) (k : Nat) (h : k < l.length) : ((l.take (k + 1)).map List.length).sum = ((l.take k).map List.length).sum + l[k].length := by
  rw [take_snocS l k h, List.map_append, List.sum_append]
  simp only [List.map_cons, List.map_nil, List.sum_cons, List.sum_nil, Nat.add_zero]
set_option maxHeartbeats 1000000 in
/-- A bound from below: counted wholly, or much. -/
theorem text_any (w : World) (v : Value) (L : List (List UInt8)) (Bd : Nat) (h : Rd w Bd 1 v L.length (sts L)) (hx : ∀ x ∈ L, x.length ≤ reachBytes) (hL : L.length ≤ reachBytes) :
    Calls Try.prog 42 #[v] w fun e w' => (∃ z : Nat, e = .returned (.int .i64 z) ∧ z ≤ 281475000000000 ∧ (z ≤ 1000000 → z = txW L)) ∧ w = w' := by
  obtain ⟨ao, cap, rfl, hc, hm⟩ := h.form
  have hm' : cap ≤ 9223372036854775807 := by unfold maxLen at hm; omega
  have hre : reachBytes = 140737488351232 := rfl
  have H := Lib.hid h
  have HX := Lib.hid hx
  rw [hre] at hL
  have HRE := Lib.hid hre
  clear h hm hx hre
  go_enter Try.func42, Try.ntmps42
  go_wp2
  go_loopw [3, 4] (fun n i wr => ∃ (k z : Nat), k ≤ L.length ∧ n = .int .i64 z ∧ i = .int .i64 k ∧ z ≤ 281475000000000 ∧ Hid (z = L.length + ((L.take k).map List.length).sum) ∧ w = wr) (fun _ i _ => L.length - (intOf i).toNat)
  case atStart => exact ⟨0, L.length, by omega, rfl, rfl, by omega, Lib.hid (by simp), rfl⟩
  case round =>
    obtain ⟨k, z, hk, rfl, rfl, hz, HZ, rfl⟩ := hrel
    by_cases hlt : k < L.length
    · have hlt' : (k : Int) < (L.length : Int) := by omega
      by_cases hzs : z < 1048576
      · have hzs' : (z : Int) < 1048576 := by omega
        obtain ⟨x, hxk⟩ : ∃ x, L[k]? = some x := ⟨_, List.getElem?_eq_getElem hlt⟩
        obtain ⟨b, o, q, e1, _, c1⟩ := rd_strs H.out hxk hlt
        injection e1 with e1a _ e1b
        subst e1a e1b
        have hxl := HX.out x (List.mem_of_getElem? hxk)
        rw [HRE.out] at hxl
        have HZ2 : Hid (z + x.length = L.length + ((L.take (k + 1)).map List.length).sum) := Lib.hid (by
          rw [sum_take_succ L k hlt, (List.getElem?_eq_some_iff.1 hxk).2, HZ.out]; omega)
        clear hxk
        go_wp2
        go_roundw
        case rel => exact ⟨k + 1, z + x.length, by omega, by go_num, by go_num, by omega, HZ2, trivial⟩
        case measure => simp [intOf]; omega
      · have hzs' : ¬ ((z : Int) < 1048576) := by omega
        go_wp2
        go_ret
        exact ⟨⟨z, rfl, by omega, fun h => by omega⟩, rfl⟩
    · have hke : k = L.length := by omega
      have HZ2 : Hid (z = txW L) := Lib.hid (by rw [HZ.out, hke, List.take_length]; rfl)
      clear hke
      go_wp2
      go_ret
      exact ⟨⟨z, rfl, by omega, fun _ => HZ2.out⟩, rfl⟩
set_option maxHeartbeats 1000000 in
theorem TextWeight_any (w : World) (v : Value) (L : List (List UInt8)) (Bd : Nat) (h : Rd w Bd 1 v L.length (sts L)) (hx : ∀ x ∈ L, x.length ≤ reachBytes) (hL : L.length ≤ reachBytes) :
    Calls Try.prog 30 #[v] w fun e w' => (∃ z : Nat, e = .returned (.int .i64 z) ∧ z ≤ 281475000000000 ∧ (z ≤ 1000000 → z = txW L)) ∧ w = w' := by
  have HT := Lib.hid (text_any w v L Bd h hx hL)
  obtain ⟨ao, cap, rfl, hc, hm⟩ := h.form
  clear h hx hm
  go_enter Try.func30, Try.ntmps30
  go_wp2_with fail
  refine HT.out.mono ?_
  rintro e w' ⟨⟨z, rfl, h1, h2⟩, rfl⟩
  have HZ := Lib.hid (And.intro h1 h2)
  clear h1 h2
  go_wp2
  go_ret
  exact ⟨⟨z, rfl, HZ.out⟩, rfl⟩
set_option maxHeartbeats 1000000 in
theorem size_any (w : World) (v : Value) (L : List (List UInt8)) (Bd : Nat) (h : Rd w Bd 1 v L.length (sts L)) (hs : wtL L ≤ 1000000000) :
    Calls Try.prog 31 #[v] w fun e w' => e = .returned (.int .i64 (wtL L)) ∧ w = w' := by
  obtain ⟨ao, cap, rfl, hc, hm⟩ := h.form
  have hm' : cap ≤ 9223372036854775807 := by unfold maxLen at hm; omega
  have H := Lib.hid h
  have hap : ∀ k, k ≤ L.length → wtL (L.take k) ≤ wtL L := fun k _ => by
    have h1 := wtL_app (L.take k) (L.drop k)
    rw [List.take_append_drop] at h1
    omega
  have HAP := Lib.hid hap
  clear h hm hap
  go_enter Try.func31, Try.ntmps31
  go_wp2
  go_loopw [3, 4] (fun n i wr => ∃ (k z : Nat), k ≤ L.length ∧ n = .int .i64 z ∧ i = .int .i64 k ∧ z ≤ 1000000000 ∧ Hid (z = wtL (L.take k)) ∧ w = wr) (fun _ i _ => L.length - (intOf i).toNat)
  case atStart => exact ⟨0, 0, by omega, rfl, rfl, by omega, Lib.hid (by simp [wtL]), rfl⟩
  case round =>
    obtain ⟨k, z, hk, rfl, rfl, hz, HZ, rfl⟩ := hrel
    by_cases hlt : k < L.length
    · have hlt' : (k : Int) < (L.length : Int) := by omega
      obtain ⟨x, hxk⟩ : ∃ x, L[k]? = some x := ⟨_, List.getElem?_eq_getElem hlt⟩
      obtain ⟨b, o, q, e1, _, c1⟩ := rd_strs H.out hxk hlt
      injection e1 with e1a _ e1b
      subst e1a e1b
      have HZ2 : Hid (z + x.length + 128 = wtL (L.take (k + 1))) := Lib.hid (by
        rw [take_snocS L k hlt, wtL_app, (List.getElem?_eq_some_iff.1 hxk).2, ← HZ.out]
        simp only [wtL]
        omega)
      have hz2 : z + x.length + 128 ≤ 1000000000 := by
        rw [HZ2.out]; have := HAP.out (k + 1) (by omega); omega
      clear hxk
      go_wp2
      go_roundw
      case rel => exact ⟨k + 1, z + x.length + 128, by omega, by go_num, by go_num, by omega, HZ2, trivial⟩
      case measure => simp [intOf]; omega
    · have hke : k = L.length := by omega
      have HZ2 : Hid (z = wtL L) := Lib.hid (by rw [HZ.out, hke, List.take_length])
      clear hke
      go_wp2
      go_ret
      exact ⟨by rw [← HZ2.out]; rfl, rfl⟩
end
section
open Go.RowKit
def wtA (a : Act6) : Nat := a.s.length + txW a.l + a.k.length
def Light6 (A : List Act6) (O : List Int) : Prop := (∀ a ∈ A, wtA a ≤ 40000) ∧ O.length ≤ 20 ∧ A.length ≤ 200
def Hv6P (w : World) (A : List Act6) (O : List Int) (e : Ending) (w' : World) : Prop := ∃ b, e = .returned (.bool b) ∧ (b = false → Light6 A O) ∧ Below w.heap.size w w'
theorem wrap3 (z s t k : Nat) (hz : z ≤ 1048576) (hs : s ≤ 140737488351232) (ht : t ≤ 281475000000000) (hk : k ≤ 140737488351232) : IntKind.i64.wrap (IntKind.i64.wrap (IntKind.i64.wrap ((z : Int) + (s : Int)) + (t : Int)) + (k : Int)) = (z : Int) + (s : Int) + (t : Int) + (k : Int) := by
  rw [IntWalk.i64_in ((z : Int) + (s : Int)) ⟨by omega, by omega⟩, IntWalk.i64_in ((z : Int) + (s : Int) + (t : Int)) ⟨by omega, by omega⟩, IntWalk.i64_in _ ⟨by omega, by omega⟩]
set_option maxRecDepth 20000 in
set_option maxHeartbeats 4000000 in
theorem heavy6 (w : World) (lv ov : Value) (A : List Act6) (O : List Int) (hA : ActsAt6 w w.heap.size lv A) (hO : Rd w w.heap.size 1 ov O.length (i64s O)) :
    Calls Try.prog 14 #[.agg #[lv, ov]] w (Hv6P w A O) := by
  have hA0 := hA
  obtain ⟨ao, cap, rfl, hc1, hc2, _⟩ := hA
  obtain ⟨oo, oc, rfl, ho1, ho2⟩ := hO.form
  have ho3 : oc ≤ 9223372036854775807 := by unfold maxLen at ho2; omega
  obtain ⟨w0, hw0⟩ : ∃ w0, w0 = w.alloc (.cells #[.slice ao A.length cap, .slice oo O.length oc] 25) := ⟨_, rfl⟩
  have hb0 : Below w.heap.size w w0 := by rw [hw0]; exact (Below.refl _ _).alloc (Nat.le_refl _) _
  have hW0 : Whole w0 w.heap.size 25 [.slice ao A.length cap, .slice oo O.length oc] := by rw [hw0]; exact Whole.new w 25 _
  have HA := Lib.hid (hA0.below hb0)
  have hre : reachBytes = 140737488351232 := rfl
  have HRE := Lib.hid hre
  have HB0 := Lib.hid hb0
  have HW0 := Lib.hid hW0
  have hch := hw0.symm
  have HWW := Lib.hid hw0
  have b0 : w0.cell? ⟨w.heap.size, 0, none⟩ = some (.slice ao A.length cap) := by rw [hW0.cell]; rfl
  have b1 : w0.cell? ⟨w.heap.size, 1, none⟩ = some (.slice oo O.length oc) := by rw [hW0.cell]; rfl
  clear hA0 hO hb0 hW0 hw0 ho2 hre
  go_enter Try.func14, Try.ntmps14
  go_wp2
  go_loopw [3, 4] (fun n i wr => ∃ (k z : Nat), k ≤ A.length ∧ n = .int .i64 z ∧ i = .int .i64 k ∧ z ≤ 1000000000000000 ∧ Hid (z ≤ 40000 → ∀ (j : Nat) (a : Act6), j < k → A[j]? = some a → wtA a ≤ 40000) ∧ ∃ nd, wr = w0.drewN nd) (fun _ i _ => A.length - (intOf i).toNat)
  case atStart => exact ⟨0, 0, by omega, rfl, rfl, by omega, Lib.hid (fun _ j a hj _ => by omega), 0, rfl⟩
  case round =>
    obtain ⟨k, z, hk, rfl, rfl, hz, HZ, nd, rfl⟩ := hrel
    by_cases hlt : k < A.length
    · have hlt' : (k : Int) < (A.length : Int) := by omega
      by_cases hzs : z < 1048576
      · have hzs' : (z : Int) < 1048576 := by omega
        obtain ⟨a, ha⟩ : ∃ a, A[k]? = some a := ⟨_, List.getElem?_eq_getElem hlt⟩
        obtain ⟨⟨b, o, rfl, hAt⟩, hR⟩ := act6_get HA.out ha
        obtain ⟨lv, c2, hL⟩ := hAt.l
        obtain ⟨kv, c3, hK⟩ := hAt.k
        have c1 := hAt.s
        obtain ⟨lo, lc, rfl, hl1, hl2⟩ := hL.form
        obtain ⟨ko, kc, rfl, hk1, hk2⟩ := hK.form
        have hTW := TextWeight_any (w0.drewN (nd + 1)) _ a.l w.heap.size (hL) hR.l (by have := hR.ll; omega)
        have hs1 : (⟨a.s.toArray⟩ : ByteArray).size = a.s.length := by simp [ByteArray.size]
        have hsl := hR.s
        rw [HRE.out] at hsl
        have hkl : a.k.length ≤ 140737488351232 := by have := hR.kl; rw [HRE.out] at this; omega
        have hkc : kc ≤ 9223372036854775807 := by unfold maxLen at hk2; omega
        have HTW := Lib.hid hTW
        have HA1 := Lib.hid ha
        clear ha hAt hR hL hK hTW hl2 hk2
        go_wp2
        refine wp_region_held_drew (S := fun wx => wx.cell? ⟨w.heap.size, 0, none⟩ = some (.slice (some ⟨b, o, none⟩) A.length cap) ∧ wx.cell? ⟨b, o + k * 4 + 1, none⟩ = some (.string ⟨a.s.toArray⟩) ∧ wx.cell? ⟨b, o + k * 4 + 2, none⟩ = some (.slice lo a.l.length lc) ∧ wx.cell? ⟨b, o + k * 4 + 3, none⟩ = some (.slice ko a.k.length kc)) (by kernel_rfl) ⟨b0, c1, c2, c3⟩ (fun hHeld => ?_)
        refine take_h 0 ⟨?_, ?_, ?_, by kernel_rfl, by kernel_rfl, by kernel_rfl, ?_, ?_, by assumption, ?_⟩
        rotate_left 2
        · (simp only [List.getElem?_toArray, List.getElem?_cons_zero]; exact rfl)
        · exact fun _ _ _ h => h
        · first
            | (refine Or.inr ⟨by rfl, ?_⟩; exact rfl)
            | (refine Or.inl ⟨by rfl, ?_⟩
               intro w hSw
               (try dsimp only at hSw)
               (try go_split_ands)
               go_simp
               (first | done | with_reducible rfl))
        try simp only [Act.put, List.setIfInBounds_toArray, List.set_cons_zero, List.set_cons_succ]
        refine take_h 1 ⟨?_, ?_, ?_, by kernel_rfl, by kernel_rfl, by kernel_rfl, ?_, ?_, by assumption, ?_⟩
        rotate_left 2
        · (simp only [List.getElem?_toArray, List.getElem?_cons_succ, List.getElem?_cons_zero]; exact rfl)
        · exact fun _ _ _ h => h
        · first
            | (refine Or.inr ⟨by rfl, ?_⟩; exact rfl)
            | (refine Or.inl ⟨by rfl, ?_⟩
               intro w hSw
               (try dsimp only at hSw)
               (try go_split_ands)
               go_simp
               (first | done | with_reducible rfl))
        try simp only [Act.put, List.setIfInBounds_toArray, List.set_cons_zero, List.set_cons_succ]
        refine take_h 2 ⟨?_, ?_, ?_, by kernel_rfl, by kernel_rfl, by kernel_rfl, ?_, ?_, by assumption, ?_⟩
        rotate_left 2
        · (simp only [List.getElem?_toArray, List.getElem?_cons_succ, List.getElem?_cons_zero]; exact rfl)
        · exact fun _ _ _ h => h
        · first
            | (refine Or.inr ⟨by rfl, ?_⟩; exact rfl)
            | (refine Or.inl ⟨by rfl, ?_⟩
               intro w hSw
               (try dsimp only at hSw)
               (try go_split_ands)
               go_simp
               (first | done | with_reducible rfl))
        try simp only [Act.put, List.setIfInBounds_toArray, List.set_cons_zero, List.set_cons_succ]
        refine take_h 3 ⟨?_, ?_, ?_, by kernel_rfl, by kernel_rfl, by kernel_rfl, ?_, ?_, by assumption, ?_⟩
        rotate_left 2
        · (simp only [List.getElem?_toArray, List.getElem?_cons_succ, List.getElem?_cons_zero]; exact rfl)
        · exact fun _ _ _ h => h
        · first
            | (refine Or.inr ⟨by rfl, ?_⟩; exact rfl)
            | (refine Or.inl ⟨by rfl, ?_⟩
               intro w hSw
               (try dsimp only at hSw)
               (try go_split_ands)
               go_simp
               (first | done | with_reducible rfl))
        try simp only [Act.put, List.setIfInBounds_toArray, List.set_cons_zero, List.set_cons_succ]
        refine take_h 4 ⟨?_, ?_, ?_, by kernel_rfl, by kernel_rfl, by kernel_rfl, ?_, ?_, by assumption, ?_⟩
        rotate_left 2
        · (simp only [List.getElem?_toArray, List.getElem?_cons_succ, List.getElem?_cons_zero]; exact rfl)
        · exact fun _ _ _ h => h
        · first
            | (refine Or.inr ⟨by rfl, ?_⟩; exact rfl)
            | (refine Or.inl ⟨by rfl, ?_⟩
               intro w hSw
               (try dsimp only at hSw)
               (try go_split_ands)
               go_simp
               (first | done | with_reducible rfl))
        try simp only [Act.put, List.setIfInBounds_toArray, List.set_cons_zero, List.set_cons_succ]
        refine take_h 5 ⟨?_, ?_, ?_, by kernel_rfl, by kernel_rfl, by kernel_rfl, ?_, ?_, by assumption, ?_⟩
        rotate_left 2
        · (simp only [List.getElem?_toArray, List.getElem?_cons_succ, List.getElem?_cons_zero]; exact rfl)
        · exact fun _ _ _ h => h
        · first
            | (refine Or.inr ⟨by rfl, ?_⟩; exact rfl)
            | (refine Or.inl ⟨by rfl, ?_⟩
               intro w hSw
               (try dsimp only at hSw)
               (try go_split_ands)
               go_simp
               (first | done | with_reducible rfl))
        try simp only [Act.put, List.setIfInBounds_toArray, List.set_cons_zero, List.set_cons_succ]
        refine take_h 6 ⟨?_, ?_, ?_, by kernel_rfl, by kernel_rfl, by kernel_rfl, ?_, ?_, by assumption, ?_⟩
        rotate_left 2
        · (simp only [List.getElem?_toArray, List.getElem?_cons_succ, List.getElem?_cons_zero]; exact rfl)
        · exact fun _ _ _ h => h
        · first
            | (refine Or.inr ⟨by rfl, ?_⟩; exact rfl)
            | (refine Or.inl ⟨by rfl, ?_⟩
               intro w hSw
               (try dsimp only at hSw)
               (try go_split_ands)
               go_simp
               (first | done | with_reducible rfl))
        try simp only [Act.put, List.setIfInBounds_toArray, List.set_cons_zero, List.set_cons_succ]
        refine take_h 7 ⟨?_, ?_, ?_, by kernel_rfl, by kernel_rfl, by kernel_rfl, ?_, ?_, by assumption, ?_⟩
        rotate_left 2
        · (simp only [List.getElem?_toArray, List.getElem?_cons_succ, List.getElem?_cons_zero]; exact rfl)
        · exact fun _ _ _ h => h
        · first
            | (refine Or.inr ⟨by rfl, ?_⟩; exact rfl)
            | (refine Or.inl ⟨by rfl, ?_⟩
               intro w hSw
               (try dsimp only at hSw)
               (try go_split_ands)
               go_simp
               (first | done | with_reducible rfl))
        try simp only [Act.put, List.setIfInBounds_toArray, List.set_cons_zero, List.set_cons_succ]
        refine take_h 8 ⟨?_, ?_, ?_, by kernel_rfl, by kernel_rfl, by kernel_rfl, ?_, ?_, by assumption, ?_⟩
        rotate_left 2
        · (simp only [List.getElem?_toArray, List.getElem?_cons_succ, List.getElem?_cons_zero]; exact rfl)
        · exact fun _ _ _ h => h
        · first
            | (refine Or.inr ⟨by rfl, ?_⟩; exact rfl)
            | (refine Or.inl ⟨by rfl, ?_⟩
               intro w hSw
               (try dsimp only at hSw)
               (try go_split_ands)
               go_simp
               (first | done | with_reducible rfl))
        try simp only [Act.put, List.setIfInBounds_toArray, List.set_cons_zero, List.set_cons_succ]
        refine take_h 9 ⟨?_, ?_, ?_, by kernel_rfl, by kernel_rfl, by kernel_rfl, ?_, ?_, by assumption, ?_⟩
        rotate_left 2
        · (simp only [List.getElem?_toArray, List.getElem?_cons_succ, List.getElem?_cons_zero]; exact rfl)
        · exact fun _ _ _ h => h
        · first
            | (refine Or.inr ⟨by rfl, ?_⟩; exact rfl)
            | (refine Or.inl ⟨by rfl, ?_⟩
               intro w hSw
               (try dsimp only at hSw)
               (try go_split_ands)
               go_simp
               (first | done | with_reducible rfl))
        try simp only [Act.put, List.setIfInBounds_toArray, List.set_cons_zero, List.set_cons_succ]
        refine take_h 10 ⟨?_, ?_, ?_, by kernel_rfl, by kernel_rfl, by kernel_rfl, ?_, ?_, by assumption, ?_⟩
        rotate_left 2
        · (simp only [List.getElem?_toArray, List.getElem?_cons_succ, List.getElem?_cons_zero]; exact rfl)
        · exact fun _ _ _ h => h
        · first
            | (refine Or.inr ⟨by rfl, ?_⟩; exact rfl)
            | (refine Or.inl ⟨by rfl, ?_⟩
               intro w hSw
               (try dsimp only at hSw)
               (try go_split_ands)
               go_simp
               (first | done | with_reducible rfl))
        try simp only [Act.put, List.setIfInBounds_toArray, List.set_cons_zero, List.set_cons_succ]
        refine take_h 11 ⟨?_, ?_, ?_, by kernel_rfl, by kernel_rfl, by kernel_rfl, ?_, ?_, by assumption, ?_⟩
        rotate_left 2
        · (simp only [List.getElem?_toArray, List.getElem?_cons_succ, List.getElem?_cons_zero]; exact rfl)
        · exact fun _ _ _ h => h
        · first
            | (refine Or.inr ⟨by rfl, ?_⟩; exact rfl)
            | (refine Or.inl ⟨by rfl, ?_⟩
               intro w hSw
               (try dsimp only at hSw)
               (try go_split_ands)
               go_simp
               (first | done | with_reducible rfl))
        try simp only [Act.put, List.setIfInBounds_toArray, List.set_cons_zero, List.set_cons_succ]
        refine take_h 12 ⟨?_, ?_, ?_, by kernel_rfl, by kernel_rfl, by kernel_rfl, ?_, ?_, by assumption, ?_⟩
        rotate_left 2
        · (simp only [List.getElem?_toArray, List.getElem?_cons_succ, List.getElem?_cons_zero]; exact rfl)
        · exact fun _ _ _ h => h
        · first
            | (refine Or.inr ⟨by rfl, ?_⟩; exact rfl)
            | (refine Or.inl ⟨by rfl, ?_⟩
               intro w hSw
               (try dsimp only at hSw)
               (try go_split_ands)
               go_simp
               (first | done | with_reducible rfl))
        try simp only [Act.put, List.setIfInBounds_toArray, List.set_cons_zero, List.set_cons_succ]
        refine take_h 13 ⟨?_, ?_, ?_, by kernel_rfl, by kernel_rfl, by kernel_rfl, ?_, ?_, by assumption, ?_⟩
        rotate_left 2
        · (simp only [List.getElem?_toArray, List.getElem?_cons_succ, List.getElem?_cons_zero]; exact rfl)
        · exact fun _ _ _ h => h
        · first
            | (refine Or.inr ⟨by rfl, ?_⟩; exact rfl)
            | (refine Or.inl ⟨by rfl, ?_⟩
               intro w hSw
               (try dsimp only at hSw)
               (try go_split_ands)
               go_simp
               (first | done | with_reducible rfl))
        try simp only [Act.put, List.setIfInBounds_toArray, List.set_cons_zero, List.set_cons_succ]
        refine take_h 14 ⟨?_, ?_, ?_, by kernel_rfl, by kernel_rfl, by kernel_rfl, ?_, ?_, by assumption, ?_⟩
        rotate_left 2
        · (simp only [List.getElem?_toArray, List.getElem?_cons_succ, List.getElem?_cons_zero]; exact rfl)
        · exact fun _ _ _ h => h
        · first
            | (refine Or.inr ⟨by rfl, ?_⟩; exact rfl)
            | (refine Or.inl ⟨by rfl, ?_⟩
               intro w hSw
               (try dsimp only at hSw)
               (try go_split_ands)
               go_simp
               (first | done | with_reducible rfl))
        try simp only [Act.put, List.setIfInBounds_toArray, List.set_cons_zero, List.set_cons_succ]
        refine take_h 17 ⟨?_, ?_, ?_, by kernel_rfl, by kernel_rfl, by kernel_rfl, ?_, ?_, by assumption, ?_⟩
        rotate_left 2
        · (simp only [List.getElem?_toArray, List.getElem?_cons_succ, List.getElem?_cons_zero]; exact rfl)
        · exact fun _ _ _ h => h
        · first
            | (refine Or.inr ⟨by rfl, ?_⟩; exact rfl)
            | (refine Or.inl ⟨by rfl, ?_⟩
               intro w hSw
               (try dsimp only at hSw)
               (try go_split_ands)
               go_simp
               (first | done | with_reducible rfl))
        try simp only [Act.put, List.setIfInBounds_toArray, List.set_cons_zero, List.set_cons_succ]
        refine take_h 18 ⟨?_, ?_, ?_, by kernel_rfl, by kernel_rfl, by kernel_rfl, ?_, ?_, by assumption, ?_⟩
        rotate_left 2
        · (simp only [List.getElem?_toArray, List.getElem?_cons_succ, List.getElem?_cons_zero]; exact rfl)
        · exact fun _ _ _ h => h
        · first
            | (refine Or.inr ⟨by rfl, ?_⟩; exact rfl)
            | (refine Or.inl ⟨by rfl, ?_⟩
               intro w hSw
               (try dsimp only at hSw)
               (try go_split_ands)
               go_simp
               (first | done | with_reducible rfl))
        try simp only [Act.put, List.setIfInBounds_toArray, List.set_cons_zero, List.set_cons_succ]
        refine take_h 19 ⟨?_, ?_, ?_, by kernel_rfl, by kernel_rfl, by kernel_rfl, ?_, ?_, by assumption, ?_⟩
        rotate_left 2
        · (simp only [List.getElem?_toArray, List.getElem?_cons_succ, List.getElem?_cons_zero]; exact rfl)
        · exact fun _ _ _ h => h
        · first
            | (refine Or.inr ⟨by rfl, ?_⟩; exact rfl)
            | (refine Or.inl ⟨by rfl, ?_⟩
               intro w hSw
               (try dsimp only at hSw)
               (try go_split_ands)
               go_simp
               (first | done | with_reducible rfl))
        try simp only [Act.put, List.setIfInBounds_toArray, List.set_cons_zero, List.set_cons_succ]
        refine take_h 20 ⟨?_, ?_, ?_, by kernel_rfl, by kernel_rfl, by kernel_rfl, ?_, ?_, by assumption, ?_⟩
        rotate_left 2
        · (simp only [List.getElem?_toArray, List.getElem?_cons_succ, List.getElem?_cons_zero]; exact rfl)
        · exact fun _ _ _ h => h
        · first
            | (refine Or.inr ⟨by rfl, ?_⟩; exact rfl)
            | (refine Or.inl ⟨by rfl, ?_⟩
               intro w hSw
               (try dsimp only at hSw)
               (try go_split_ands)
               go_simp
               (first | done | with_reducible rfl))
        try simp only [Act.put, List.setIfInBounds_toArray, List.set_cons_zero, List.set_cons_succ]
        refine take_h 21 ⟨?_, ?_, ?_, by kernel_rfl, by kernel_rfl, by kernel_rfl, ?_, ?_, by assumption, ?_⟩
        rotate_left 2
        · (simp only [List.getElem?_toArray, List.getElem?_cons_succ, List.getElem?_cons_zero]; exact rfl)
        · exact fun _ _ _ h => h
        · first
            | (refine Or.inr ⟨by rfl, ?_⟩; exact rfl)
            | (refine Or.inl ⟨by rfl, ?_⟩
               intro w hSw
               (try dsimp only at hSw)
               (try go_split_ands)
               go_simp
               (first | done | with_reducible rfl))
        try simp only [Act.put, List.setIfInBounds_toArray, List.set_cons_zero, List.set_cons_succ]
        refine take_h 22 ⟨?_, ?_, ?_, by kernel_rfl, by kernel_rfl, by kernel_rfl, ?_, ?_, by assumption, ?_⟩
        rotate_left 2
        · (simp only [List.getElem?_toArray, List.getElem?_cons_succ, List.getElem?_cons_zero]; exact rfl)
        · exact fun _ _ _ h => h
        · first
            | (refine Or.inr ⟨by rfl, ?_⟩; exact rfl)
            | (refine Or.inl ⟨by rfl, ?_⟩
               intro w hSw
               (try dsimp only at hSw)
               (try go_split_ands)
               go_simp
               (first | done | with_reducible rfl))
        try simp only [Act.put, List.setIfInBounds_toArray, List.set_cons_zero, List.set_cons_succ]
        refine take_h 23 ⟨?_, ?_, ?_, by kernel_rfl, by kernel_rfl, by kernel_rfl, ?_, ?_, by assumption, ?_⟩
        rotate_left 2
        · (simp only [List.getElem?_toArray, List.getElem?_cons_succ, List.getElem?_cons_zero]; exact rfl)
        · exact fun _ _ _ h => h
        · first
            | (refine Or.inr ⟨by rfl, ?_⟩; exact rfl)
            | (refine Or.inl ⟨by rfl, ?_⟩
               intro w hSw
               (try dsimp only at hSw)
               (try go_split_ands)
               go_simp
               (first | done | with_reducible rfl))
        try simp only [Act.put, List.setIfInBounds_toArray, List.set_cons_zero, List.set_cons_succ]
        refine wpAnyH_ready (rs := [15]) (by kernel_rfl) (by simp) ?_
        refine call_h 15 ⟨?_, ?_, fun K hK => ?_⟩
        rotate_left 1
        · (simp only [List.getElem?_toArray, List.getElem?_cons_succ, List.getElem?_cons_zero]; exact rfl)
        go_simp
        (go_at_call 30; refine HTW.out.mono ?_; rintro e w2 ⟨⟨tz, rfl, ht1, ht2⟩, rfl⟩)
        go_wp2_with fail
        refine hK.out _ _ hHeld (fun hHeld => ?_)
        clear hK K
        (try simp only [Act.put, List.setIfInBounds_toArray, List.set_cons_zero, List.set_cons_succ])
        have HT2 := Lib.hid ht2
        clear ht2
        refine take_h 16 ⟨?_, ?_, ?_, by kernel_rfl, by kernel_rfl, by kernel_rfl, ?_, ?_, by assumption, ?_⟩
        rotate_left 2
        · (simp only [List.getElem?_toArray, List.getElem?_cons_succ, List.getElem?_cons_zero]; exact rfl)
        · exact fun _ _ _ h => h
        · first
            | (refine Or.inr ⟨by rfl, ?_⟩; exact rfl)
            | (refine Or.inl ⟨by rfl, ?_⟩
               intro w hSw
               (try dsimp only at hSw)
               (try go_split_ands)
               go_simp
               (first | done | with_reducible rfl))
        try simp only [Act.put, List.setIfInBounds_toArray, List.set_cons_zero, List.set_cons_succ]
        refine take_h 24 ⟨?_, ?_, ?_, by kernel_rfl, by kernel_rfl, by kernel_rfl, ?_, ?_, by assumption, ?_⟩
        rotate_left 2
        · (simp only [List.getElem?_toArray, List.getElem?_cons_succ, List.getElem?_cons_zero]; exact rfl)
        · exact fun _ _ _ h => h
        · first
            | (refine Or.inr ⟨by rfl, ?_⟩; exact rfl)
            | (refine Or.inl ⟨by rfl, ?_⟩
               intro w hSw
               (try dsimp only at hSw)
               (try go_split_ands)
               go_simp
               (first | done | with_reducible rfl))
        try simp only [Act.put, List.setIfInBounds_toArray, List.set_cons_zero, List.set_cons_succ]
        refine take_h 25 ⟨?_, ?_, ?_, by kernel_rfl, by kernel_rfl, by kernel_rfl, ?_, ?_, by assumption, ?_⟩
        rotate_left 2
        · (simp only [List.getElem?_toArray, List.getElem?_cons_succ, List.getElem?_cons_zero]; exact rfl)
        · exact fun _ _ _ h => h
        · first
            | (refine Or.inr ⟨by rfl, ?_⟩; exact rfl)
            | (refine Or.inl ⟨by rfl, ?_⟩
               intro w hSw
               (try dsimp only at hSw)
               (try go_split_ands)
               go_simp
               (first | done | with_reducible rfl))
        try simp only [Act.put, List.setIfInBounds_toArray, List.set_cons_zero, List.set_cons_succ]
        refine wpAnyH_done (by kernel_rfl) ?_ _
        clear hHeld
        have HZ2 : Hid (z + a.s.length + tz + a.k.length ≤ 40000 → ∀ (j : Nat) (a' : Act6), j < k + 1 → A[j]? = some a' → wtA a' ≤ 40000) := Lib.hid (fun h j a' hj ha' => by
          by_cases hjk : j = k
          · subst hjk
            rw [HA1.out] at ha'
            injection ha' with ha'
            subst ha'
            unfold wtA
            rw [← HT2.out (by omega)]
            omega
          · exact HZ.out (by omega) j a' (by omega) ha')
        go_wp2
        rw [wrap3 z a.s.length tz a.k.length (by omega) hsl ht1 hkl]
        exact ⟨⟨k + 1, z + a.s.length + tz + a.k.length, by omega, by go_num, by go_num, by omega, HZ2, nd + 1, rfl⟩, by simp [intOf]; omega⟩
      · have hzs' : ¬ ((z : Int) < 1048576) := by omega
        have h1' : (40000 : Int) < (z : Int) := by omega
        go_wp2
        go_ret
        exact ⟨_, rfl, fun h => (by cases h), below_drewN HB0.out _⟩
    · have hke : k = A.length := by omega
      have HZ2 : Hid (z ≤ 40000 → ∀ a ∈ A, wtA a ≤ 40000) := Lib.hid (fun h a ha => by
        obtain ⟨j, hj⟩ := List.getElem?_of_mem ha
        exact HZ.out h j a (by rw [hke]; exact (List.getElem?_eq_some_iff.1 hj).1) hj)
      clear hke
      by_cases h1 : 40000 < z
      · have h1' : (40000 : Int) < (z : Int) := by omega
        go_wp2
        go_ret
        exact ⟨_, rfl, fun h => (by cases h), below_drewN HB0.out _⟩
      · have h1' : ¬ ((40000 : Int) < (z : Int)) := by omega
        by_cases h2 : 20 < O.length
        · have h2' : (20 : Int) < (O.length : Int) := by omega
          go_wp2
          go_ret
          exact ⟨_, rfl, fun h => (by cases h), below_drewN HB0.out _⟩
        · have h2' : ¬ ((20 : Int) < (O.length : Int)) := by omega
          by_cases h3 : 200 < A.length
          · have h3' : (200 : Int) < (A.length : Int) := by omega
            go_wp2
            go_ret
            exact ⟨_, rfl, fun h => (by cases h), below_drewN HB0.out _⟩
          · have h3' : ¬ ((200 : Int) < (A.length : Int)) := by omega
            have HLT : Hid (Light6 A O) := Lib.hid ⟨HZ2.out (by omega), by omega, by omega⟩
            go_wp2
            go_ret
            exact ⟨_, rfl, fun _ => HLT.out, below_drewN HB0.out _⟩
end
end Go.Proofs.Ytcgdlmlolmfinaa
