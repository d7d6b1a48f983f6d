/- The page's Drop; what a law spoils. -/


import Derived.Test.YtimjbojoeacaeaaDoorSbAdd
namespace Go.Proofs.YtimjbojoeacaeaaDoor
open Go.RowKit Go.Shelf Go.Proofs

/-- Without a filter. -/
def without (L : List Wish1) (f : ByteArray) : List Wish1 := L.filter fun x => !(x.f.toList == f.toList)
theorem without_snoc (L : List Wish1) (f : ByteArray) (k : Nat) (x : Wish1) (h : L[k]? = some x) : without (L.take (k + 1)) f = without (L.take k) f ++ (if x.f.toList == f.toList then [] else [x]) := by
  rw [wtake_snoc L k x h]
  unfold without
  rw [List.filter_append]
  congr 1
  cases e : x.f.toList == f.toList <;> simp [e]
theorem without_le (L : List Wish1) (f : ByteArray) (k : Nat) : (without (L.take k) f).length ≤ k := by
  refine Nat.le_trans (List.length_filter_le _ _) ?_
  rw [List.length_take]
  omega

set_option maxHeartbeats 1000000 in
theorem rDrop_any (w : World) (v : Value) (L : List Wish1) (f : ByteArray) (Bd : Nat) (h : Rd w Bd 2 v L.length (wCells L)) (hBd : Bd ≤ w.heap.size) (hn : L.length ≤ 1000000000) :
    Calls Tryd.prog 41 #[v, .string f] w fun e w' => ∃ v', e = .returned (.tuple #[v', .bool (decide ((without L f).length < L.length))]) ∧ w'.ownsRow w.heap.size 43 2 v' (without L f).length (wCells (without L f)) ∧ Below w.heap.size w w' := by
  obtain ⟨ao, cap, rfl, hc, hm⟩ := h.form
  have hm' : cap ≤ 9223372036854775807 := by unfold maxLen at hm; omega
  have H := Lib.hid h
  clear h hm
  go_enter Tryd.func41, Tryd.ntmps41
  go_wp2
  go_loopw [6, 7] (fun v i wr => ∃ k : Nat, k ≤ L.length ∧ i = .int .i64 k ∧ wr.ownsRow w.heap.size 43 2 v (without (L.take k) f).length (wCells (without (L.take k) f)) ∧ Below w.heap.size w wr) (fun _ i _ => L.length - (intOf i).toNat)
  case atStart => exact ⟨0, by omega, rfl, by simpa [wCells, without] using World.ownsRow_nil _ _ _ _, Below.refl _ _⟩
  case round =>
    obtain ⟨k, hk, rfl, hown, hb⟩ := hrel
    have HO := Lib.hid hown
    have hzs := hb.size
    have hwl := without_le L f k
    clear hown
    by_cases hlt : k < L.length
    · obtain ⟨x, hx⟩ : ∃ x, L[k]? = some x := ⟨_, List.getElem?_eq_getElem hlt⟩
      obtain ⟨b, o, rfl, hbl, c0, c1⟩ := wish_cell (H.out.below (hb.mono hBd)) rfl hx
      have HS := Lib.hid (without_snoc L f k x hx)
      clear hx
      cases he : x.f.toList == f.toList
      · go_wp2_with (at_builtin; with_reducible refine wpList_app _ rfl (.tmp 21) (.tmp 26) _ rfl w.heap.size 43 wZ 2 24 Tryd.underlying36 inf_w rfl (by omega) _ (without (L.take k) f).length (wCells (without (L.take k) f)) rfl (HO.out.alloc _) _ _ 1 (wC x) rfl (one_newW _ _) (wC_one x) ?_ ?_ ?_ ?_)
        · unfold maxLen; omega
        · omega
        · simp; omega
        intro v1 w1 hown1 hg1 _
        have hb1 := (hb.alloc hzs _).grown hg1 (by simp; omega) (fun g hg => (HO.out.lt g hg).1)
        have e1 : without (L.take (k + 1)) f = without (L.take k) f ++ [x] := by rw [HS.out, he]; rfl
        have e2 : wCells (without (L.take (k + 1)) f) = wCells (without (L.take k) f) ++ wC x := by rw [e1, wCells_snoc]
        have e3 : (without (L.take (k + 1)) f).length = (without (L.take k) f).length + 1 := by rw [e1, List.length_append]; rfl
        rw [← e2, ← e3] at hown1
        have HO1 := Lib.hid hown1
        clear hown1 hg1 e1 e2 e3
        go_wp2
        go_roundw
        case rel => exact ⟨k + 1, by omega, by go_num, HO1.out, hb1⟩
        case measure => simp [intOf]; omega
      · have e1 : without (L.take (k + 1)) f = without (L.take k) f := by rw [HS.out, he]; simp
        have HE := Lib.hid e1
        clear e1
        go_wp2
        go_roundw
        case rel => exact ⟨k + 1, by omega, by go_num, by rw [HE.out]; exact HO.out, hb⟩
        case measure => simp [intOf]; omega
    · have : k = L.length := by omega
      subst this
      rw [List.take_length] at HO
      obtain ⟨ao2, cap2, rfl, _, _⟩ := (Rd.of_own HO.out).form
      go_wp2
      go_ret2
      exact ⟨_, by simp, HO.out, hb⟩

set_option maxHeartbeats 1000000 in
theorem Spoil_any (w : World) (B : Nat) (v : Value) (n : Nat) (xs : List Value) (h : w.ownsRow B 43 2 v n xs) (hB : B ≤ w.heap.size) (hn : n ≤ 1000000000) :
    Calls Tryd.prog 48 #[v] w fun e w' => e = .returned (.tuple #[]) ∧ Below B w w' := by
  have hf : ∃ ao cap, v = .slice ao n cap ∧ cap ≤ 9223372036854775807 := by
    obtain ⟨ao, cap, h1, _, h2⟩ := (Rd.of_own h).form
    exact ⟨ao, cap, h1, by unfold maxLen at h2; omega⟩
  obtain ⟨ao, cap, rfl, hcap⟩ := hf
  have H := Lib.hid h
  clear h
  go_enter Tryd.func48, Tryd.ntmps48
  go_wp2
  go_loopw [2] (fun i wr => ∃ k : Nat, k ≤ n ∧ i = .int .i64 k ∧ Below B w wr ∧ Hid (∃ ys, wr.ownsRow B 43 2 (.slice ao n cap) n ys)) (fun i _ => n - (intOf i).toNat)
  case atStart => exact ⟨0, by omega, rfl, Below.refl _ _, Lib.hid ⟨xs, H.out⟩⟩
  case round =>
    obtain ⟨k, hk, rfl, hb, HX⟩ := hrel
    obtain ⟨ys, ho⟩ := HX.out
    clear HX
    by_cases hlt : k < n
    · obtain ⟨g, cap', e, hBg, hgl, hnc, hcm⟩ := own_form ho (by omega)
      injection e with e1 e2 e3
      subst e1 e3
      obtain ⟨u0, g0⟩ : ∃ u0, wr.cell? ⟨g, k * 2, none⟩ = some u0 := ⟨_, (ho.cellAt _ (by omega)).trans (List.getElem?_eq_getElem (by rw [ho.1]; omega))⟩
      obtain ⟨u1, g1⟩ : ∃ u1, wr.cell? ⟨g, k * 2 + 1, none⟩ = some u1 := ⟨_, (ho.cellAt _ (by omega)).trans (List.getElem?_eq_getElem (by rw [ho.1]; omega))⟩
      have z0 : wr.frozen? ⟨g, k * 2, none⟩ = false := ho.frozenAt _
      have z1 : wr.frozen? ⟨g, k * 2 + 1, none⟩ = false := ho.frozenAt _
      obtain ⟨o5, g5⟩ := own_setCells [.string ⟨#[63]⟩, .int .i64 0] (k * 2) ys wr ho
      have hb5 : Below B w (wr.setCells g (k * 2) [.string ⟨#[63]⟩, .int .i64 0]) := hb.grown g5 (Nat.le_trans hB hb.size) (fun k hk => by injection hk with hk; omega)
      have HO5 : Hid (∃ ys, (wr.setCells g (k * 2) [.string ⟨#[63]⟩, .int .i64 0]).ownsRow B 43 2 (.slice (some ⟨g, 0, none⟩) n cap) n ys) := Lib.hid ⟨_, o5⟩
      have HB5 := Lib.hid hb5
      clear o5 g5 hb5 ho
      go_wp2
      go_roundw
      case rel => exact ⟨k + 1, by omega, by go_num, HB5.out, HO5⟩
      case measure => simp [intOf]; omega
    · have : k = n := by omega
      subst this
      have HO := Lib.hid ho
      have hzs := hb.size
      clear ho
      go_wp2_with (at_builtin; refine wpList_app _ rfl (.tmp 13) (.tmp 15) _ rfl B 43 wZ 2 24 Tryd.underlying36 inf_w rfl (by omega) _ k ys rfl (HO.out.alloc _) _ _ 1 (wC ⟨⟨#[]⟩, 0⟩) rfl (one_newW wr ⟨⟨#[]⟩, 0⟩) (wC_one ⟨⟨#[]⟩, 0⟩) ?_ ?_ ?_ ?_)
      · unfold maxLen; omega
      · omega
      · simp; omega
      intro v1 w1 hown1 hg1 _
      have hb1 := (hb.alloc (by omega) (.cells #[.string ⟨#[]⟩, .int .i64 0] 43)).grown hg1 (by simp; omega) (fun g hg => (HO.out.lt g hg).1)
      clear hown1 hg1
      go_wp2
      go_end0
      exact ⟨rfl, hb1⟩
end Go.Proofs.YtimjbojoeacaeaaDoor
