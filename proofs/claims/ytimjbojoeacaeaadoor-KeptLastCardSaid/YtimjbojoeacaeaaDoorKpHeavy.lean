/- heavy, of the scripts of layer 22: what is not too heavy is short. -/

import Derived.Test.YtimjbojoeacaeaaDoorKpArg
import Derived.BigRegion
import Derived.IntWalk
import Derived.Deep.DeepCutAuto
namespace Go.Proofs.YtimjbojoeacaeaaDoor
open Go.RowKit Go.Shelf Go.Proofs

/-- Not too heavy. -/
def LightS (L : List Msg1) (A : List SAct) : Prop :=
  L.length ≤ 20000 ∧ (∀ (i : Nat) (x : Msg1), L[i]? = some x → x.f.size ≤ 20000 ∧ x.p.size ≤ 20000) ∧ A.length ≤ 200 ∧ ∀ (i : Nat) (a : SAct), A[i]? = some a → a.m.f.size ≤ 20000 ∧ a.m.p.size ≤ 20000 ∧ a.t.size ≤ 20000
def HeavyPost (w : World) (L : List Msg1) (A : List SAct) (e : Ending) (w' : World) : Prop := ∃ b, e = .returned (.bool b) ∧ (b = false → LightS L A) ∧ Below w.heap.size w w'

/-- What was counted so far. -/
def cntW (L : List Msg1) (n : Int) (k : Nat) : Prop := (L.length : Int) ≤ n ∧ ∀ (i : Nat) (x : Msg1), i < k → L[i]? = some x → (x.f.size : Int) ≤ n ∧ (x.p.size : Int) ≤ n
def cntA (A : List SAct) (n : Int) (k : Nat) : Prop := ∀ (i : Nat) (a : SAct), i < k → A[i]? = some a → (a.m.f.size : Int) ≤ n ∧ (a.m.p.size : Int) ≤ n ∧ (a.t.size : Int) ≤ n
theorem cntW_step {L : List Msg1} {n : Int} {k : Nat} {x : Msg1} (h : cntW L n k) (hx : L[k]? = some x) (hn : 0 ≤ n) : cntW L (n + x.f.size + x.p.size) (k + 1) := by
  refine ⟨by have := h.1; omega, fun i y hi hy => ?_⟩
  by_cases e : i = k
  · subst e; rw [hx] at hy; injection hy with hy; subst hy; constructor <;> omega
  · have := h.2 i y (by omega) hy; constructor <;> omega
theorem cntA_step {A : List SAct} {n : Int} {k : Nat} {a : SAct} (h : cntA A n k) (ha : A[k]? = some a) (hn : 0 ≤ n) : cntA A (n + a.m.f.size + a.m.p.size + a.t.size) (k + 1) := by
  intro i y hi hy
  by_cases e : i = k
  · subst e; rw [ha] at hy; injection hy with hy; subst hy; refine ⟨?_, ?_, ?_⟩ <;> omega
  · have := h i y (by omega) hy; refine ⟨?_, ?_, ?_⟩ <;> omega
theorem cntW_more {L : List Msg1} {n m : Int} {k : Nat} (h : cntW L n k) (hm : n ≤ m) : cntW L m k := ⟨by have := h.1; omega, fun i x hi hx => by have := h.2 i x hi hx; omega⟩

set_option maxHeartbeats 4000000 in
theorem heavy_any (w : World) (sv lv : Value) (L : List Msg1) (A : List SAct) (hL : Rd w w.heap.size 4 sv L.length (wCells L)) (hR : ReachW L) (hA : ActsAt w w.heap.size lv A) (hl : L.length * 48 ≤ reachBytes) :
    Calls Tryd.prog 26 #[.agg #[sv, lv]] w (HeavyPost w L A) := by
  obtain ⟨ao, cap, rfl, hc1, hc2⟩ := hL.form
  have hc3 : cap ≤ 9223372036854775807 := by unfold maxLen at hc2; omega
  obtain ⟨bo, cap2, rfl, hd1, hd2, hacts⟩ := hA
  have HL := Lib.hid hL
  have HA := Lib.hid hacts
  have HR := Lib.hid hR
  have hl2 : L.length ≤ 140737488355328 := by unfold reachBytes at hl; omega
  clear hL hacts hR hl hc2
  have hb0 := (Below.refl w.heap.size w).alloc (Nat.le_refl _) (.cells #[.slice ao L.length cap, .slice bo A.length cap2] 52)
  go_enter Tryd.func26, Tryd.ntmps26
  go_upto_block 0 with fail
  go_cut [3, 4] (fun n i wx => ∃ z : Int, n = .int .i64 z ∧ 0 ≤ z ∧ z ≤ 562949953421312 ∧ Hid (z ≤ 20000 → cntW L z L.length) ∧ ∃ nd, wx = (w.alloc (.cells #[.slice ao L.length cap, .slice bo A.length cap2] 52)).drewN nd)
  case first =>
    go_wp2
    go_loopw [3, 4] (fun n i wr => ∃ (k : Nat) (z : Int), k ≤ L.length ∧ i = .int .i64 k ∧ n = .int .i64 z ∧ 0 ≤ z ∧ z ≤ 562949953421312 ∧ Hid (cntW L z k) ∧ ∃ nd, wr = (w.alloc (.cells #[.slice ao L.length cap, .slice bo A.length cap2] 52)).drewN nd) (fun _ i _ => L.length - (intOf i).toNat)
    case atStart => exact ⟨0, L.length, by omega, rfl, rfl, by omega, by omega, Lib.hid ⟨by omega, fun i x hi => by omega⟩, 0, rfl⟩
    case round =>
      obtain ⟨k, z, hk, rfl, rfl, hz1, hz2, HC, nd, rfl⟩ := hrel
      by_cases hlt : k < L.length ∧ z < 1048576
      · obtain ⟨hlt1, hlt2⟩ := hlt
        obtain ⟨x, hx⟩ : ∃ x, L[k]? = some x := ⟨_, List.getElem?_eq_getElem hlt1⟩
        obtain ⟨b, o, rfl, hbl, c0, c1, c2, c3⟩ := wish_cell (HL.out.below hb0) rfl hx
        have hrx := (HR.out k x hx).1
        have hrx2 := (HR.out k x hx).2.1
        unfold reachBytes at hrx hrx2
        have HN := Lib.hid (cntW_step HC.out hx hz1)
        have s1 : IntKind.i64.wrap (z + (x.f.size : Int)) = z + x.f.size := IntWalk.i64_in _ ⟨by omega, by omega⟩
        have s2 : IntKind.i64.wrap (z + (x.f.size : Int) + (x.p.size : Int)) = z + x.f.size + x.p.size := IntWalk.i64_in _ ⟨by omega, by omega⟩
        have hzz1 : 0 ≤ z + (x.f.size : Int) + x.p.size := by omega
        have hzz2 : z + (x.f.size : Int) + x.p.size ≤ 562949953421312 := by omega
        have hk0 : (0 : Int) ≤ (k : Int) := by omega
        have hkl : (k : Int) < (L.length : Int) := by omega
        clear hx hrx hrx2
        go_wp2
        go_quiet (fail)
        clear s1 s2
        go_wp2
        go_roundw
        case rel => exact ⟨k + 1, z + x.f.size + x.p.size, by omega, by go_num, rfl, hzz1, hzz2, HN, _, rfl⟩
        case measure => simp [intOf]; omega
      · have hbig : Hid (z ≤ 20000 → cntW L z L.length) := Lib.hid (fun h => by
          have e : k = L.length := by omega
          rw [← e]; exact HC.out)
        by_cases hk1 : k < L.length
        · have hz3 : ¬ z < 1048576 := by omega
          clear hlt
          go_wp2
          go_meet
          exact ⟨z, rfl, hz1, hz2, hbig, _, rfl⟩
        · clear hlt
          go_wp2
          go_meet
          exact ⟨z, rfl, hz1, hz2, hbig, _, rfl⟩
  case rest =>
    obtain ⟨z0, rfl, hz01, hz02, HB0, nd0, hcw⟩ := hcut
    subst hcw
    go_upto_block 2 with fail
    go_cut [3, 5] (fun n i wx => ∃ z : Int, n = .int .i64 z ∧ Hid (z ≤ 20000 → cntW L z L.length ∧ cntA A z A.length) ∧ ∃ nd, wx = (w.alloc (.cells #[.slice ao L.length cap, .slice bo A.length cap2] 52)).drewN nd)
    case first =>
      go_wp2
      go_loopw [3, 5] (fun n i wr => ∃ (k : Nat) (z : Int), k ≤ A.length ∧ i = .int .i64 k ∧ n = .int .i64 z ∧ 0 ≤ z ∧ z ≤ 845000000000000 ∧ Hid (z ≤ 20000 → cntW L z L.length) ∧ Hid (cntA A z k) ∧ ∃ nd, wr = (w.alloc (.cells #[.slice ao L.length cap, .slice bo A.length cap2] 52)).drewN nd) (fun _ i _ => A.length - (intOf i).toNat)
      case atStart => exact ⟨0, z0, by omega, rfl, rfl, by omega, by omega, HB0, Lib.hid (fun i a hi => by omega), nd0, rfl⟩
      case round =>
        obtain ⟨k, z, hk, rfl, rfl, hz1, hz2, HW, HC, nd, rfl⟩ := hrel
        by_cases hlt : k < A.length ∧ z < 1048576
        · obtain ⟨hlt1, hlt2⟩ := hlt
          obtain ⟨a, ha⟩ : ∃ a, A[k]? = some a := ⟨_, List.getElem?_eq_getElem hlt1⟩
          obtain ⟨b, o, rfl, hbl, ⟨c0, c1, c2, c3, c4, c5⟩, hf, hp, ht, _, _⟩ := HA.out k a ha
          have d1 := (hb0.cell (p := ⟨b, o + k * 6 + 1, none⟩) hbl).trans c1
          have d2 := (hb0.cell (p := ⟨b, o + k * 6 + 2, none⟩) hbl).trans c2
          have d5 := (hb0.cell (p := ⟨b, o + k * 6 + 5, none⟩) hbl).trans c5
          unfold reachBytes at hf hp ht
          have HN := Lib.hid (cntA_step HC.out ha hz1)
          have HW2 : Hid (z + a.m.f.size + a.m.p.size + a.t.size ≤ 20000 → cntW L (z + a.m.f.size + a.m.p.size + a.t.size) L.length) := Lib.hid (fun h => cntW_more (HW.out (by omega)) (by omega))
          have s1 : IntKind.i64.wrap (z + (a.m.f.size : Int)) = z + a.m.f.size := IntWalk.i64_in _ ⟨by omega, by omega⟩
          have s2 : IntKind.i64.wrap (z + (a.m.f.size : Int) + (a.m.p.size : Int)) = z + a.m.f.size + a.m.p.size := IntWalk.i64_in _ ⟨by omega, by omega⟩
          have s3 : IntKind.i64.wrap (z + (a.m.f.size : Int) + (a.m.p.size : Int) + (a.t.size : Int)) = z + a.m.f.size + a.m.p.size + a.t.size := IntWalk.i64_in _ ⟨by omega, by omega⟩
          have hzz1 : 0 ≤ z + (a.m.f.size : Int) + a.m.p.size + a.t.size := by omega
          have hzz2 : z + (a.m.f.size : Int) + a.m.p.size + a.t.size ≤ 845000000000000 := by omega
          have hk0 : (0 : Int) ≤ (k : Int) := by omega
          have hkl : (k : Int) < (A.length : Int) := by omega
          clear ha c0 c1 c2 c3 c4 c5 hf hp ht
          go_wp2
          go_quiet (fail)
          clear s1 s2 s3
          go_wp2
          go_roundw
          case rel => exact ⟨k + 1, z + a.m.f.size + a.m.p.size + a.t.size, by omega, by go_num, rfl, hzz1, hzz2, HW2, HN, _, rfl⟩
          case measure => simp [intOf]; omega
        · have hbig : Hid (z ≤ 20000 → cntW L z L.length ∧ cntA A z A.length) := Lib.hid (fun h => by
            have e : k = A.length := by omega
            exact ⟨HW.out h, by rw [← e]; exact HC.out⟩)
          by_cases hk1 : k < A.length
          · have hz3 : ¬ z < 1048576 := by omega
            clear hlt
            go_wp2
            go_meet
            exact ⟨z, rfl, hbig, _, rfl⟩
          · clear hlt
            go_wp2
            go_meet
            exact ⟨z, rfl, hbig, _, rfl⟩
    case rest =>
      obtain ⟨z1, rfl, HB1, nd1, hcw⟩ := hcut
      subst hcw
      by_cases hz : 20000 < z1
      · go_wp2
        go_ret
        exact ⟨true, rfl, (fun h => by cases h), below_drewN hb0 _⟩
      · go_wp2
        go_ret
        refine ⟨decide ((200 : Int) < (A.length : Int)), rfl, (fun h => ?_), below_drewN hb0 _⟩
        have hal := of_decide_eq_false h
        obtain ⟨h1, h2⟩ := HB1.out (by omega)
        refine ⟨by have := h1.1; omega, fun i x hx => ?_, by omega, fun i a ha => ?_⟩
        · have := h1.2 i x (List.getElem?_eq_some_iff.1 hx).1 hx; omega
        · have := h2 i a (List.getElem?_eq_some_iff.1 ha).1 ha; omega
end Go.Proofs.YtimjbojoeacaeaaDoor
