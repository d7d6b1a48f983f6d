/- The scripts of layer 2, opened with what the reach says of their parts; heavy. -/

import Derived.Test.YtfffehbipcikoaaRgArg
import Derived.Test.YtfffehbipcikoaaReach
namespace Go.Proofs.Ytfffehbipcikoaa
open Go.ChangeShapes Go.WideShapes Go.Deep Go.RowKit

theorem cellsI2 : Try.prog.cellsOf 3 = 1 := by kernel_rfl
theorem cellsU2 : Try.prog.cellsOf 38 = 1 := by kernel_rfl
theorem cellsBs2 : Try.prog.cellsOf 75 = 1 := by kernel_rfl
section
variable {H : Type} {enc : TypeId × Value → H} {w : World} {spare : Nat → Bool} {held : Bool}
set_option maxRecDepth 100000 in
theorem open_bufs_sized {fuel : Nat} {v : Value} {x : DataW H × List MemPlace}
    (h : DataW.trod enc Try.prog w 0 spare held fuel 75 [v] = some x) (hr : Rch Try.prog 75 x.1) : ∃ L : List Buf, Rd w w.heap.size 3 v L.length (bufCells L) ∧ L.length * 24 ≤ reachBytes := by
  obtain ⟨L, hL⟩ := open_bufs h
  refine ⟨L, hL, ?_⟩
  obtain ⟨ao, cap, hv, _, _⟩ := hL.form
  rcases open_elems Try.underlying75 (by rw [cellsBuf]; omega) h hr with h | ⟨a, len, cap', hcs, hl, hm, hle, _⟩
  · injection h with h
    rw [hv] at h
    injection h with _ h _
    rw [h]
    omega
  · injection hcs with hcs
    rw [hv] at hcs
    injection hcs with _ hcs _
    have hby : Try.prog.bytesOf 89 = 24 := by kernel_rfl
    rw [hby] at hle
    rw [hcs]
    exact hle
set_option maxRecDepth 100000 in
theorem parse_act2 {fuel : Nat} {cs : List Value} {x : DataW H × List MemPlace} (h : DataW.trod enc Try.prog w 0 spare held fuel 77 cs = some x) (hr : Rch Try.prog 77 x.1) :
    ∃ (d n a : Int) (lv : Value) (v : Nat) (L : List Buf), cs = [.int .i64 d, .int .i64 n, .int .i64 a, lv, .int .u64 v] ∧ Rd w w.heap.size 3 lv L.length (bufCells L) ∧ L.length * 24 ≤ reachBytes ∧ v < 18446744073709551616 := by
  obtain ⟨hl, hf⟩ := open_field Try.underlying77 h hr
  rw [cellsAct2] at hl
  obtain ⟨a, b, c, d, e, rfl⟩ : ∃ a b c d e, cs = [a, b, c, d, e] := by
    match cs, hl with
    | [a, b, c, d, e], _ => exact ⟨a, b, c, d, e, rfl⟩
  obtain ⟨n0, y0, h0, r0⟩ := hf 0 _ rfl
  obtain ⟨n1, y1, h1, r1⟩ := hf 1 _ rfl
  obtain ⟨n2, y2, h2, r2⟩ := hf 2 _ rfl
  obtain ⟨n3, y3, h3, r3⟩ := hf 3 _ rfl
  obtain ⟨n4, y4, h4, r4⟩ := hf 4 _ rfl
  have h0 : DataW.trod enc Try.prog w 0 spare held n0 3 (([a, b, c, d, e].drop 0).take (Try.prog.cellsOf 3)) = some y0 := h0
  have h1 : DataW.trod enc Try.prog w 0 spare held n1 3 (([a, b, c, d, e].drop 1).take (Try.prog.cellsOf 3)) = some y1 := h1
  have h2 : DataW.trod enc Try.prog w 0 spare held n2 3 (([a, b, c, d, e].drop 2).take (Try.prog.cellsOf 3)) = some y2 := h2
  have h3 : DataW.trod enc Try.prog w 0 spare held n3 75 (([a, b, c, d, e].drop 3).take (Try.prog.cellsOf 75)) = some y3 := h3
  have h4 : DataW.trod enc Try.prog w 0 spare held n4 38 (([a, b, c, d, e].drop 4).take (Try.prog.cellsOf 38)) = some y4 := h4
  rw [cellsI2] at h0 h1 h2
  rw [cellsBs2] at h3
  rw [cellsU2] at h4
  obtain ⟨z0, e0, _, w0⟩ := DataW.trod_int Try.underlying3 h0
  obtain ⟨z1, e1, _, w1⟩ := DataW.trod_int Try.underlying3 h1
  obtain ⟨z2, e2, _, w2⟩ := DataW.trod_int Try.underlying3 h2
  obtain ⟨L, hL, hLs⟩ := open_bufs_sized (v := d) h3 r3
  obtain ⟨z4, e4, _, w4⟩ := DataW.trod_int Try.underlying38 h4
  simp at e0 e1 e2 e4
  subst e0 e1 e2 e4
  obtain ⟨k4, rfl, hk4⟩ := nat_u64 w4
  exact ⟨z0, z1, z2, d, k4, L, rfl, hL, hLs, hk4⟩
end

set_option maxRecDepth 100000 in
/-- An argument of type Script, opened. -/
theorem open_script2s {H : Type} {enc : TypeId × Value → H} {W : World} {base : Nat} {v : Value} {d : DataW H} {p : List MemPlace} (hv : Value.okWide Try.prog W .any base 66 v)
    (h0 : DataW.Trod enc Try.prog W 0 (fun _ => true) true 66 v d p) (hr : Rch Try.prog 66 d) :
    ∃ (M N : Int) (lv : Value) (acts : List Act2), v = .agg #[.int .i64 M, .int .i64 N, lv] ∧ N ≤ 9223372036854775807 ∧ ActsAt2 W W.heap.size lv acts ∧ ∀ (i : Nat) (a : Act2), acts[i]? = some a → a.L.length * 24 ≤ reachBytes := by
  obtain ⟨v0, v1, v2, y0, y1, y2, n, rfl, rfl, _, t0, t1, t2⟩ := Joins.open_agg3 Try.underlying66 (by kernel_rfl) (by kernel_rfl) hv h0
  have r2 := rch_field (j := 2) Try.underlying66 hr rfl rfl
  obtain ⟨M, e0, _, w0⟩ := DataW.trod_int Try.underlying3 t0
  obtain ⟨N, e1, _, w1⟩ := DataW.trod_int Try.underlying3 t1
  injection e0 with e0
  injection e1 with e1
  subst e0 e1
  rcases open_elems Try.underlying64 (by rw [cellsAct2]; omega) t2 r2 with h | ⟨a, len, cap, hcs, hl, hm, hle, hrow⟩
  · injection h with h
    subst h
    exact ⟨M, N, _, [], rfl, range_i64 w1, ⟨none, 0, rfl, by simp, by omega, fun i a ha => by simp at ha⟩, fun i a ha => by simp at ha⟩
  · injection hcs with hcs
    subst hcs
    rw [cellsAct2] at hrow
    have hex : ∀ i, i < len → ∃ act : Act2, a.spot = none ∧ ActAt2 W W.heap.size a.block (a.off + i * 5) act ∧ act.L.length * 24 ≤ reachBytes := by
      intro i hi
      obtain ⟨hs, vs, m, y, hvl, hcell, htr, hry⟩ := hrow i hi
      obtain ⟨z0, z1, z2, lv, k, L, rfl, hL, hLs, hk⟩ := parse_act2 htr hry
      have c0 := hcell 0 (by omega)
      have c1 := hcell 1 (by omega)
      have c2 := hcell 2 (by omega)
      have c3 := hcell 3 (by omega)
      have c4 := hcell 4 (by omega)
      have hlt := World.block_lt_of_cell? W _ c0
      exact ⟨⟨z0, z1, z2, L, k⟩, hs, ⟨c0, c1, c2, lv, c3, c4, hL, hlt, Lib.hid hk⟩, hLs⟩
    obtain ⟨acts, hal, hact⟩ := list_of_all len hex
    refine ⟨M, N, _, acts, rfl, range_i64 w1, ⟨some a, cap, by rw [hal], by omega, by unfold maxLen at hm; omega, fun i act ha => ?_⟩, fun i act ha => (hact i act ha).2.2⟩
    obtain ⟨hs, hA, _⟩ := hact i act ha
    obtain ⟨b, o, s⟩ := a
    simp only at hs
    subst hs
    exact ⟨b, o, rfl, hA⟩

/-- All in all so many pieces. -/
def piecesN (acts : List Act2) : Nat := acts.foldr (fun a n => a.L.length + n) 0
theorem piecesN_take {acts : List Act2} {k : Nat} {a : Act2} (h : acts[k]? = some a) : piecesN (acts.take (k + 1)) = piecesN (acts.take k) + a.L.length := by
  induction acts generalizing k with
  | nil => simp at h
  | cons b r ih =>
    cases k with
    | zero => simp at h; subst h; simp [piecesN]
    | succ k =>
      have := ih (k := k) (by simpa using h)
      simp [piecesN] at this ⊢
      omega
theorem piecesN_le {acts : List Act2} {k : Nat} {a : Act2} (h : acts[k]? = some a) : a.L.length ≤ piecesN acts := by
  induction acts generalizing k with
  | nil => simp at h
  | cons b r ih =>
    cases k with
    | zero => simp at h; subst h; simp [piecesN]
    | succ k =>
      have := ih (k := k) (by simpa using h)
      simp [piecesN] at this ⊢
      omega
/-- No act is too heavy. -/
def Light2 (acts : List Act2) : Prop := acts.length ≤ 3000 ∧ ∀ (i : Nat) (a : Act2), acts[i]? = some a → a.L.length ≤ 3000
def HeavyPost2 (w : World) (acts : List Act2) (e : Ending) (w' : World) : Prop := ∃ b, e = .returned (.bool b) ∧ (b = false → Light2 acts) ∧ Below w.heap.size w w'

set_option maxRecDepth 20000 in
set_option maxHeartbeats 1000000 in
theorem heavy2_any (w : World) (M N : Int) (lv : Value) (acts : List Act2) (h : ActsAt2 w w.heap.size lv acts) (hs : ∀ (i : Nat) (a : Act2), acts[i]? = some a → a.L.length * 24 ≤ reachBytes) :
    Calls Try.prog 36 #[.agg #[.int .i64 M, .int .i64 N, lv]] w (HeavyPost2 w acts) := by
  obtain ⟨ao, cap, rfl, hc1, hc2, hacts⟩ := h
  have HA := Lib.hid hacts
  have HS := Lib.hid hs
  clear hacts hs
  go_enter Try.func36, Try.ntmps36
  go_wp2
  go_loopw [3, 4] (fun n i wr => ∃ (k : Nat) (z : Int), k ≤ acts.length ∧ i = .int .i64 k ∧ n = .int .i64 z ∧ 0 ≤ z ∧ Hid (z = ((acts.length + piecesN (acts.take k) : Nat) : Int)) ∧ wr = w.alloc (.cells #[.int .i64 M, .int .i64 N, .slice ao acts.length cap] 66)) (fun _ i _ => acts.length - (intOf i).toNat)
  case atStart => exact ⟨0, acts.length, by omega, rfl, rfl, by omega, Lib.hid rfl, rfl⟩
  case round =>
    obtain ⟨k, z, hk, rfl, rfl, hz0, hm, rfl⟩ := hrel
    have hb0 := (Below.refl w.heap.size w).alloc (Nat.le_refl _) (.cells #[.int .i64 M, .int .i64 N, .slice ao acts.length cap] 66)
    by_cases hm1 : z < 1048576
    · by_cases hlt : k < acts.length
      · obtain ⟨a, ha⟩ : ∃ a, acts[k]? = some a := ⟨_, List.getElem?_eq_getElem hlt⟩
        obtain ⟨b, o, rfl, hA⟩ := HA.out k a ha
        obtain ⟨c0, c1, c2, lv, c3, c4, hr, hbl, _⟩ := hA.below hb0
        obtain ⟨bo, bc, rfl, hbc1, hbc2⟩ := hr.form
        have hbc3 : bc ≤ 9223372036854775807 := by unfold maxLen at hbc2; omega
        have hsz := HS.out k a ha
        have hsz2 : a.L.length ≤ 5864062014805 := by unfold reachBytes at hsz; omega
        have HN : Hid (z + a.L.length = ((acts.length + piecesN (acts.take (k + 1)) : Nat) : Int)) := Lib.hid (by have := piecesN_take ha; have := hm.out; omega)
        have hw1 : IntKind.i64.wrap (z + (a.L.length : Int)) = z + (a.L.length : Int) := IntWalk.i64_in _ ⟨by omega, by omega⟩
        clear ha hr hA hbc2 c0 c1 c2 c4 hsz
        go_wp2
        go_roundw
        case rel => exact ⟨k + 1, z + a.L.length, by omega, by go_num, rfl, by omega, HN, trivial⟩
        case measure => simp [intOf]; omega
      · have hk' : k = acts.length := by omega
        subst hk'
        rw [List.take_length] at hm
        go_wp2
        go_ret
        refine ⟨_, rfl, fun hf => ?_, hb0⟩
        have h1 : z ≤ 3000 := by simpa using hf
        have h2 := hm.out
        refine ⟨by omega, fun i a ha => ?_⟩
        have := piecesN_le ha
        omega
    · have hm3 : ¬ z < 1048576 := by omega
      by_cases hlt : k < acts.length
      · go_wp2
        go_ret
        exact ⟨true, by simp; omega, (fun h => by cases h), hb0⟩
      · go_wp2
        go_ret
        exact ⟨true, by simp; omega, (fun h => by cases h), hb0⟩
end Go.Proofs.Ytfffehbipcikoaa
