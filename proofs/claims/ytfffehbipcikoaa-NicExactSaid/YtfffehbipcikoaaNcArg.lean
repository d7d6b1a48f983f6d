/- The argument of layer 3's law: a slice of acts. The law's spoiling of bytes, by the block. -/

import Derived.Test.YtfffehbipcikoaaNcPage2
import Derived.Test.YtfffehbipcikoaaMemAct
namespace Go.Proofs.Ytfffehbipcikoaa
open Go.ChangeShapes Go.WideShapes Go.Deep Go.RowKit Go.MapKept

structure Act3 where
  dk : Int
  b : List UInt8
def ActAt3 (w : World) (Bd b o : Nat) (a : Act3) : Prop :=
  w.cell? ⟨b, o, none⟩ = some (.int .i64 a.dk) ∧ ∃ bv, w.cell? ⟨b, o + 1, none⟩ = some bv ∧ Rd w Bd 1 bv a.b.length (u8s a.b) ∧ b < Bd
def ActsAt3 (w : World) (Bd : Nat) (lv : Value) (acts : List Act3) : Prop :=
  ∃ ao cap, lv = .slice ao acts.length cap ∧ acts.length ≤ cap ∧ cap ≤ 9223372036854775807 ∧
    ∀ (i : Nat) (a : Act3), acts[i]? = some a → ∃ b o, ao = some ⟨b, o, none⟩ ∧ ActAt3 w Bd b (o + i * 2) a
theorem ActAt3.below {w w' : World} {Bd b o : Nat} {a : Act3} (h : ActAt3 w Bd b o a) (hb : Below Bd w w') : ActAt3 w' Bd b o a := by
  obtain ⟨h0, bv, h1, hr, hlt⟩ := h
  exact ⟨(hb.cell (p := ⟨b, _, none⟩) hlt).trans h0, bv, (hb.cell (p := ⟨b, _, none⟩) hlt).trans h1, hr.below hb, hlt⟩
theorem act3_get {w : World} {Bd : Nat} {ao : Option Addr} {n cap : Nat} {acts : List Act3} (h : ActsAt3 w Bd (.slice ao n cap) acts) {i : Nat} {a : Act3} (ha : acts[i]? = some a) : ∃ b o, ao = some ⟨b, o, none⟩ ∧ ActAt3 w Bd b (o + i * 2) a := by
  obtain ⟨ao', cap', e, _, _, h4⟩ := h
  injection e with e1 _ _
  subst e1
  exact h4 i a ha
theorem cellsAct3 : Try.prog.cellsOf 102 = 2 := by kernel_rfl
set_option maxRecDepth 100000 in
theorem open_acts3 {H : Type} {enc : TypeId × Value → H} {W : World} {base : Nat} {v : Value} {d : DataW H} {p : List MemPlace} (hv : Value.okWide Try.prog W .any base 94 v)
    (h0 : DataW.Trod enc Try.prog W 0 (fun _ => true) true 94 v d p) : ∃ A : List Act3, ActsAt3 W W.heap.size v A := by
  obtain ⟨a0, len, cap, rfl⟩ := okWide_slice Try.underlying94 hv
  obtain ⟨fuel, hf⟩ := h0
  rcases open_rows Try.underlying94 Try.underlying102 (by kernel_rfl) cellsAct3 (by decide) hf with h | ⟨a, len', cap', hcs, hl, hm, hrow⟩
  · have hcs' : a0 = none ∧ len = 0 ∧ cap = 0 := by simpa [Value.cells] using h
    obtain ⟨rfl, rfl, rfl⟩ := hcs'
    exact ⟨[], none, 0, rfl, by simp, by omega, fun i a ha => by simp at ha⟩
  · simp only [Value.cells, List.cons.injEq, Value.slice.injEq, and_true] at hcs
    obtain ⟨rfl, rfl, rfl⟩ := hcs
    have hex : ∀ i, i < len → ∃ act : Act3, a.spot = none ∧ ActAt3 W W.heap.size a.block (a.off + i * 2) act := by
      intro i hi
      obtain ⟨hs, vs, m, hvl, hcell, hf⟩ := hrow i hi
      obtain ⟨x0, z0, g0, r0⟩ := hf 0 _ rfl
      obtain ⟨x1, z1, g1, r1⟩ := hf 1 _ rfl
      obtain ⟨q0, e0, _, w0⟩ := DataW.trod_int Try.underlying3 r0
      obtain ⟨L, hL⟩ := open_bytes Try.underlying39 Try.underlying5 cellsU8 r1
      injection e0 with e0
      subst e0
      have c0 := (hcell 0 (by decide)).trans g0
      have c1 := (hcell 1 (by decide)).trans g1
      have hlt := World.block_lt_of_cell? W _ c0
      exact ⟨⟨q0, L⟩, hs, c0, x1, c1, hL, hlt⟩
    obtain ⟨acts, hal, hact⟩ := list_of_all len hex
    refine ⟨acts, some a, cap, by rw [hal], by omega, by unfold maxLen at hm; omega, fun i act ha => ?_⟩
    obtain ⟨hs, hA⟩ := hact i act ha
    obtain ⟨b, o, s⟩ := a
    simp only at hs
    subst hs
    exact ⟨b, o, rfl, hA⟩

theorem ownsRow_stored_left {w : World} {B : Nat} {ao : Option Addr} {n cap k : Nat} {M : List Value} (h : w.ownsRow B 5 1 (.slice ao n cap) n M) {g : Nat} (hg : ao = some ⟨g, 0, none⟩) (u : Value) : Left (Value.ownL (.slice ao n cap)) w (w.setCell ⟨g, k, none⟩ u) :=
  (Left.refl _ _).setCell (Or.inl (by subst hg; simp [Value.ownL, Value.ownBlock])) _
set_option maxHeartbeats 1000000 in
/-- Bytes writes over the call's own bytes alone. -/
theorem Bytes_left (w : World) (B : Nat) (v : Value) (L : List UInt8) (h : w.ownsRow B 5 1 v L.length (u8s L)) (hB : B ≤ w.heap.size) (hn : L.length ≤ 1048576) :
    Calls Try.prog 30 #[v] w fun e w' => e = .returned (.tuple #[]) ∧ Left (Value.ownL v) w w' := by
  obtain ⟨ao, cap, rfl, hc, hm⟩ := (Rd.of_own h).form
  have H := Lib.hid h
  clear h hm
  go_enter Try.func30, Try.ntmps30
  go_wp2
  go_loopw [2] (fun i wr => ∃ k : Nat, k ≤ L.length ∧ i = .int .i64 k ∧ (∃ M : List UInt8, M.length = L.length ∧ wr.ownsRow B 5 1 (.slice ao L.length cap) L.length (u8s M)) ∧ Left (Value.ownL (.slice ao L.length cap)) w wr) (fun i _ => L.length - (intOf i).toNat)
  case atStart => exact ⟨0, by omega, rfl, ⟨L, rfl, H.out⟩, Left.refl _ _⟩
  case round =>
    obtain ⟨k, hk, rfl, ⟨M, hM, hown⟩, hb⟩ := hrel
    by_cases hlt : k < L.length
    · obtain ⟨b, o, u, rfl, hbb, hu, hcell⟩ := (Rd.of_own hown).at_ (k := k) (by omega)
      obtain ⟨g, hg, hBg⟩ : ∃ g, (⟨b, o, none⟩ : Addr) = ⟨g, 0, none⟩ ∧ B ≤ g := by
        rcases hown.2 with ⟨h', _⟩ | ⟨g, cap', cur, hv, hBg, _⟩
        · cases h'
        · injection hv with hv
          injection hv with hv
          exact ⟨g, hv, hBg⟩
      injection hg with hg1 hg2
      subst hg1 hg2
      rw [u8s_at M k (by omega)] at hu
      injection hu with hu
      subst hu
      rw [Nat.zero_add] at hcell
      have hfr := hown.frozenAt k
      obtain ⟨z, hz⟩ : ∃ z, z = M[k] := ⟨_, rfl⟩
      rw [← hz] at hcell
      have HO := Lib.hid hown
      clear hown hz
      go_wp2
      go_roundw
      case rel => exact ⟨k + 1, by omega, by go_num, ⟨M.set k (z ^^^ 85), by simp [hM], by rw [xor_u8, ← u8s_set]; exact (HO.out.stored k _).1⟩, hb.trans (ownsRow_stored_left HO.out rfl _) (fun x hx => .inl hx)⟩
      case measure => simp [intOf]; omega
    · have hke : k = L.length := by omega
      subst hke
      have HO := Lib.hid hown
      have hzs := hb.size
      clear hown
      go_wp2_with (at_builtin; with_reducible refine wpList_app _ rfl (.tmp 17) (.tmp 18) _ rfl B 5 (.int .u8 0) 1 1 Try.underlying39 inf_u8 rfl (by omega) _ L.length (u8s M) rfl (HO.out.alloc _) _ _ 1 [.int .u8 5] rfl (one_new _ _ _) (by simp [Value.oneCell']) ?_ ?_ ?_ ?_)
      · unfold maxLen; omega
      · omega
      · simp; omega
      intro v1 w1 hown1 hg1 _
      have hb1 := (hb.alloc (.cells #[.int .u8 5] 5)).trans (left_of_grown hg1) (fun x hx => .inl hx)
      clear hown1 hg1
      go_wp2
      go_end0
      exact ⟨rfl, hb1⟩
end Go.Proofs.Ytfffehbipcikoaa
