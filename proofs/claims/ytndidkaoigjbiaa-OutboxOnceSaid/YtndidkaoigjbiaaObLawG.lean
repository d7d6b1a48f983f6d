/- OutboxOnce: what lies where behind an act. -/


import Derived.Test.YtndidkaoigjbiaaObLawF
import Derived.IntWalk
namespace Go.Proofs.Ytndidkaoigjbiaa
open Go.RowKit
def within (i n : Int) : Int := i % 18446744073709551616 % n
theorem within_nn (i n : Int) (h : 1 ≤ n) : 0 ≤ within i n := Int.emod_nonneg _ (by omega)
theorem within_lt (i n : Int) (h : 1 ≤ n) : within i n < n := Int.emod_lt_of_pos _ (by omega)
theorem within_eq (i n : Int) (h : 1 ≤ n) (h2 : n ≤ 65536) : wrap64 ((IntKind.u64.wrap i).tmod n) = within i n := by
  have h0 : 0 ≤ IntKind.u64.wrap i := by rw [IntKind.wrap_u64]; omega
  rw [Int.tmod_eq_emod_of_nonneg h0, IntKind.wrap_u64]
  have a := within_nn i n h
  have b := within_lt i n h
  unfold within at a b ⊢
  exact IntWalk.wrap64_in _ ⟨by omega, by omega⟩
set_option maxHeartbeats 400000 in
theorem Within_any (w : World) (i n : Int) (h : 1 ≤ n) (h2 : n ≤ 65536) :
    Calls Try.prog 5 #[.int .i64 i, .int .i64 n] w fun e w' => e = .returned (.int .i64 (within i n)) ∧ w = w' := by
  go_enter Try.func5, Try.ntmps5
  go_wp2
  rw [within_eq i n h h2]
  go_ret
  exact ⟨rfl, rfl⟩
/-- The law's outbox as it was, another one in the block X, and what it sends. -/
structure EX (w : World) (O X : Nat) (sv : List Value) (o o' : OB) (wait : List Pk) (wv lv fx qx : Value) (l : List Pk) (seen : List Int) (recd : List Bool) (wx : World) : Prop where
  lf : LF w O sv wx o wait wv
  la : LA O wx seen recd
  xb : Whole wx X 25 [.int .i64 o'.last, fx, qx]
  xf : wx.ownsRow w.heap.size 61 6 fx o'.F.length (eF.cells o'.F)
  xq : wx.ownsRow w.heap.size 34 4 qx o'.Q.length (eM.cells o'.Q)
  lr : wx.ownsRow w.heap.size 50 24 lv l.length (eP.cells l)
  ne : ∀ k, lv.ownBlock = some k → wv.ownBlock ≠ some k
  hX : w.heap.size ≤ X ∧ X ≠ O
theorem EX.of {w w5 : World} {O X Bc : Nat} {sv : List Value} {o o' : OB} {wait l : List Pk} {wv lv fx qx z0 z1 z2 : Value} {seen : List Int} {recd : List Bool} (h : LF w O sv w5 o wait wv) (ha : LA O w5 seen recd) (hx : Whole w5 X 25 [z0, z1, z2]) (hX : w.heap.size ≤ X ∧ X ≠ O)
    (hO : OO w5 Bc (.agg #[.int .i64 o'.last, fx, qx]) o') (hl : w5.ownsRow Bc 50 24 lv l.length (eP.cells l)) (hB : w.heap.size ≤ Bc) (hw : ∀ k, wv.ownBlock = some k → k < Bc) :
    EX w O X sv o o' wait wv lv fx qx l seen recd (((w5.setCell ⟨X, 0, none⟩ (.int .i64 o'.last)).setCell ⟨X, 1, none⟩ fx).setCell ⟨X, 2, none⟩ qx) := by
  obtain ⟨fv, qv, e, h2, h3⟩ := hO
  injection e with e
  simp only [Array.mk.injEq, List.cons.injEq, true_and, and_true] at e
  obtain ⟨rfl, rfl⟩ := e
  have hl7 : Left [X] w5 (((w5.setCell ⟨X, 0, none⟩ (.int .i64 o'.last)).setCell ⟨X, 1, none⟩ fx).setCell ⟨X, 2, none⟩ qx) := (((Left.refl _ w5).setCell (Or.inl (by simp)) _).setCell (Or.inl (by simp)) _).setCell (Or.inl (by simp)) _
  have hput : Whole (((w5.setCell ⟨X, 0, none⟩ (.int .i64 o'.last)).setCell ⟨X, 1, none⟩ fx).setCell ⟨X, 2, none⟩ qx) X 25 [.int .i64 o'.last, fx, qx] := ((hx.put 0 (.int .i64 o'.last)).put 1 fx).put 2 qx
  refine ⟨h.xbox hx hX.2 hX.1 hl7, ha.xbox hx hl7, hput, own_base (own_leftB h2 hl7 (fun k hk e => ?_)) hB, own_base (own_leftB h3 hl7 (fun k hk e => ?_)) hB, own_base (own_leftB hl hl7 (fun k hk e => ?_)) hB, fun k hk e => ?_, hX⟩
  · simp only [List.mem_singleton] at hk; subst hk
    exact (own_ty h2 e).ne hx.ty (by decide) rfl
  · simp only [List.mem_singleton] at hk; subst hk
    exact (own_ty h3 e).ne hx.ty (by decide) rfl
  · simp only [List.mem_singleton] at hk; subst hk
    exact (own_ty hl e).ne hx.ty (by decide) rfl
  · have := (hl.lt k hk).1
    have := hw k e
    omega
/-- Where the ways through the acts meet. -/
def Meet (w : World) (O X : Nat) (sv : List Value) (o : OB) (came : Nat) (seen : List Int) (n : Nat) (tk u wv lv e : Value) (wx : World) : Prop :=
  ∃ (o' : OB) (taken : Nat) (up : Bool) (recd : List Bool) (wait l : List Pk) (fx qx : Value), tk = .int .i64 taken ∧ u = .bool up ∧ e = .int .i64 0 ∧ taken ≤ n + 1 ∧ Hid (EX w O X sv o o' wait wv lv fx qx l seen recd wx) ∧ Hid (After o' l taken came seen recd up wait)
/-- What a round begins with. -/
def Turn (w : World) (O : Nat) (sv : List Value) (N g : Nat) (tk cm u wv i : Value) (wr : World) : Prop :=
  ∃ (o : OB) (taken came : Nat) (up : Bool) (seen : List Int) (recd : List Bool) (wait : List Pk) (n : Nat), tk = .int .i64 taken ∧ cm = .int .i64 came ∧ u = .bool up ∧ i = .int .i64 n ∧ n + g = N ∧ n ≤ 60 ∧ taken ≤ n ∧ Hid (LF w O sv wr o wait wv ∧ LA O wr seen recd) ∧ Hid (Inv o taken came seen recd up wait)
end Go.Proofs.Ytndidkaoigjbiaa
