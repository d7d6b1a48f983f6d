/- The log: generation. -/


import Derived.Test.YtcgdlmlolmfinaaLgPart
import Derived.Test.YtcgdlmlolmfinaaLgL
import Derived.Test.YtcgdlmlolmfinaaBytes
namespace Go.Proofs.Ytcgdlmlolmfinaa
open Go.RowKit
theorem ofInt_wrap (y : Int) : BitVec.ofInt 64 (IntKind.i64.wrap y) = BitVec.ofInt 64 (IntKind.u64.wrap y) := by
  apply BitVec.eq_of_toNat_eq
  rw [BitVec.toNat_ofInt, BitVec.toNat_ofInt]
  congr 1
  show IntKind.i64.wrap y % _ = IntKind.u64.wrap y % _
  unfold IntKind.wrap
  simp [IntKind.bits, IntKind.signed]
  omega
theorem or_i64 (n : Nat) (x : UInt8) (k : Nat) (hk : k < 8) (hn : n < 256 ^ k) :
    bits .or .i64 (n : Int) (IntKind.i64.wrap ((x.toNat : Int) * 2 ^ (8 * k))) = IntKind.i64.wrap ((n + 256 ^ k * x.toNat : Nat) : Int) := by
  have h := or_step n x k hk hn
  have hx := x.toNat_lt
  have e1 : IntKind.u64.wrap (x.toNat : Int) = x.toNat := by rw [IntKind.wrap_u64]; omega
  rw [e1] at h
  unfold bits at h ⊢
  simp only at h ⊢
  rw [show BitVec.ofInt IntKind.i64.bits (IntKind.i64.wrap ((x.toNat : Int) * 2 ^ (8 * k))) = BitVec.ofInt IntKind.u64.bits (IntKind.u64.wrap ((x.toNat : Int) * 2 ^ (8 * k))) from ofInt_wrap _]
  obtain ⟨Y, hY⟩ : ∃ Y : BitVec 64, (BitVec.ofInt IntKind.u64.bits (n : Int) ||| BitVec.ofInt IntKind.u64.bits (IntKind.u64.wrap ((x.toNat : Int) * 2 ^ (8 * k)))) = Y := ⟨_, rfl⟩
  have hlt := Y.isLt
  have h' : IntKind.u64.wrap (Y.toNat : Int) = ((n + 256 ^ k * x.toNat : Nat) : Int) := by rw [← hY]; exact h
  rw [IntKind.wrap_u64] at h'
  have h2 : (Y.toNat : Int) = ((n + 256 ^ k * x.toNat : Nat) : Int) := by
    rw [← h']
    omega
  rw [← h2, ← hY]
  rfl
theorem leV_take {b : List UInt8} {k : Nat} {x : UInt8} (hx : b[k]? = some x) : leV (b.take (k + 1)) = leV (b.take k) + 256 ^ k * x.toNat := by
  induction k generalizing b with
  | zero =>
    cases b with
    | nil => simp at hx
    | cons y r => simp at hx; subst hx; simp [leV]
  | succ k ih =>
    cases b with
    | nil => simp at hx
    | cons y r =>
      have := ih (b := r) (by simpa using hx)
      simp only [List.take_succ_cons, leV, this, Nat.pow_succ]
      rw [Nat.mul_add, ← Nat.mul_assoc, Nat.mul_comm 256 (256 ^ k)]
      omega
theorem leV_take_lt (b : List UInt8) (k : Nat) : leV (b.take k) < 256 ^ k := by
  induction k generalizing b with
  | zero => simp [leV]
  | succ k ih =>
    cases b with
    | nil => simp [leV]; exact Nat.pos_of_ne_zero (by simp)
    | cons y r =>
      have := ih r
      have hy := y.toNat_lt
      simp only [List.take_succ_cons, leV, Nat.pow_succ]
      omega
section
variable {w w' w1 : World} {base R RD : Nat} {F F1 : List Nat} {s s1 s' : DS}
set_option maxRecDepth 20000 in
set_option maxHeartbeats 4000000 in
theorem lgen (h0 : w.cell? ⟨R, 0, none⟩ = some (.pointer (some ⟨RD, 0, none⟩))) (hd : DkG w base RD F s) (hRF : R ∉ F) (hz : base ≤ w.heap.size) (hon : On s) (r : Nat) (hr : r ≤ 1) (hlast : 0 ≤ s.last ∧ s.last ≤ 900000000) :
    Calls Try.prog 35 #[.pointer (some ⟨R, 0, none⟩), .int .i64 r] w fun e w' => e = .returned (.tuple #[.int .i64 (genS s r).1, .int .i64 (genS s r).2.1]) ∧ DkP w base RD F (genS s r).2.2 w' := by
  have HRD := Lib.hid (lread h0 hd hRF hz (r * 2048) (by omega))
  have e0 : (((r * 2048 : Nat) : Nat) : Int) = (r : Int) * 2048 := by omega
  rw [e0] at HRD
  have HG : Hid (genS s r = if (rdS s (r * 2048)).2.1 ≠ 0 ∨ (rdS s (r * 2048)).1[63]? ≠ some 1 then (0, (rdS s (r * 2048)).2.1, (rdS s (r * 2048)).2.2) else (genV (rdS s (r * 2048)).1, 0, (rdS s (r * 2048)).2.2)) := Lib.hid rfl
  have hro := rd_out hon (n := r * 2048) (by omega)
  have hlen := secE_len hon (m := r * 2048) (by omega)
  clear h0 hd hRF hz hon hlast e0
  rcases hro with ⟨t, e, _⟩ | ⟨t, e, _⟩
  · rw [e] at HRD HG
    obtain ⟨b, hb⟩ : ∃ b, secE s (r * 2048) = b := ⟨_, rfl⟩
    rw [hb] at HRD HG hlen
    clear e hb
    go_enter Try.func35, Try.ntmps35
    go_wp2_with fail
    refine HRD.out.mono ?_
    rintro e w1 ⟨v, rfl, hv, hP⟩
    have hP' : DkP w base RD F t w1 := by
      obtain ⟨F', p1, p2, p3, _⟩ := hP
      exact ⟨F', p1, p2, p3⟩
    have HP := Lib.hid hP'
    obtain ⟨g, cap, rfl, hg1, hg2, hc1, hc2⟩ := own_form hv (by omega)
    have hc3 : cap ≤ 9223372036854775807 := by unfold maxLen at hc2; omega
    have hat : ∀ j x, b[j]? = some x → w1.cell? ⟨g, j, none⟩ = some (.int .u8 (x.toNat : Int)) := by
      intro j x hx
      have hj := (List.getElem?_eq_some_iff.1 hx).1
      obtain ⟨b2, o, u, e, _, hu, hcs⟩ := (Rd.of_own hv).at_ (k := j) (by omega)
      injection e with e; injection e with e1 e2
      subst e1 e2
      rw [u8s, List.getElem?_map, hx] at hu
      injection hu with hu; subst hu
      rw [Nat.zero_add] at hcs
      exact hcs
    obtain ⟨y, hy⟩ : ∃ y, b[63]? = some y := ⟨_, List.getElem?_eq_getElem (by omega)⟩
    have c63 := hat 63 y hy
    have HAT := Lib.hid hat
    have HY := Lib.hid hy
    have e2 : ((y.toNat : Int) != 1) = !(y == 1) := by
      rw [Bool.eq_iff_iff]
      simp only [bne_iff_ne, ne_eq, Bool.not_eq_true', beq_eq_false_iff_ne]
      exact ⟨fun h h' => h (by rw [h']; rfl), fun h h' => h (UInt8.toNat_inj.1 (by have : (1 : UInt8).toNat = 1 := rfl; omega))⟩
    rw [hlen] at hc1 hv ⊢
    have HLEN := Lib.hid hlen
    have hcI : (64 : Int) ≤ (cap : Int) := by omega
    clear hv hP hP' hat hy hlen
    cases h1 : (y == 1)
    · rw [h1, Bool.not_false] at e2
      have HG2 : Hid (genS s r = (0, 0, t)) := Lib.hid (by
        rw [HG.out, HY.out, if_pos (Or.inr (fun e => by injection e with e; rw [e] at h1; cases h1))])
      go_wp2
      go_ret2
      rw [HG2.out]
      exact ⟨rfl, HP.out⟩
    · rw [h1, Bool.not_true] at e2
      have HG2 : Hid (genS s r = (IntKind.i64.wrap (leV (b.take 8) : Nat), 0, t)) := Lib.hid (by
        rw [HG.out, HY.out, beq_iff_eq.1 h1, if_neg (by simp)]
        unfold genV genV.IntKind64
        rw [HY.out, beq_iff_eq.1 h1, if_pos rfl]
        have := leV_take_lt b 8
        congr 1
        split <;> rw [IntKind.wrap_i64] <;> omega)
      go_wp2
      go_loopw [24, 4] (fun i a wr => ∃ (k : Nat) (A : Int), i = .int .i64 k ∧ a = .int .i64 A ∧ k ≤ 8 ∧ w1 = wr ∧ Hid (A = IntKind.i64.wrap (leV (b.take k) : Nat))) (fun i _ _ => 8 - (intOf i).toNat)
      case atStart => exact ⟨0, 0, rfl, rfl, by omega, rfl, Lib.hid (by rw [List.take_zero]; rfl)⟩
      case round =>
        obtain ⟨k, A, rfl, rfl, hk, rfl, HA⟩ := hrel
        by_cases hlt : k < 8
        · have hlt' : (k : Int) < 8 := by omega
          obtain ⟨x, hx⟩ : ∃ x, b[k]? = some x := ⟨_, List.getElem?_eq_getElem (by have := HLEN.out; omega)⟩
          have ck := HAT.out k x hx
          have HX := Lib.hid hx
          clear hx
          have HA2 : Hid (bits BinOp.or IntKind.i64 A (wrap64 (wrap64 (x.toNat : Int) * 2 ^ (8 * k))) = IntKind.i64.wrap ((leV (b.take (k + 1)) : Nat) : Int)) := Lib.hid (by
            have hn := leV_take_lt b k
            have hp : 256 ^ k ≤ 256 ^ 7 := Nat.pow_le_pow_right (by omega) (by omega)
            have h7 : (256 : Nat) ^ 7 = 72057594037927936 := by decide
            have hA : A = ((leV (b.take k) : Nat) : Int) := by rw [HA.out]; exact IntWalk.i64_in _ ⟨by omega, by omega⟩
            have hx := x.toNat_lt
            have h1 : wrap64 (x.toNat : Int) = (x.toNat : Int) := IntWalk.wrap64_in _ ⟨by omega, by omega⟩
            rw [h1, hA, leV_take HX.out, ← IntWalk.i64_left]
            exact or_i64 _ x k hlt hn)
          go_wp2
          exact ⟨⟨k + 1, _, by go_num, rfl, by omega, trivial, HA2⟩, by simp [intOf]; omega⟩
        · have hk8 : k = 8 := by omega
          subst hk8
          have HG3 : Hid (genS s r = (A, 0, t)) := Lib.hid (by rw [HG2.out, HA.out])
          go_wp2
          go_ret2
          rw [HG3.out]
          exact ⟨rfl, HP.out⟩
  · rw [e] at HRD HG
    have HG2 : Hid (genS s r = (0, 10, t)) := Lib.hid (by rw [HG.out]; simp)
    clear e hlen
    go_enter Try.func35, Try.ntmps35
    go_wp2_with fail
    refine HRD.out.mono ?_
    rintro e w1 ⟨v, rfl, hv, hP⟩
    have hP' : DkP w base RD F t w1 := by
      obtain ⟨F', p1, p2, p3, _⟩ := hP
      exact ⟨F', p1, p2, p3⟩
    have HP := Lib.hid hP'
    obtain ⟨vo, vc, rfl, _, _⟩ := (Rd.of_own hv).form
    clear hv hP hP'
    go_wp2
    go_ret2
    rw [HG2.out]
    exact ⟨rfl, HP.out⟩
end
end Go.Proofs.Ytcgdlmlolmfinaa
