/- Reading a state's bytes, whatever they are: messages. -/


import Derived.Test.YtlehkaibbkblkaaGreatDoorRcRd
import Derived.Test.YtlehkaibbkblkaaGreatDoorGb
namespace Go.Proofs.YtlehkaibbkblkaaGreatDoor
open Go.RowKit
theorem enc_new {α : Type} (E : Enc α) (w : World) (t : TypeId) (x : α) : Rd (w.alloc (.cells (E.c x).toArray t)) (w.heap.size + 1) E.sz (.slice (some ⟨w.heap.size, 0, none⟩) 1 1) 1 (E.c x) := by
  refine ⟨by rw [E.len]; omega, _, _, rfl, by omega, by unfold maxLen; omega, (fun e => by cases e), fun _ => ⟨w.heap.size, 0, rfl, by omega, fun j u hu => ?_⟩⟩
  rw [Nat.zero_add, (Whole.new w t (E.c x)).cell]
  exact hu
/-- Rows of messages of one's own. -/
def OwnM (w : World) (B : Nat) (v : Value) (Q : List Msg) : Prop := w.ownsRow B 64 4 v Q.length (eM.cells Q)
theorem OwnM.to {w : World} {B n : Nat} {v : Value} {Q : List Msg} {m : Msg} (h : w.ownsRow B 64 4 v n (eM.cells Q ++ eM.c m)) (hn : n = Q.length + 1) : OwnM w B v (Q ++ [m]) := by
  subst hn
  unfold OwnM
  rw [eM.cells_app, eM.cells_one, List.length_append]
  exact h
theorem RdAt.below {w w' : World} {Bd RB N : Nat} (h : RdAt w Bd RB N) (hb : Below w.heap.size w w') : RdAt w' Bd RB N := by
  obtain ⟨bv, y, bad, h1, h2, h3, h4⟩ := h
  have := h1.lt
  exact ⟨bv, y, bad, h1.belowH hb, h2.below (hb.mono (by omega)), h3, h4⟩
theorem RdAt.grown {w w' : World} {Bd RB N B n size : Nat} {e : TypeId} {v : Value} {us : List Value} (h : RdAt w Bd RB N) (ho : w.ownsRow B e size v n us) (hB : RB < B) (hg : w.grownBy w' v.ownBlock) : RdAt w' Bd RB N := by
  obtain ⟨bv, y, bad, h1, h2, h3, h4⟩ := h
  have hl := left_of_grown hg
  have hb : Below (RB + 1) w w' := hl.belowB (by have := h1.lt; omega) (fun k hk => by have := (ho.lt k (mem_ownL.1 hk)).1; omega)
  exact ⟨bv, y, bad, h1.below hb (by omega), h2.below (hb.mono (by omega)), h3, h4⟩
set_option maxRecDepth 20000 in
set_option maxHeartbeats 1000000 in
theorem messages_r (w : World) (Bd RB N : Nat) (h : RdAt w Bd RB N) (hN : N ≤ 1000000000) :
    Calls Tryz.prog 14 #[.pointer (some ⟨RB, 0, none⟩)] w fun e w' => ∃ v' Q, e = .returned v' ∧ OwnM w' w.heap.size v' Q ∧ Q.length ≤ N ∧ (∀ m ∈ Q, MN N m) ∧ RdAt w' Bd RB N ∧ Left [RB] w w' := by
  obtain ⟨B, hBe⟩ : ∃ B, B = w.heap.size := ⟨_, rfl⟩
  rw [← hBe]
  have hRB : RB < B := by obtain ⟨_, _, _, hW, _⟩ := h; rw [hBe]; exact hW.lt
  have HC := Lib.hid (count_r w Bd RB N h hN)
  have HNN := Lib.hid hN
  have HBE := Lib.hid hBe
  clear h hBe
  go_enter Tryz.func14, Tryz.ntmps14
  go_wp2_with fail
  refine HC.out.mono ?_
  rintro e w1 ⟨n, rfl, hr1, hl1⟩
  have hnN : n ≤ N := by obtain ⟨_, y, _, _, _, h1, _, h2⟩ := hr1; omega
  have hra := hr1.at_
  clear hr1
  go_wp2
  go_loopw [2, 3] (fun v i wr => ∃ (k : Nat) (Q : List Msg), i = .int .i64 k ∧ Hid (OwnM wr B v Q) ∧ Q.length + k ≤ N ∧ Hid (∀ m ∈ Q, MN N m) ∧ RdAt wr Bd RB N ∧ Left [RB] w wr) (fun _ i _ => (intOf i).toNat)
  case atStart => exact ⟨n, [], rfl, Lib.hid (World.ownsRow_nil _ _ _ _), by simpa using hnN, Lib.hid (by simp), hra, hl1⟩
  case round =>
    clear hra hl1
    obtain ⟨k, Q, rfl, HO, hkn, HM, hr, hl⟩ := hrel
    obtain ⟨bv, y, bad, hW, hR, hy, hB⟩ := hr
    have c1 := hW.cell 1
    simp only [List.getElem?_cons_zero, List.getElem?_cons_succ] at c1
    have hra : RdAt _ Bd RB N := ⟨bv, y, bad, hW, hR, hy, hB⟩
    clear hW hR
    have HEND : Hid (OwnM _ B _ Q ∧ Q.length ≤ N ∧ (∀ m ∈ Q, MN N m) ∧ RdAt _ Bd RB N ∧ Left [RB] w _) := Lib.hid ⟨HO.out, by omega, HM.out, hra, hl⟩
    by_cases hk : k = 0
    · subst hk
      go_wp2
      go_ret
      exact ⟨_, Q, rfl, HEND.out⟩
    · have hk0 : (0 : Int) < (k : Int) := by omega
      have hk0' : 0 < k := by omega
      cases bad
      · have HMR := Lib.hid (message_r _ Bd RB N hra HNN.out)
        have hNN := HNN.out
        clear hra HEND
        go_upto_region 4 with fail
        clear c1
        have HRB := Lib.hid hRB
        go_wp2_with first
          | (go_at_call 26; refine HMR.out.mono ?_; rintro e wq ⟨m, rfl, hm, hrq, hlq⟩; have HM2 : Hid (∀ m' ∈ Q ++ [m], MN N m') := Lib.hid (fun m' hm' => by rcases List.mem_append.1 hm' with h | h; exact HM.out m' h; (rw [List.mem_singleton.1 h]; exact hm)); have hLL := hl.trans hlq (fun k hk => .inl hk); have HOq : OwnM wq B _ Q := own_left HO.out hlq (by simp; exact HRB.out); clear hm hlq; unfold msgV)
          | (at_builtin; refine wpList_app _ rfl (.tmp 17) (.tmp 20) 27 rfl B 64 (.agg #[.string ⟨#[]⟩, .string ⟨#[]⟩, .int .i64 0, .bool false]) 4 48 Tryz.underlying27 inf_M rfl (by omega) _ Q.length (eM.cells Q) rfl (own_below HOq ((Below.refl _ _).alloc (Nat.le_refl _) _)) _ _ 1 (eM.c m) rfl (enc_new eM _ 64 m) (eM.one m) ?_ ?_ ?_ ?_; (unfold maxLen; omega); omega; (have h1 := hLL.size; have h2 := HBE.out; simp; omega))
        intro v2 w2 ho2 hg2 _
        have hoa : World.ownsRow (wq.alloc (.cells #[.string m.t, .string m.p, .int .i64 m.q, .bool m.r] 64)) B 64 4 _ Q.length (eM.cells Q) := own_below HOq ((Below.refl _ _).alloc (Nat.le_refl _) _)
        have hr2 := (hrq.below ((Below.refl _ _).alloc (Nat.le_refl _) (.cells #[.string m.t, .string m.p, .int .i64 m.q, .bool m.r] 64))).grown hoa HRB.out hg2
        have hl2 := left_grown (hLL.alloc _) hg2 (fun k hk => .inr (by have h1 := (hoa.lt k hk).1; have h2 := HBE.out; omega))
        have HO2 : Hid (OwnM w2 B v2 (Q ++ [m])) := Lib.hid (OwnM.to ho2 rfl)
        clear ho2 hg2 hoa hrq hLL HOq
        go_wp2
        go_roundw
        case rel => exact ⟨k - 1, Q ++ [m], by go_num, HO2, by simp; omega, HM2, hr2, hl2⟩
        case measure => simp [intOf]; omega
      · go_wp2
        go_ret
        exact ⟨_, Q, rfl, HEND.out⟩
end Go.Proofs.YtlehkaibbkblkaaGreatDoor
