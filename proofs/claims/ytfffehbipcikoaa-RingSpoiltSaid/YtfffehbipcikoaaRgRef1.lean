/- The page's ring (kioskref1.Ring): how it lies, get, Free, out. -/

import Derived.Test.YtfffehbipcikoaaRgRig
import Derived.Test.YtfffehbipcikoaaRow
namespace Go.Proofs.Ytfffehbipcikoaa
open Go.RowKit

theorem OwnI.left2 {w w' : World} {v : Value} {own : List Nat} {S : List Nat} (h : OwnI w v own) (hl : Left S w w') (hS : ∀ k, v.ownBlock = some k → k ∉ S) : OwnI w' v own := by
  refine ⟨h.1, ?_⟩
  rcases h.2 with hn | ⟨g, cap, cur, rfl, hb, hgg, rest⟩
  · exact .inl hn
  · exact .inr ⟨g, cap, cur, rfl, hb, (hl.block g (h.lt g rfl).2 (hS g rfl)).trans hgg, rest⟩
def RowsI (w : World) (F : List Nat) : List Value → List (List Nat) → Prop
  | [], [] => True
  | v :: C, l :: ch => (OwnI w v l ∧ ∀ k, v.ownBlock = some k → k ∈ F) ∧ RowsI w F C ch
  | _, _ => False
theorem RowsI.at2 {w : World} {F : List Nat} : ∀ {C : List Value} {ch : List (List Nat)}, RowsI w F C ch → ∀ (j : Nat) (l : List Nat), ch[j]? = some l → ∃ v, C[j]? = some v ∧ OwnI w v l ∧ ∀ k, v.ownBlock = some k → k ∈ F
  | [], [], _, j, l, h => by simp at h
  | v :: C, l' :: ch, ⟨h1, h2⟩, j, l, h => by
    cases j with
    | zero => simp at h; subst h; exact ⟨v, rfl, h1⟩
    | succ j => exact RowsI.at2 h2 j l (by simpa using h)
theorem RowsI.at_ {w : World} {F : List Nat} {C : List Value} {ch : List (List Nat)} (h : RowsI w F C ch) (j : Nat) (l : List Nat) (hl : ch[j]? = some l) : ∃ v, C[j]? = some v ∧ OwnI w v l := by
  obtain ⟨v, h1, h2, _⟩ := h.at2 j l hl
  exact ⟨v, h1, h2⟩
theorem RowsI.left {w w' : World} {F S : List Nat} (hl : Left S w w') (hS : ∀ k ∈ S, k ∉ F) : ∀ {C : List Value} {ch : List (List Nat)}, RowsI w F C ch → RowsI w' F C ch
  | [], [], _ => trivial
  | _ :: _, _ :: _, ⟨⟨h1, h3⟩, h2⟩ => ⟨⟨h1.left2 hl (fun k hk hm => hS k hm (h3 k hk)), h3⟩, RowsI.left hl hS h2⟩
theorem RowsI.more {w : World} {F F' : List Nat} (hS : ∀ k ∈ F, k ∈ F') : ∀ {C : List Value} {ch : List (List Nat)}, RowsI w F C ch → RowsI w F' C ch
  | [], [], _ => trivial
  | _ :: _, _ :: _, ⟨⟨h1, h3⟩, h2⟩ => ⟨⟨h1, fun k hk => hS k (h3 k hk)⟩, RowsI.more hS h2⟩
theorem RowsI.set_ {w : World} {F : List Nat} : ∀ {C : List Value} {ch : List (List Nat)}, RowsI w F C ch → ∀ (j : Nat) (v : Value) (l : List Nat), OwnI w v l → (∀ k, v.ownBlock = some k → k ∈ F) → RowsI w F (C.set j v) (ch.set j l)
  | [], [], _, j, v, l, _, _ => trivial
  | v' :: C, l' :: ch, ⟨h1, h2⟩, j, v, l, a, b => by
    cases j with
    | zero => exact ⟨⟨a, b⟩, h2⟩
    | succ j => exact ⟨h1, RowsI.set_ h2 j v l a b⟩
theorem RowsI.length {w : World} {F : List Nat} : ∀ {C : List Value} {ch : List (List Nat)}, RowsI w F C ch → C.length = ch.length
  | [], [], _ => rfl
  | _ :: _, _ :: _, ⟨_, h⟩ => by simp [RowsI.length h]
def refCells (m q bt bc bw : Nat) (br : Bool) (added last : Nat) : List Value :=
  [.pointer (some ⟨m, 0, none⟩), .int .i64 q, .int .i64 (16 * (q : Int)), .int .i64 (usedAt q), .int .i64 added, .int .i64 last, .slice (some ⟨bt, 0, none⟩) q q, .slice (some ⟨bc, 0, none⟩) q q, .slice (some ⟨bw, 0, none⟩) q q, .bool br]
/-- The page's ring lies at block R. -/
structure RefAt (w : World) (R bt bc bw m q : Nat) (br : Bool) (added last : Nat) (tk : List Bool) (ch : List (List Nat)) (wr : List Int) (F : List Nat) : Prop where
  head : Whole w R 160 (refCells m q bt bc bw br added last)
  taken : Whole w bt 4 (tk.map (.bool ·))
  chain : ∃ C, Whole w bc 22 C ∧ RowsI w F C ch
  writes : Whole w bw 3 (wr.map (.int .i64 ·))
  len : tk.length = q ∧ ch.length = q ∧ wr.length = q
  apart : ∀ k ∈ F, k ≠ R ∧ k ≠ bt ∧ k ≠ bc ∧ k ≠ bw
theorem RefAt.left {w w' : World} {R bt bc bw m q : Nat} {br : Bool} {added last : Nat} {tk : List Bool} {ch : List (List Nat)} {wr : List Int} {F S : List Nat} (h : RefAt w R bt bc bw m q br added last tk ch wr F) (hl : Left S w w') (h1 : R ∉ S) (h2 : bt ∉ S) (h3 : bc ∉ S) (h4 : bw ∉ S) (hF : ∀ k ∈ S, k ∉ F) : RefAt w' R bt bc bw m q br added last tk ch wr F := by
  obtain ⟨C, hC, hR⟩ := h.chain
  exact ⟨h.head.left hl h1, h.taken.left hl h2, ⟨C, hC.left hl h3, hR.left hl hF⟩, h.writes.left hl h4, h.len, h.apart⟩
theorem RefAt.left0 {w w' : World} {R bt bc bw m q : Nat} {br : Bool} {added last : Nat} {tk : List Bool} {ch : List (List Nat)} {wr : List Int} {F : List Nat} (h : RefAt w R bt bc bw m q br added last tk ch wr F) (hl : Left [] w w') : RefAt w' R bt bc bw m q br added last tk ch wr F :=
  h.left hl (by simp) (by simp) (by simp) (by simp) (by simp)
theorem RefAt.drewN {w : World} {R bt bc bw m q : Nat} {br : Bool} {added last : Nat} {tk : List Bool} {ch : List (List Nat)} {wr : List Int} {F : List Nat} (h : RefAt w R bt bc bw m q br added last tk ch wr F) (n : Nat) : RefAt (w.drewN n) R bt bc bw m q br added last tk ch wr F :=
  h.left0 ((Left.refl _ _).drewN n)
theorem RefAt.nes {w : World} {R bt bc bw m q : Nat} {br : Bool} {added last : Nat} {tk : List Bool} {ch : List (List Nat)} {wr : List Int} {F : List Nat} (h : RefAt w R bt bc bw m q br added last tk ch wr F) : R ≠ bt ∧ R ≠ bc ∧ R ≠ bw ∧ bt ≠ bc ∧ bt ≠ bw ∧ bc ≠ bw := by
  obtain ⟨C, hC, _⟩ := h.chain
  exact ⟨h.head.ne h.taken (by decide), h.head.ne hC (by decide), h.head.ne h.writes (by decide), h.taken.ne hC (by decide), h.taken.ne h.writes (by decide), hC.ne h.writes (by decide)⟩
/-- Only the head was written. -/
theorem RefAt.head_ {w w' : World} {R bt bc bw m q : Nat} {br br' : Bool} {added last added' last' : Nat} {tk : List Bool} {ch : List (List Nat)} {wr : List Int} {F : List Nat} (h : RefAt w R bt bc bw m q br added last tk ch wr F) (hl : Left [R] w w') (hW : Whole w' R 160 (refCells m q bt bc bw br' added' last')) : RefAt w' R bt bc bw m q br' added' last' tk ch wr F := by
  obtain ⟨C, hC, hR⟩ := h.chain
  obtain ⟨n1, n2, n3, _⟩ := h.nes
  exact ⟨hW, h.taken.left hl (by simp [n1.symm]), ⟨C, hC.left hl (by simp [n2.symm]), hR.left hl (by simp; exact fun hm => (h.apart R hm).1 rfl)⟩, h.writes.left hl (by simp [n3.symm]), h.len, h.apart⟩

set_option maxHeartbeats 1000000 in
theorem rFree_any (w : World) (R bt bc bw m q : Nat) (br : Bool) (added last : Nat) (tk : List Bool) (ch : List (List Nat)) (wr : List Int) (F : List Nat) (h : RefAt w R bt bc bw m q br added last tk ch wr F) (hq : q ≤ 64) :
    Calls Try.prog 81 #[.pointer (some ⟨R, 0, none⟩)] w fun e w' => e = .returned (.int .i64 (freeN tk)) ∧ w' = w := by
  have c1 : w.cell? ⟨R, 1, none⟩ = some (.int .i64 q) := by rw [h.head.cell]; rfl
  have c6 : w.cell? ⟨R, 6, none⟩ = some (.slice (some ⟨bt, 0, none⟩) q q) := by rw [h.head.cell]; rfl
  have HB := Lib.hid h.taken
  have hl := h.len.1
  subst hl
  clear h
  go_enter Try.func81, Try.ntmps81
  go_wp2
  go_loopw [3, 4] (fun n i wr => ∃ k : Nat, k ≤ tk.length ∧ n = .int .i64 (freeN (tk.take k)) ∧ i = .int .i64 k ∧ wr = w) (fun _ i _ => tk.length - (intOf i).toNat)
  case atStart => exact ⟨0, by omega, rfl, rfl, rfl⟩
  case round =>
    obtain ⟨k, hk, rfl, rfl, rfl⟩ := hrel
    by_cases hlt : k < tk.length
    · obtain ⟨b, hb⟩ : ∃ b, tk[k]? = some b := ⟨_, List.getElem?_eq_getElem hlt⟩
      have HT := Lib.hid (freeN_take hb)
      have hc : wr.cell? ⟨bt, k, none⟩ = some (.bool b) := by rw [HB.out.cell, List.getElem?_map, hb]; rfl
      have hle2 : freeN (tk.take k) ≤ 64 := by have := freeN_le (tk.take k); rw [List.length_take] at this; omega
      clear hb
      cases b
      · go_wp2
        go_roundw
        case rel => exact ⟨k + 1, by omega, by rw [HT.out]; go_num, by go_num, trivial⟩
        case measure => simp [intOf]; omega
      · go_wp2
        go_roundw
        case rel => exact ⟨k + 1, by omega, by rw [HT.out]; rfl, by go_num, trivial⟩
        case measure => simp [intOf]; omega
    · have hk' : k = tk.length := by omega
      subst hk'
      go_wp2
      rw [List.take_length]
      go_ret
      exact ⟨rfl, rfl⟩
/-- How many chains are on their way. -/
def outN (ch : List (List Nat)) : Nat := (ch.filter (fun l => decide (0 < l.length))).length
theorem outN_take {ch : List (List Nat)} {i : Nat} {l : List Nat} (h : ch[i]? = some l) : outN (ch.take (i + 1)) = outN (ch.take i) + if 0 < l.length then 1 else 0 := by
  rw [List.take_add_one, h]
  unfold outN
  rw [List.filter_append, List.length_append]
  by_cases hl : 0 < l.length <;> simp [hl]
theorem outN_le (ch : List (List Nat)) : outN ch ≤ ch.length := List.length_filter_le _ _
set_option maxHeartbeats 1000000 in
theorem rout_any (w : World) (R bt bc bw m q : Nat) (br : Bool) (added last : Nat) (tk : List Bool) (ch : List (List Nat)) (wr : List Int) (F : List Nat) (h : RefAt w R bt bc bw m q br added last tk ch wr F) (hq : q ≤ 64) :
    Calls Try.prog 92 #[.pointer (some ⟨R, 0, none⟩)] w fun e w' => e = .returned (.int .i64 (outN ch)) ∧ w' = w := by
  have c1 : w.cell? ⟨R, 1, none⟩ = some (.int .i64 q) := by rw [h.head.cell]; rfl
  have c7 : w.cell? ⟨R, 7, none⟩ = some (.slice (some ⟨bc, 0, none⟩) q q) := by rw [h.head.cell]; rfl
  obtain ⟨C, hC, hR⟩ := h.chain
  have HC := Lib.hid hC
  have HR := Lib.hid hR
  have hl := h.len.2.1
  subst hl
  clear h hC hR
  go_enter Try.func92, Try.ntmps92
  go_wp2
  go_loopw [3, 4] (fun n i wr => ∃ k : Nat, k ≤ ch.length ∧ n = .int .i64 (outN (ch.take k)) ∧ i = .int .i64 k ∧ wr = w) (fun _ i _ => ch.length - (intOf i).toNat)
  case atStart => exact ⟨0, by omega, rfl, rfl, rfl⟩
  case round =>
    obtain ⟨k, hk, rfl, rfl, rfl⟩ := hrel
    by_cases hlt : k < ch.length
    · obtain ⟨l, hb⟩ : ∃ l, ch[k]? = some l := ⟨_, List.getElem?_eq_getElem hlt⟩
      have HT := Lib.hid (outN_take hb)
      obtain ⟨v, hv, hO⟩ := HR.out.at_ k l hb
      obtain ⟨ao, cap, rfl, _, hm⟩ := (Rd.of_own hO).form
      have hc : wr.cell? ⟨bc, k, none⟩ = some (.slice ao l.length cap) := by rw [HC.out.cell]; exact hv
      have hle2 : outN (ch.take k) ≤ 64 := by have := outN_le (ch.take k); rw [List.length_take] at this; omega
      clear hb hv hO hm
      by_cases hl0 : 0 < l.length
      · rw [if_pos hl0] at HT
        go_wp2
        go_roundw
        case rel => exact ⟨k + 1, by omega, by rw [HT.out]; go_num, by go_num, trivial⟩
        case measure => simp [intOf]; omega
      · rw [if_neg hl0] at HT
        go_wp2
        go_roundw
        case rel => exact ⟨k + 1, by omega, by rw [HT.out]; rfl, by go_num, trivial⟩
        case measure => simp [intOf]; omega
    · have hk' : k = ch.length := by omega
      subst hk'
      go_wp2
      rw [List.take_length]
      go_ret
      exact ⟨rfl, rfl⟩
end Go.Proofs.Ytfffehbipcikoaa
