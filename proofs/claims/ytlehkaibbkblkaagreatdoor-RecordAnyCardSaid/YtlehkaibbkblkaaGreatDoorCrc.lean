/- Bytes of a string, as a row that may be read; a string of bytes. crc.Sum: a number that the bytes alone make. -/

import Derived.Test.YtlehkaibbkblkaaGreatDoorGa
import Derived.Lib.Hide
import Derived.IntWalk
import Derived.Deep.DeepCutAuto
import Derived.Laws.IdiomStrings
import Derived.Test.YtlehkaibbkblkaaGreatDoorGb
namespace Go.Proofs.YtlehkaibbkblkaaGreatDoor
section
open Go.RowKit
theorem conv_bs (w : World) (g o cap : Nat) (x : List UInt8) (hc : ∀ j b, x[j]? = some b → w.cell? ⟨g, o + j, none⟩ = some (.int .u8 (b.toNat : Int))) :
    (convert 23 9 (.slice (some ⟨g, o, none⟩) x.length cap)).run Tryz.prog w = .ok (.string ⟨x.toArray⟩) w :=
  run_convert_bytes_back w 23 9 5 ⟨g, o, none⟩ cap x Tryz.underlying23 Tryz.underlying5 Tryz.underlying9 (fun j hj => by
    have := hc j x[j] (List.getElem?_eq_getElem hj)
    rw [add_flat]
    exact this)
end
section
open Go.RowKit
def crcBit (s : Int) : Int := bits .xor .u32 (s / 2) (3988292384 * bits .and .u32 s 1 % 4294967296)
def bitN : Nat → Int → Int
  | 0, s => s
  | n + 1, s => bitN n (crcBit s)
def crcX (s : Int) (x : UInt8) : Int := bits .xor .u32 s ((x.toNat : Int) % 4294967296)
def crcFin : List UInt8 → Int → Int
  | [], s => s
  | x :: r, s => crcFin r (bitN 8 (crcX s x))
def crcNot (s : Int) : Int := bits .xor .u32 4294967295 s
def CNext (b : List UInt8) (ao : Option Addr) (cap : Nat) (FIN : Int) (w : World) (a' : Act) (w' : World) : Prop :=
  w = w' ∧ ∃ (i bit : Nat) (s : Int), i ≤ b.length ∧ bit ≤ 8 ∧ Hid (crcFin (b.drop i) (bitN (8 - bit) s) = FIN) ∧ ∃ u2 u3 u4 u7 u8 u9 u10 u11 u12 u13 u14 u15 u16 u17 u18 u19 u20 u21 u22 u23 u24 u25 u26 u27 u28 u29 u30 u31 u32 u33 : Value, a' = { tmps := #[.int .u32 s, .slice ao b.length cap, u2, u3, u4, .int .i64 i, .int .i64 bit, u7, u8, u9, u10, u11, u12, u13, u14, u15, u16, u17, u18, u19, u20, u21, u22, u23, u24, u25, u26, u27, u28, u29, u30, u31, u32, u33], defers := [] }
set_option maxRecDepth 20000 in
set_option maxHeartbeats 2000000 in
theorem Sum_any (w : World) (v : Value) (b : List UInt8) (h : Rd w w.heap.size 1 v b.length (u8s b)) :
    Calls Tryz.prog 34 #[.int .u32 0, v] w fun e w' => e = .returned (.int .u32 (crcNot (crcFin b (crcNot 0)))) ∧ w = w' := by
  obtain ⟨ao, cap, rfl, hc, hm⟩ := h.form
  have hc2 : cap ≤ 9223372036854775807 := by unfold maxLen at hm; omega
  obtain ⟨FIN, hF⟩ : ∃ F, crcFin b (crcNot 0) = F := ⟨_, rfl⟩
  rw [hF]
  have HF := Lib.hid hF
  have H := Lib.hid h
  clear h hm hF
  go_enter Tryz.func34, Tryz.ntmps34
  go_wp2
  refine wp_scope_falls 0 (fun l a' w' => l = 0 ∧ CNext b ao cap FIN w a' w') (fun l a' _ => 9 * (b.length - (intOf (a'.tmps.getD 5 undef)).toNat) + (8 - (intOf (a'.tmps.getD 6 undef)).toNat)) rfl ?_ ?_
  · rintro l a' w' ⟨rfl, rfl, i, bit, s, hi, hbit, HE, u2, u3, u4, u7, u8, u9, u10, u11, u12, u13, u14, u15, u16, u17, u18, u19, u20, u21, u22, u23, u24, u25, u26, u27, u28, u29, u30, u31, u32, u33, rfl⟩
    refine ⟨_, rfl, ?_⟩
    by_cases h8 : bit < 8
    · have h8' : (bit : Int) < 8 := by omega
      have HE2 : Hid (crcFin (b.drop i) (bitN (8 - (bit + 1)) (crcBit s)) = FIN) := Lib.hid (by
        rw [← HE.out, show 8 - bit = 8 - (bit + 1) + 1 by omega]
        rfl)
      go_wp2
      go_step3
      exact ⟨⟨rfl, rfl, i, bit + 1, _, hi, by omega, HE2, _, _, _, _, _, _, _, _, _, _, _, _, _, _, _, _, _, _, _, _, _, _, _, _, _, _, _, _, _, _, by go_num⟩, by simp [intOf]; omega⟩
    · have h8' : ¬ ((bit : Int) < 8) := by omega
      have e8 : bit = 8 := by omega
      subst e8
      by_cases hl : i < b.length
      · have hl' : (i : Int) < (b.length : Int) := by omega
        obtain ⟨x, hx⟩ : ∃ x, b[i]? = some x := ⟨_, List.getElem?_eq_getElem hl⟩
        obtain ⟨b2, o, u, rfl, hbl, hxu, hcs⟩ := H.out.at_ (k := i) (by omega)
        rw [u8s, List.getElem?_map, hx] at hxu
        injection hxu with hxu
        subst hxu
        have HE2 : Hid (crcFin (b.drop (i + 1)) (bitN (8 - 0) (crcX s x)) = FIN) := Lib.hid (by
          rw [← HE.out, List.drop_eq_getElem_cons hl, (List.getElem?_eq_some_iff.1 hx).2]
          rfl)
        clear hx
        go_wp2
        go_step3
        exact ⟨⟨rfl, rfl, i + 1, 0, _, by omega, by omega, HE2, _, _, _, _, _, _, _, _, _, _, _, _, _, _, _, _, _, _, _, _, _, _, _, _, _, _, _, _, _, _, by go_num⟩, by simp [intOf]; omega⟩
      · have hl' : ¬ ((i : Int) < (b.length : Int)) := by omega
        have HE2 : Hid (s = FIN) := Lib.hid (by
          rw [← HE.out, List.drop_eq_nil_of_le (by omega)]
          rfl)
        go_wp2
        simp only [exitJumps]
        go_ret
        exact ⟨by rw [← HE2.out]; rfl, rfl⟩
  · intro hgo
    have HGO := Lib.hid hgo
    clear hgo
    go_wp2
    go_step3
    refine (by assumption : ∀ (a : Act) (w : World), Code.wp _ _ _ a w → _) _ _ ?_
    refine HGO.out _ _ ⟨by trivial, rfl, 0, 8, _, by omega, by omega, HF, _, _, _, _, _, _, _, _, _, _, _, _, _, _, _, _, _, _, _, _, _, _, _, _, _, _, _, _, _, _, rfl⟩
end
end Go.Proofs.YtlehkaibbkblkaaGreatDoor
