/- The log: put. -/

import Derived.Test.YtcgdlmlolmfinaaLgLay
import Derived.Test.YtcgdlmlolmfinaaLgPart
namespace Go.Proofs.Ytcgdlmlolmfinaa
open Go.RowKit
/-- A pass of put. -/
structure PtI (w w1 : World) (base RD : Nat) (F : List Nat) (s : DS) (r a : Nat) (ls : List (List UInt8)) (FIN : Nat × Int × DS) (j : Nat) (F' : List Nat) (s' : DS) (wr : World) : Prop where
  d : DkG wr base RD F' s'
  l : Left F w1 wr
  f : ∀ x ∈ F', x ∈ F ∨ w1.heap.size ≤ x
  e : putD (r * 2048) (ls.drop j) s' (a + j) = FIN
  t : s.last ≤ s'.last ∧ s'.last ≤ s.last + (j : Int)
section
variable {w w' w1 : World} {base R RD : Nat} {F F1 : List Nat} {s s1 s' : DS}
set_option maxRecDepth 20000 in
set_option maxHeartbeats 4000000 in
theorem lput (h0 : w.cell? ⟨R, 0, none⟩ = some (.pointer (some ⟨RD, 0, none⟩))) (hd : DkG w base RD F s) (hRF : R ∉ F) (hz : base ≤ w.heap.size) (r a : Nat) (hr : r ≤ 1) (ha : a ≤ 1000000000) (x : List UInt8) (hx : x.length ≤ 65535) (hlast : 0 ≤ s.last ∧ s.last ≤ 900000000) :
    Calls Try.prog 25 #[.pointer (some ⟨R, 0, none⟩), .int .i64 r, .int .i64 a, .string ⟨x.toArray⟩] w fun e w' => e = .returned (.tuple #[.int .i64 (putS cbL s r a x).1, .int .i64 (putS cbL s r a x).2.1]) ∧ DkP w base RD F (putS cbL s r a x).2.2 w' := by
  obtain ⟨FIN, hF⟩ : ∃ X, putS cbL s r a x = X := ⟨_, rfl⟩
  rw [hF]
  obtain ⟨ls, hls⟩ : ∃ ls, layR cbL x = ls := ⟨_, rfl⟩
  have hn : ls.length ≤ 1100 := by rw [← hls, layR_len]; unfold secsN; omega
  have h64 : ∀ b ∈ ls, b.length = 64 := fun b hb => by
    rw [← hls] at hb
    obtain ⟨k, _, rfl⟩ := List.mem_map.1 hb
    exact secOf_len (cut62_len _ _)
  have HLY := Lib.hid (llay w x hx)
  rw [hls] at HLY
  have HF := Lib.hid hF
  have hFl := hd.lt
  have HFL := Lib.hid hFl
  have HD := Lib.hid hd
  have H0 := Lib.hid h0
  have HRF := Lib.hid hRF
  have HZ := Lib.hid hz
  have HL := Lib.hid hlast
  have HLS := Lib.hid hls
  have H64 := Lib.hid h64
  have HRL := Lib.hid (World.block_lt_of_cell? w _ h0)
  clear h0 hd hRF hz hlast hF hls hFl h64 hx
  go_enter Try.func25, Try.ntmps25
  go_wp2_with fail
  refine HLY.out.mono ?_
  rintro e w1 ⟨v, rfl, ⟨gs, hgl, hrow, hsec⟩, hb1⟩
  obtain ⟨vo, vc, rfl, hvc1, hvc2⟩ := (Rd.of_own hrow).form
  have hvc3 : vc ≤ 9223372036854775807 := by unfold maxLen at hvc2; omega
  have HI0 : Hid (PtI w w1 base RD F s r a ls FIN 0 F s w1) := Lib.hid ⟨HD.out.left0 (Left.of_below hb1 []), Left.refl _ _, fun _ h => .inl h, by rw [List.drop_zero, ← HF.out]; unfold putS; rw [HLS.out]; rfl, by omega⟩
  have HS := Lib.hid (And.intro hgl (And.intro hrow hsec))
  have HB1 := Lib.hid hb1
  clear hgl hrow hsec hb1 hvc2
  go_wp2
  go_loopw [2, 16] (fun at_ i wr => ∃ (j : Nat) (F' : List Nat) (s' : DS), at_ = .int .i64 ((a : Int) + (j : Int)) ∧ i = .int .i64 j ∧ j ≤ ls.length ∧ Hid (PtI w w1 base RD F s r a ls FIN j F' s' wr)) (fun _ i _ => 2000 - (intOf i).toNat)
  case atStart => exact ⟨0, F, s, by simp, rfl, by omega, HI0⟩
  case round =>
    obtain ⟨j, F', s', rfl, rfl, hj, HI⟩ := hrel
    have hj2 : j ≤ 1100 := by omega
    by_cases hlt : j < ls.length
    · have hlt' : (j : Int) < (ls.length : Int) := by omega
      obtain ⟨b, hb⟩ : ∃ b, ls[j]? = some b := ⟨_, List.getElem?_eq_getElem hlt⟩
      obtain ⟨g, hg1, hg2, hg3⟩ := HS.out.2.2 j b hb
      have hrow := HS.out.2.1
      obtain ⟨bv, ov, u, e, _, hu, hcs⟩ := (Rd.of_own hrow).at_ (k := j) (by omega)
      subst e
      rw [List.getElem?_map, hg1] at hu
      injection hu with hu
      subst hu
      have hbF : bv ∉ F := fun hm => by
        have h1 := (HFL.out _ hm).2
        have h2 := (hrow.lt bv (by
          obtain ⟨_, h3⟩ := hrow
          rcases h3 with ⟨h3, _⟩ | ⟨_, _, _, h3, _⟩
          · cases h3
          · injection h3 with h3; injection h3 with h3; injection h3 with h3; subst h3; rfl)).1
        omega
      have cg := cell_left' hcs HI.out.l hbF
      unfold secV at cg
      have hgF : g ∉ F := fun hm => by have h1 := (HFL.out _ hm).2; omega
      have c0 := cell_left' (cell_left' H0.out (Left.of_below HB1.out []) (by simp)) HI.out.l HRF.out
      have hRF' : R ∉ F' := fun hm => by
        rcases HI.out.f _ hm with h | h
        · exact HRF.out h
        · have := HRL.out; have := HB1.out.size; omega
      have hg4 : Whole wr g 5 (u8s b) := hg3.left HI.out.l hgF
      have hg5 : g ∉ F' := fun hm => by
        rcases HI.out.f _ hm with h | h
        · exact hgF h
        · have := hg3.lt; omega
      have hbl : b.length = 64 := H64.out b (List.mem_of_getElem? hb)
      have HWR := Lib.hid (lwrite (s := s') c0 HI.out.d hRF' (by have := HI.out.l.size; have := HB1.out.size; have := HZ.out; omega) (r * 2048 + (a + j)) (bv := .slice (some ⟨g, 0, none⟩) 64 64) (b := b) (fun wx hx => by
        have hh := hg4.left hx hg5
        have := Rd.of_whole hh (by unfold maxLen; simp [u8s, hbl])
        simpa [u8s, hbl] using this) (by omega) (by have := HI.out.t; have := HL.out; omega))
      have e0 : (((r * 2048 + (a + j) : Nat) : Nat) : Int) = (r : Int) * 2048 + ((a : Int) + (j : Int)) := by omega
      rw [e0] at HWR
      have hE := HI.out.e
      rw [List.drop_eq_getElem_cons hlt, (List.getElem?_eq_some_iff.1 hb).2, putD] at hE
      have hT := wr_last s' (r * 2048 + (a + j)) b
      obtain ⟨e2, s2, hW⟩ : ∃ e2 s2, wrS s' (r * 2048 + (a + j)) b = (e2, s2) := ⟨_, _, rfl⟩
      rw [hW] at HWR hE hT
      have HE := Lib.hid hE
      have HT := Lib.hid hT
      clear hb hg1 hg2 hg3 hrow hcs hbF hgF c0 hRF' hg4 hg5 e0 hE hT hW
      go_wp2_with fail
      refine HWR.out.mono ?_
      rintro e w3 ⟨rfl, F3, hd3, hl3, hf3⟩
      have hl3' : Left F w1 w3 := HI.out.l.trans hl3 HI.out.f
      have hf3' : ∀ x ∈ F3, x ∈ F ∨ w1.heap.size ≤ x := fun x hx => by
        rcases hf3 x hx with h | h
        · exact HI.out.f x h
        · have := HI.out.l.size; exact .inr (by omega)
      have H3 := Lib.hid (And.intro hd3 (And.intro hl3' hf3'))
      clear hd3 hl3 hf3 hl3' hf3' cg
      by_cases he2 : e2 = 0
      · subst he2
        have HI2 : Hid (PtI w w1 base RD F s r a ls FIN (j + 1) F3 s2 w3) := Lib.hid ⟨H3.out.1, H3.out.2.1, H3.out.2.2, by have := HE.out; simpa [Nat.add_assoc] using this, by have := HT.out; have := HI.out.t; simp at this ⊢; omega⟩
        go_wp2
        go_roundw
        case rel => exact ⟨j + 1, F3, s2, by go_num, by go_num, by omega, HI2⟩
        case measure => simp [intOf]; omega
      · have hne : (e2 != 0) = true := bne_iff_ne.2 he2
        have HE2 : Hid ((a + j, e2, s2) = FIN) := Lib.hid (by have := HE.out; simpa [he2] using this)
        go_wp2
        go_ret2
        rw [← HE2.out]
        refine ⟨rfl, F3, H3.out.1, (Left.of_below HB1.out F).trans H3.out.2.1 (fun k hk => .inl hk), fun k hk => ?_⟩
        rcases H3.out.2.2 k hk with h | h
        · exact .inl h
        · have := HB1.out.size; exact .inr (by omega)
    · have hj' : j = ls.length := by omega
      have hE := HI.out.e
      rw [hj', List.drop_length, putD] at hE
      have HE := Lib.hid hE
      have HJ := Lib.hid hj'
      clear hE hj'
      go_wp2
      go_ret2
      rw [← HE.out]
      refine ⟨by rw [HJ.out]; rfl, F', HI.out.d, (Left.of_below HB1.out F).trans HI.out.l (fun k hk => .inl hk), fun k hk => ?_⟩
      rcases HI.out.f k hk with h | h
      · exact .inl h
      · have := HB1.out.size; exact .inr (by omega)
end
end Go.Proofs.Ytcgdlmlolmfinaa
