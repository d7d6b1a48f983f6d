/- The log: super. The log: renew. -/

import Derived.Test.YtcgdlmlolmfinaaLgPart
import Derived.Test.YtcgdlmlolmfinaaLgL
import Derived.Test.YtcgdlmlolmfinaaLgAt
import Derived.Test.YtcgdlmlolmfinaaLgPut
import Derived.Test.YtcgdlmlolmfinaaLgAll
namespace Go.Proofs.Ytcgdlmlolmfinaa
section
open Go.RowKit
def supK (g : Nat) (k : Nat) : List UInt8 := ((List.range k).map fun i => UInt8.ofNat (g / 256 ^ i % 256)) ++ List.replicate (64 - k) 0
theorem supK_set (g k : Nat) (hk : k < 64) : (supK g k).set k (UInt8.ofNat (g / 256 ^ k % 256)) = supK g (k + 1) := by
  unfold supK
  rw [List.set_append_right _ _ (by simp), List.length_map, List.length_range, Nat.sub_self, show 64 - k = (64 - (k + 1)) + 1 by omega, List.replicate_succ, List.set_cons_zero, List.range_succ, List.map_append]
  simp
section
variable {w w' w1 : World} {base R RD : Nat} {F F1 : List Nat} {s s1 s' : DS}
set_option maxRecDepth 20000 in
set_option maxHeartbeats 4000000 in
theorem lsuper (h0 : w.cell? ⟨R, 0, none⟩ = some (.pointer (some ⟨RD, 0, none⟩))) (hd : DkG w base RD F s) (hRF : R ∉ F) (hz : base ≤ w.heap.size) (r g : Nat) (hr : r ≤ 1) (hg : g < 4611686018427387904) (hlast : 0 ≤ s.last ∧ s.last ≤ 900000000) :
    Calls Try.prog 41 #[.pointer (some ⟨R, 0, none⟩), .int .i64 r, .int .i64 g] w fun e w' => e = .returned (.int .i64 (superS s r g).1) ∧ DkP w base RD F (superS s r g).2 w' := by
  have hRlt : R < w.heap.size := World.block_lt_of_cell? w _ h0
  have H0 := Lib.hid h0
  have HD := Lib.hid hd
  have HRF := Lib.hid hRF
  have HZ := Lib.hid hz
  have HRL := Lib.hid hRlt
  have HL := Lib.hid hlast
  have hmk := run_make_row' (P := Try.prog) 33 5 (.int .u8 0) 1 Try.underlying33 info_u8 rfl .i64 .i64 64 (by omega) (by omega)
  rw [made_u8L] at hmk
  simp only [show (((64 : Nat) : Nat) : Int) = 64 from rfl] at hmk
  obtain ⟨Z, hZ⟩ : ∃ Z, Z = u8s (List.replicate 64 0) := ⟨_, rfl⟩
  rw [← hZ] at hmk
  obtain ⟨B, hB⟩ : ∃ B, w.heap.size = B := ⟨_, rfl⟩
  have HI0 : Hid (Whole (w.alloc (.cells Z.toArray 5)) B 5 (u8s (supK g 0)) ∧ Left [] w (w.alloc (.cells Z.toArray 5))) := Lib.hid ⟨by rw [hZ, ← hB]; exact Whole.new w 5 _, (Left.refl _ _).alloc _⟩
  have HB := Lib.hid hB
  clear h0 hd hRF hz hZ hlast hRlt
  go_enter Try.func41, Try.ntmps41
  go_wp2
  go_loopw [11] (fun i wr => ∃ k : Nat, i = .int .i64 k ∧ k ≤ 8 ∧ Hid (Whole wr B 5 (u8s (supK g k)) ∧ Left [] w wr)) (fun i _ => 8 - (intOf i).toNat)
  case atStart => exact ⟨0, rfl, by omega, HI0⟩
  case round =>
    obtain ⟨k, rfl, hk, HI⟩ := hrel
    by_cases hlt : k < 8
    · have hlt' : (k : Int) < 8 := by omega
      have cB : wr.cell? ⟨B, k, none⟩ = some (.int .u8 0) := by
        rw [HI.out.1.cell]
        unfold supK u8s
        rw [List.map_append, List.getElem?_append_right (by simp), List.length_map, List.length_map, List.length_range, Nat.sub_self, show 64 - k = (63 - k) + 1 by omega, List.replicate_succ]
        rfl
      have fB := HI.out.1.free k
      have HI2 : Hid (Whole (wr.setCell ⟨B, k, none⟩ (.int .u8 ((g : Int) / 2 ^ (8 * k) % 256))) B 5 (u8s (supK g (k + 1))) ∧ Left [] w (wr.setCell ⟨B, k, none⟩ (.int .u8 ((g : Int) / 2 ^ (8 * k) % 256)))) := Lib.hid (by
        have e : ((g : Int) / 2 ^ (8 * k) % 256) = ((UInt8.ofNat (g / 256 ^ k % 256)).toNat : Int) := by
          have hp : (2 : Int) ^ (8 * k) = ((256 ^ k : Nat) : Int) := by
            rw [show (256 : Nat) = 2 ^ 8 from rfl, ← Nat.pow_mul, Int.natCast_pow]
            rfl
          rw [UInt8.toNat_ofNat', hp, ← Int.natCast_ediv]
          omega
        refine ⟨?_, HI.out.2.setCell (Or.inr (by have := HB.out; simp; omega)) _⟩
        have := HI.out.1.put k (.int .u8 ((g : Int) / 2 ^ (8 * k) % 256))
        rw [e, u8s_set, supK_set g k (by omega)] at this
        rw [e]
        exact this)
      go_wp2
      exact ⟨⟨k + 1, by go_num, by omega, HI2⟩, by simp [intOf]; omega⟩
    · have hk8 : k = 8 := by omega
      subst hk8
      have hBw : B = w.heap.size := HB.out.symm
      obtain ⟨wb, hwb⟩ : ∃ wb, wb = (if 0 < g then wr.setCell ⟨B, 63, none⟩ (.int .u8 1) else wr) := ⟨_, rfl⟩
      have c63 : wr.cell? ⟨B, 63, none⟩ = some (.int .u8 0) := by
        rw [HI.out.1.cell]
        unfold supK u8s
        rw [List.map_append, List.getElem?_append_right (by simp)]
        simp
      have f63 := HI.out.1.free 63
      have hsb : superB (g : Int) = if 0 < g then (supK g 8).set 63 1 else supK g 8 := by
        rw [superB_nat]
        unfold supK
        by_cases h : 0 < g
        · rw [if_pos h, if_pos h, List.set_append_right _ _ (by simp)]
          simp [List.replicate]
        · rw [if_neg h, if_neg h]
          simp [List.replicate]
      have HWB : Hid (Whole wb B 5 (u8s (superB g)) ∧ Left [] w wb) := Lib.hid (by
        rw [hsb, hwb]
        by_cases h : 0 < g
        · rw [if_pos h, if_pos h]
          refine ⟨?_, HI.out.2.setCell (Or.inr (by simp; omega)) _⟩
          have := HI.out.1.put 63 (.int .u8 1)
          rw [show (Value.int .u8 1) = .int .u8 ((1 : UInt8).toNat : Int) from rfl, u8s_set] at this
          exact this
        · rw [if_neg h, if_neg h]
          exact HI.out)
      have HFlt := Lib.hid HD.out.lt
      have cW : wb.cell? ⟨R, 0, none⟩ = some (.pointer (some ⟨RD, 0, none⟩)) := cell_left' H0.out HWB.out.2 (by simp)
      have HWR := Lib.hid (lwrite cW (HD.out.left0 HWB.out.2) HRF.out (by have := HWB.out.2.size; have := HZ.out; omega) (r * 2048) (bv := .slice (some ⟨B, 0, none⟩) 64 64) (b := superB g) (fun wx hx => by
        have hh := HWB.out.1.left hx (fun hm => by have := HFlt.out _ hm; omega)
        have := Rd.of_whole hh (by unfold maxLen; simp [u8s, superB_len])
        simpa [u8s, superB_len] using this) (by rw [superB_len]; omega) (by have := HL.out; omega))
      have e0 : (((r * 2048 : Nat) : Nat) : Int) = (r : Int) * 2048 := by omega
      obtain ⟨e2, s2, hW⟩ : ∃ e2 s2, wrS s (r * 2048) (superB g) = (e2, s2) := ⟨_, _, rfl⟩
      have hT2 := wr_last s (r * 2048) (superB g)
      rw [hW] at hT2
      rw [hW, e0] at HWR
      have HSU : Hid (superS s r g = if e2 ≠ 0 then (e2, s2) else flS s2) := Lib.hid (by unfold superS; rw [hW])
      have HT := Lib.hid hT2
      clear hsb e0 hW hT2 cW
      clear hBw
      by_cases hg0 : 0 < g
      · have hgI : (0 : Int) < (g : Int) := by omega
        rw [if_pos hg0] at hwb
        have hch := hwb.symm
        clear hwb hg0
        go_wp2_with fail
        refine HWR.out.mono ?_
        rintro e w3 ⟨rfl, F3, hd3, hl3, hf3⟩
        have hl3' : Left F w w3 := (HWB.out.2.mono (T := F) (by simp)).trans hl3 (fun k hk => .inl hk)
        have hf3' : ∀ x ∈ F3, x ∈ F ∨ w.heap.size ≤ x := fun x hx => by
          rcases hf3 x hx with h | h
          · exact .inl h
          · have := HWB.out.2.size; exact .inr (by omega)
        have c3 : w3.cell? ⟨R, 0, none⟩ = some (.pointer (some ⟨RD, 0, none⟩)) := cell_left' H0.out hl3' HRF.out
        have hR3 : R ∉ F3 := fun hm => by
          rcases hf3' _ hm with h | h
          · exact HRF.out h
          · have := HRL.out; omega
        have HFL := Lib.hid (lflush c3 hd3 hR3 (by have := hl3'.size; have := HZ.out; omega) (by have := HT.out; have := HL.out; omega))
        have H3 := Lib.hid (And.intro hd3 (And.intro hl3' hf3'))
        clear hd3 hl3 hf3 hl3' hf3' hR3 hch
        by_cases he2 : e2 = 0
        · subst he2
          have HE : Hid (superS s r g = flS s2) := Lib.hid (by rw [HSU.out]; simp)
          go_wp2_with fail
          refine HFL.out.mono ?_
          rintro e w4 ⟨rfl, F4, hd4, hl4, hf4⟩
          have HR := Lib.hid (DkP.trans H3.out.2.1 H3.out.2.2 ⟨F4, hd4, hl4, hf4⟩)
          clear hd4 hl4 hf4
          go_wp2
          go_ret
          rw [HE.out]
          exact ⟨rfl, HR.out⟩
        · have hne : (e2 != 0) = true := bne_iff_ne.2 he2
          have HE : Hid (superS s r g = (e2, s2)) := Lib.hid (by rw [HSU.out, if_pos he2])
          go_wp2
          go_ret
          rw [HE.out]
          exact ⟨rfl, F3, H3.out⟩
      · have hgI : ¬ ((0 : Int) < (g : Int)) := by omega
        rw [if_neg hg0] at hwb
        subst hwb
        have hch : True := trivial
        clear hg0
        go_wp2_with fail
        refine HWR.out.mono ?_
        rintro e w3 ⟨rfl, F3, hd3, hl3, hf3⟩
        have hl3' : Left F w w3 := (HWB.out.2.mono (T := F) (by simp)).trans hl3 (fun k hk => .inl hk)
        have hf3' : ∀ x ∈ F3, x ∈ F ∨ w.heap.size ≤ x := fun x hx => by
          rcases hf3 x hx with h | h
          · exact .inl h
          · have := HWB.out.2.size; exact .inr (by omega)
        have c3 : w3.cell? ⟨R, 0, none⟩ = some (.pointer (some ⟨RD, 0, none⟩)) := cell_left' H0.out hl3' HRF.out
        have hR3 : R ∉ F3 := fun hm => by
          rcases hf3' _ hm with h | h
          · exact HRF.out h
          · have := HRL.out; omega
        have HFL := Lib.hid (lflush c3 hd3 hR3 (by have := hl3'.size; have := HZ.out; omega) (by have := HT.out; have := HL.out; omega))
        have H3 := Lib.hid (And.intro hd3 (And.intro hl3' hf3'))
        clear hd3 hl3 hf3 hl3' hf3' hR3 hch
        by_cases he2 : e2 = 0
        · subst he2
          have HE : Hid (superS s r g = flS s2) := Lib.hid (by rw [HSU.out]; simp)
          go_wp2_with fail
          refine HFL.out.mono ?_
          rintro e w4 ⟨rfl, F4, hd4, hl4, hf4⟩
          have HR := Lib.hid (DkP.trans H3.out.2.1 H3.out.2.2 ⟨F4, hd4, hl4, hf4⟩)
          clear hd4 hl4 hf4
          go_wp2
          go_ret
          rw [HE.out]
          exact ⟨rfl, HR.out⟩
        · have hne : (e2 != 0) = true := bne_iff_ne.2 he2
          have HE : Hid (superS s r g = (e2, s2)) := Lib.hid (by rw [HSU.out, if_pos he2])
          go_wp2
          go_ret
          rw [HE.out]
          exact ⟨rfl, F3, H3.out⟩
end
end
section
open Go.RowKit
theorem sup_last (s : DS) (r : Nat) (g : Int) : s.last ≤ (superS s r g).2.last ∧ (superS s r g).2.last ≤ s.last + 2 := by
  have h1 := wr_last s (r * 2048) (superB g)
  have h2 := fl_last (wrS s (r * 2048) (superB g)).2
  unfold superS
  simp only
  split <;> omega
theorem clean_last (base : Nat) : ∀ (f : Nat) (s : DS) (n : Nat) (dirty : Bool), s.last ≤ (cleanD base f s n dirty).2.last ∧ (cleanD base f s n dirty).2.last ≤ s.last + 2 * f + 1
  | 0, s, n, dirty => by
    rw [cleanD]
    have h := fl_last s
    cases dirty
    · simp only [Bool.false_eq_true, if_false]; omega
    · simp only [if_true]; omega
  | f + 1, s, n, dirty => by
    rw [cleanD]
    have h1 := rd_last s (base + n)
    have h2 := wr_last (rdS s (base + n)).2.2 (base + n) zero64
    have h3 := clean_last base f (rdS s (base + n)).2.2 (n + 1) dirty
    have h4 := clean_last base f (wrS (rdS s (base + n)).2.2 (base + n) zero64).2 (n + 1) true
    simp only
    split
    · simp only; omega
    · split
      · omega
      · split <;> omega
theorem putD_last (base : Nat) : ∀ (ls : List (List UInt8)) (s : DS) (a : Nat), s.last ≤ (putD base ls s a).2.2.last ∧ (putD base ls s a).2.2.last ≤ s.last + ls.length ∧ a ≤ (putD base ls s a).1 ∧ (putD base ls s a).1 ≤ a + ls.length
  | [], s, a => by rw [putD]; simp
  | b :: r, s, a => by
    rw [putD]
    have h1 := wr_last s (base + a) b
    have h2 := putD_last base r (wrS s (base + a) b).2 (a + 1)
    simp only [List.length_cons]
    split
    · simp only; omega
    · omega
theorem put_last' (s : DS) (r a : Nat) (x : List UInt8) (hx : x.length ≤ 65535) : s.last ≤ (putS cbL s r a x).2.2.last ∧ (putS cbL s r a x).2.2.last ≤ s.last + 1100 ∧ a ≤ (putS cbL s r a x).1 ∧ (putS cbL s r a x).1 ≤ a + 1100 := by
  have h := putD_last (r * 2048) (layR cbL x) s a
  rw [layR_len] at h
  unfold putS
  have : secsN x.length ≤ 1100 := by unfold secsN; omega
  omega
/-- A pass of renew. -/
structure RnI (w w1 : World) (base RD : Nat) (F : List Nat) (s : DS) (r : Nat) (l : List (List UInt8)) (FIN : Nat × Int × DS) (j at_ : Nat) (F' : List Nat) (s' : DS) (wr : World) : Prop where
  d : DkG wr base RD F' s'
  lf : Left F w wr
  f : ∀ x ∈ F', x ∈ F ∨ w.heap.size ≤ x
  e : putsD cbL r (l.drop j) s' at_ = FIN
  t : s.last ≤ s'.last ∧ s'.last ≤ s.last + 5000 + 1100 * (j : Int)
  a : at_ ≤ 1 + 1100 * j
/-- Behind the records. -/
def renE (r : Nat) (gen : Int) (p : Nat × Int × DS) : Nat × Int × DS :=
  if p.2.1 ≠ 0 then (0, p.2.1, p.2.2)
  else
    let f := flS p.2.2
    if f.1 ≠ 0 then (0, f.1, f.2)
    else (p.1, (superS f.2 r (gen + 1)).1, (superS f.2 r (gen + 1)).2)
section
variable {w w' w1 : World} {base R RD : Nat} {F F1 : List Nat} {lv : Value} {L L' : LS} {s s1 s' : DS}
set_option maxRecDepth 20000 in
set_option maxHeartbeats 8000000 in
theorem lrenew (h : LgAt w base R RD F lv L) (hz : base ≤ w.heap.size) (hr : L.region ≤ 1) (gn : Nat) (hg : L.gen = gn) (hgn : gn < 4000000000000000000) (hlast : 0 ≤ L.d.last ∧ L.d.last ≤ 800000000)
    (v : Value) (l : List (List UInt8)) (hl : l.length ≤ 600) (hx : ∀ x ∈ l, x.length ≤ 65535) (hv : ∀ w', Left F w w' → Rd w' w'.heap.size 1 v l.length (l.map strL)) :
    Calls Try.prog 29 #[.pointer (some ⟨R, 0, none⟩), v] w fun e w' => e = .returned (.tuple #[.int .i64 (renewS cbL L l).1, .int .i64 (renewS cbL L l).2.1]) ∧ DkP w base RD F (renewS cbL L l).2.2 w' := by
  obtain ⟨ao, cap, rfl, hc1, hc2⟩ := (hv w (Left.refl _ _)).form
  have hc3 : cap ≤ 9223372036854775807 := by unfold maxLen at hc2; omega
  have c0 : w.cell? ⟨R, 0, none⟩ = some (.pointer (some ⟨RD, 0, none⟩)) := by rw [h.head.cell]; rfl
  have c3 : w.cell? ⟨R, 3, none⟩ = some (.int .i64 L.region) := by rw [h.head.cell]; rfl
  have c4 : w.cell? ⟨R, 4, none⟩ = some (.int .i64 gn) := by rw [h.head.cell, ← hg]; rfl
  obtain ⟨r, hrr⟩ : ∃ r, 1 - L.region = r := ⟨_, rfl⟩
  have hr1 : r ≤ 1 := by omega
  have hrI : (1 : Int) - (L.region : Int) = (r : Int) := by omega
  obtain ⟨A, hA⟩ : ∃ A, renewS cbL L l = A := ⟨_, rfl⟩
  have hA0 := hA
  unfold renewS at hA
  rw [hA0]
  rw [hrr] at hA
  have HSU : Hid (Calls Try.prog 41 #[.pointer (some ⟨R, 0, none⟩), .int .i64 r, .int .i64 0] w fun e w' => e = .returned (.int .i64 (superS L.d r 0).1) ∧ DkP w base RD F (superS L.d r 0).2 w') := Lib.hid (lsuper (s := L.d) c0 h.disk h.sepR hz r 0 hr1 (by omega) (by omega))
  have hT := sup_last L.d r 0
  obtain ⟨e1, s1, hS⟩ : ∃ e1 s1, superS L.d r 0 = (e1, s1) := ⟨_, _, rfl⟩
  simp only [hS] at hA
  rw [hS] at HSU hT
  have H := Lib.hid h
  have HZ := Lib.hid hz
  have HL := Lib.hid hlast
  have HA := Lib.hid hA
  have HT := Lib.hid hT
  have HV := Lib.hid hv
  have HX := Lib.hid hx
  have H0 := Lib.hid c0
  have H4 := Lib.hid c4
  have HG := Lib.hid hg
  have HRL := Lib.hid h.head.lt
  clear h hz hlast hA hA0 hT hS hv hx hg hc2 hrr c0
  go_enter Try.func29, Try.ntmps29
  go_wp2_with fail
  refine HSU.out.mono ?_
  rintro e w1 ⟨rfl, F1, hd1, hl1, hf1⟩
  have HW1 := Lib.hid (And.intro hd1 (And.intro hl1 hf1))
  clear hd1 hl1 hf1 c3 c4
  by_cases he1 : e1 = 0
  · subst he1
    have c01 := cell_left' H0.out HW1.out.2.1 H.out.sepR
    have hRF1 : R ∉ F1 := fun hm => by
      rcases HW1.out.2.2 _ hm with h | h
      · exact H.out.sepR h
      · have := HRL.out; omega
    have HCL := Lib.hid (lclean (s := s1) c01 HW1.out.1 hRF1 (by have := HW1.out.2.1.size; have := HZ.out; omega) r 1 hr1 (by omega) (by have := HT.out; have := HL.out; simp at *; omega))
    have hT2 := clean_last (r * 2048) (2048 - 1) s1 1 false
    rw [show cleanD (r * 2048) (2048 - 1) s1 1 false = cleanS s1 r 1 from rfl] at hT2
    obtain ⟨e2, s2, hS2⟩ : ∃ e2 s2, cleanS s1 r 1 = (e2, s2) := ⟨_, _, rfl⟩
    have hA := HA.out
    simp only [ne_eq, not_true_eq_false, if_false, hS2] at hA
    rw [hS2] at HCL hT2
    have HA1 := Lib.hid hA
    have HT2 := Lib.hid hT2
    clear hA hS2 hT2 c01 hRF1
    go_wp2_with fail
    refine HCL.out.mono ?_
    rintro e w2 ⟨rfl, F2, hd2, hl2, hf2⟩
    have HW2 : Hid (DkG w2 base RD F2 s2 ∧ Left F w w2 ∧ ∀ x ∈ F2, x ∈ F ∨ w.heap.size ≤ x) := Lib.hid ⟨hd2, HW1.out.2.1.trans hl2 HW1.out.2.2, fun x hx => by
      rcases hf2 x hx with h | h
      · exact HW1.out.2.2 x h
      · have := HW1.out.2.1.size; exact .inr (by omega)⟩
    clear hd2 hl2 hf2
    by_cases he2 : e2 = 0
    · subst he2
      obtain ⟨FIN, hFIN⟩ : ∃ X, putsD cbL r l s2 1 = X := ⟨_, rfl⟩
      have HA2 : Hid (renE r L.gen FIN = A) := Lib.hid (by have := HA1.out; simp only [ne_eq, not_true_eq_false, if_false, hFIN] at this; exact this)
      have HI0 : Hid (RnI w w2 base RD F L.d r l FIN 0 1 F2 s2 w2) := Lib.hid ⟨HW2.out.1, HW2.out.2.1, HW2.out.2.2, by rw [List.drop_zero]; exact hFIN, by have := HT.out; have := HT2.out; simp at *; omega, by omega⟩
      clear hFIN
      go_wp2
      go_loopw [4, 31] (fun at_ i wr => ∃ (j a : Nat) (F' : List Nat) (s' : DS), at_ = .int .i64 a ∧ i = .int .i64 j ∧ j ≤ l.length ∧ a ≤ 1000000 ∧ Hid (RnI w w2 base RD F L.d r l FIN j a F' s' wr)) (fun _ i _ => 2000 - (intOf i).toNat)
      case atStart => exact ⟨0, 1, F2, s2, rfl, rfl, by omega, by omega, HI0⟩
      case round =>
        obtain ⟨j, a, F', s', rfl, rfl, hj, ha, HI⟩ := hrel
        have hRF' : R ∉ F' := fun hm => by
          rcases HI.out.f _ hm with h | h
          · exact H.out.sepR h
          · have := HRL.out; omega
        have c0r := cell_left' H0.out HI.out.lf H.out.sepR
        have hbw : base ≤ wr.heap.size := by have := HI.out.lf.size; have := HZ.out; omega
        by_cases hlt : j < l.length
        · have hlt' : (j : Int) < (l.length : Int) := by omega
          obtain ⟨x, hxj⟩ : ∃ x, l[j]? = some x := ⟨_, List.getElem?_eq_getElem hlt⟩
          obtain ⟨b, o, cap', e', _, hcs⟩ := rd_strs (HV.out wr HI.out.lf) hxj hlt
          injection e' with e1 _ e3
          subst e1 e3
          have hx65 := HX.out x (List.mem_of_getElem? hxj)
          have HPT := Lib.hid (lput (s := s') c0r HI.out.d hRF' hbw r a hr1 (by omega) x hx65 (by have := HI.out.t; have := HL.out; omega))
          have hT3 := put_last' s' r a x hx65
          have hE := HI.out.e
          rw [List.drop_eq_getElem_cons hlt, (List.getElem?_eq_some_iff.1 hxj).2, putsD] at hE
          obtain ⟨a3, e3, s3, hP⟩ : ∃ a3 e3 s3, putS cbL s' r a x = (a3, e3, s3) := ⟨_, _, _, rfl⟩
          simp only [hP] at hE
          rw [hP] at HPT hT3
          have HE := Lib.hid hE
          have HT3 := Lib.hid hT3
          clear hxj hE hT3 hP hRF' c0r hbw
          go_wp2_with fail
          refine HPT.out.mono ?_
          rintro e w3 ⟨rfl, F3, hd3, hl3, hf3⟩
          have H3 : Hid (DkG w3 base RD F3 s3 ∧ Left F w w3 ∧ ∀ x ∈ F3, x ∈ F ∨ w.heap.size ≤ x) := Lib.hid ⟨hd3, HI.out.lf.trans hl3 HI.out.f, fun x hx => by
            rcases hf3 x hx with h | h
            · exact HI.out.f x h
            · have := HI.out.lf.size; exact .inr (by omega)⟩
          clear hd3 hl3 hf3
          by_cases he3 : e3 = 0
          · subst he3
            have HI2 : Hid (RnI w w2 base RD F L.d r l FIN (j + 1) a3 F3 s3 w3) := Lib.hid ⟨H3.out.1, H3.out.2.1, H3.out.2.2, by have := HE.out; simpa using this, by have := HT3.out; have := HI.out.t; simp at *; omega, by have := HT3.out; have := HI.out.a; simp at *; omega⟩
            go_wp2
            go_roundw
            case rel => exact ⟨j + 1, a3, F3, s3, rfl, by go_num, by omega, by have := HI2.out.a; omega, HI2⟩
            case measure => simp [intOf]; omega
          · have hne : (e3 != 0) = true := bne_iff_ne.2 he3
            have HE2 : Hid ((0, e3, s3) = A) := Lib.hid (by
              have h1 := HE.out
              simp only [ne_eq, he3, not_false_eq_true, if_true] at h1
              rw [← HA2.out, ← h1]
              unfold renE
              simp [he3])
            go_wp2
            go_ret2
            rw [← HE2.out]
            exact ⟨rfl, F3, H3.out⟩
        · have hj' : j = l.length := by omega
          have hE := HI.out.e
          rw [hj', List.drop_length, putsD] at hE
          have HFL := Lib.hid (lflush (s := s') c0r HI.out.d hRF' hbw (by have := HI.out.t; have := HL.out; omega))
          have hT4 := fl_last s'
          obtain ⟨e4, s4, hF4⟩ : ∃ e4 s4, flS s' = (e4, s4) := ⟨_, _, rfl⟩
          have hA := HA2.out
          rw [← hE] at hA
          unfold renE at hA
          simp only [ne_eq, not_true_eq_false, if_false, hF4] at hA
          rw [hF4] at HFL hT4
          have HA3 := Lib.hid hA
          have HT4 := Lib.hid hT4
          clear hA hE hT4 hF4 hRF' c0r hbw hj'
          go_wp2_with fail
          refine HFL.out.mono ?_
          rintro e w4 ⟨rfl, F4, hd4, hl4, hf4⟩
          have HW4 : Hid (DkG w4 base RD F4 s4 ∧ Left F w w4 ∧ ∀ x ∈ F4, x ∈ F ∨ w.heap.size ≤ x) := Lib.hid ⟨hd4, HI.out.lf.trans hl4 HI.out.f, fun x hx => by
            rcases hf4 x hx with h | h
            · exact HI.out.f x h
            · have := HI.out.lf.size; exact .inr (by omega)⟩
          clear hd4 hl4 hf4
          by_cases he4 : e4 = 0
          · subst he4
            have c04 := cell_left' H0.out HW4.out.2.1 H.out.sepR
            have c44 := cell_left' H4.out HW4.out.2.1 H.out.sepR
            have hRF4 : R ∉ F4 := fun hm => by
              rcases HW4.out.2.2 _ hm with h | h
              · exact H.out.sepR h
              · have := HRL.out; omega
            have HSU2 := Lib.hid (lsuper (s := s4) c04 HW4.out.1 hRF4 (by have := HW4.out.2.1.size; have := HZ.out; omega) r (gn + 1) hr1 (by omega) (by have := HT4.out; have := HI.out.t; have := HL.out; simp at *; omega))
            rw [show ((gn + 1 : Nat) : Int) = (gn : Int) + 1 by omega] at HSU2
            have hA := HA3.out
            simp only [not_true_eq_false, if_false] at hA
            rw [HG.out] at hA
            obtain ⟨e5, s5, hS5⟩ : ∃ e5 s5, superS s4 r ((gn : Int) + 1) = (e5, s5) := ⟨_, _, rfl⟩
            rw [hS5] at HSU2 hA
            have HA4 := Lib.hid hA
            clear hA hS5 hRF4 c04
            go_wp2_with fail
            refine HSU2.out.mono ?_
            rintro e w5 ⟨rfl, F5, hd5, hl5, hf5⟩
            have HW5 : Hid (DkP w base RD F s5 w5) := Lib.hid ⟨F5, hd5, HW4.out.2.1.trans hl5 HW4.out.2.2, fun x hx => by
              rcases hf5 x hx with h | h
              · exact HW4.out.2.2 x h
              · have := HW4.out.2.1.size; exact .inr (by omega)⟩
            clear hd5 hl5 hf5 c44
            go_wp2
            go_ret2
            rw [← HA4.out]
            exact ⟨rfl, HW5.out⟩
          · have hne : (e4 != 0) = true := bne_iff_ne.2 he4
            have HA4 : Hid ((0, e4, s4) = A) := Lib.hid (by have := HA3.out; simpa [he4] using this)
            go_wp2
            go_ret2
            rw [← HA4.out]
            exact ⟨rfl, F4, HW4.out⟩
    · have hne : (e2 != 0) = true := bne_iff_ne.2 he2
      have HA2 : Hid ((0, e2, s2) = A) := Lib.hid (by have := HA1.out; simpa [he2] using this)
      go_wp2
      go_ret2
      rw [← HA2.out]
      exact ⟨rfl, F2, HW2.out⟩
  · have hne : (e1 != 0) = true := bne_iff_ne.2 he1
    have HA2 : Hid ((0, e1, s1) = A) := Lib.hid (by have := HA.out; simpa [he1] using this)
    go_wp2
    go_ret2
    rw [← HA2.out]
    exact ⟨rfl, F1, HW1.out⟩
end
end
end Go.Proofs.Ytcgdlmlolmfinaa
