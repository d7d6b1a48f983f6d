/- A disk of the program: Sectors, is, Write, Read, Flush, Off, New, Pending. -/


import Derived.Test.YtcgdlmlolmfinaaDkAsk
namespace Go.Proofs.Ytcgdlmlolmfinaa
open Go.RowKit Go.MapKept

def isS (K : List UInt8) (n : Int) : Bool := decide (0 ≤ n) && decide (64 * n + 64 ≤ K.length)
theorem isS_in {K : List UInt8} {n : Int} (h : isS K n = true) : secIn K n := by simpa [isS, secIn] using h
section
variable {w w' : World} {base R M : Nat} {F S : List Nat} {kv wv : Value} {Wv : List (Int × Value × List UInt8)} {Qv : List RV} {s s' : DS}
theorem DkAt.keptForm (h : DkAt w base R M F kv wv Wv Qv s) : ∃ g cap, kv = .slice (some ⟨g, 0, none⟩) s.K.length cap ∧ base ≤ g ∧ g < w.heap.size ∧ s.K.length ≤ cap ∧ cap ≤ maxLen := own_form h.kept (by have := h.size.1; omega)
set_option maxHeartbeats 400000 in
theorem Sectors_g (h : DkG w base R F s) : Calls Try.prog 22 #[.pointer (some ⟨R, 0, none⟩)] w fun e w' => e = .returned (.int .i64 (s.K.length / 64 : Nat)) ∧ w = w' := by
  obtain ⟨M, kv, wv, Wv, Qv, h⟩ := h
  obtain ⟨g, cap, rfl, _, _, hc, hm⟩ := h.keptForm
  have c0 : w.cell? ⟨R, 0, none⟩ = some (.slice (some ⟨g, 0, none⟩) s.K.length cap) := by rw [h.head.cell]; rfl
  obtain ⟨m, hmm⟩ : ∃ m, s.K.length / 64 = m := ⟨_, rfl⟩
  rw [hmm]
  have q1 : ((s.K.length : Nat) : Int).tdiv 64 = (m : Int) := by rw [Int.tdiv_eq_ediv_of_nonneg (by omega)]; omega
  have hm2 : m ≤ 4096 := by have := h.size.2.2; omega
  clear h hm hmm
  go_enter Try.func22, Try.ntmps22
  go_wp2
  go_ret
  exact ⟨rfl, rfl⟩
set_option maxHeartbeats 400000 in
theorem is_g (h : DkG w base R F s) (n : Int) : Calls Try.prog 64 #[.pointer (some ⟨R, 0, none⟩), .int .i64 n] w fun e w' => e = .returned (.bool (isS s.K n)) ∧ w = w' := by
  have HS := Lib.hid (Sectors_g h)
  obtain ⟨M, kv, wv, Wv, Qv, h⟩ := h
  have hz := h.size
  by_cases h0 : 0 ≤ n
  · have hx : Hid (isS s.K n = decide (n < ((s.K.length / 64 : Nat) : Int))) := Lib.hid (by
      unfold isS
      rw [decide_eq_true h0, Bool.true_and]
      exact decide_eq_decide.2 (by omega))
    clear h hz
    generalize s.K.length / 64 = m at hx HS
    go_enter Try.func64, Try.ntmps64
    go_wp2_with (go_at_call 22; refine HS.out.mono ?_; rintro e w' ⟨rfl, rfl⟩)
    go_ret
    exact ⟨by rw [hx.out]; rfl, rfl⟩
  · have hx : Hid (isS s.K n = false) := Lib.hid (by unfold isS; rw [decide_eq_false h0]; rfl)
    have h0' : n < 0 := by omega
    clear h hz h0
    go_enter Try.func64, Try.ntmps64
    go_wp2_with fail
    go_ret
    exact ⟨by rw [hx.out]; rfl, rfl⟩
def AskP (w : World) (base R : Nat) (F : List Nat) (A : Int × Int × DS) (e : Ending) (w' : World) : Prop :=
  e = .returned (.tuple #[.int .i64 A.1, .int .i64 A.2.1]) ∧ ∃ F', DkG w' base R F' A.2.2 ∧ Left F w w' ∧ ∀ k ∈ F', k ∈ F ∨ w.heap.size ≤ k
set_option maxHeartbeats 1000000 in
theorem Write_g (h : DkG w base R F s) (hz : base ≤ w.heap.size) (n : Int) {bv : Value} {b : List UInt8} (hb : ∀ w', Left F w w' → Rd w' w'.heap.size 1 bv b.length (u8s b)) (hbl : b.length ≤ 1000000) (hlast : 0 ≤ s.last ∧ s.last ≤ 1000000000) :
    Calls Try.prog 53 #[.pointer (some ⟨R, 0, none⟩), .int .i64 n, bv] w (AskP w base R F (askS s 1 n b (isS s.K n && b.length == 64))) := by
  have HI := Lib.hid (is_g h n)
  have HASK := fun good hg => ask_g h hz 1 n hb good hg hbl hlast
  obtain ⟨bo, bc, rfl, hbc, hbm⟩ := (hb w (Left.refl _ _)).form
  have hbm2 : bc ≤ 9223372036854775807 := by unfold maxLen at hbm; omega
  cases hi : isS s.K n
  · have HA := Lib.hid (HASK false (fun h => by cases h))
    have HI' := Lib.hid hi
    rw [Bool.false_and]
    clear h hb hbm HASK hi
    go_enter Try.func53, Try.ntmps53
    go_wp2_with (go_at_call 64; refine HI.out.mono ?_; rintro e w' ⟨rfl, rfl⟩; rw [HI'.out])
    refine HA.out.mono ?_
    rintro e w1 ⟨rfl, hF⟩
    have HF := Lib.hid hF
    clear hF
    go_wp2
    go_ret2
    exact ⟨rfl, HF.out⟩
  · by_cases h64 : b.length = 64
    · have HA := Lib.hid (HASK true (fun _ id => .inr (.inl ⟨rfl, isS_in hi, h64⟩)))
      have HI' := Lib.hid hi
      have hl : ((b.length : Int) == 64) = true := by simp [h64]
      rw [show (true && b.length == 64) = true by simp [h64]]
      clear h hb hbm HASK hi h64
      go_enter Try.func53, Try.ntmps53
      go_wp2_with (go_at_call 64; refine HI.out.mono ?_; rintro e w' ⟨rfl, rfl⟩; rw [HI'.out])
      refine HA.out.mono ?_
      rintro e w1 ⟨rfl, hF⟩
      have HF := Lib.hid hF
      clear hF
      go_wp2
      go_ret2
      exact ⟨rfl, HF.out⟩
    · have HA := Lib.hid (HASK false (fun h => by cases h))
      have HI' := Lib.hid hi
      have hl : ((b.length : Int) == 64) = false := beq_eq_false_iff_ne.2 (by omega)
      rw [show (true && b.length == 64) = false by simp [h64]]
      clear h hb hbm HASK hi h64
      go_enter Try.func53, Try.ntmps53
      go_wp2_with (go_at_call 64; refine HI.out.mono ?_; rintro e w' ⟨rfl, rfl⟩; rw [HI'.out])
      refine HA.out.mono ?_
      rintro e w1 ⟨rfl, hF⟩
      have HF := Lib.hid hF
      clear hF
      go_wp2
      go_ret2
      exact ⟨rfl, HF.out⟩
set_option maxHeartbeats 1000000 in
theorem Read_g (h : DkG w base R F s) (hz : base ≤ w.heap.size) (n : Int) (hlast : 0 ≤ s.last ∧ s.last ≤ 1000000000) :
    Calls Try.prog 61 #[.pointer (some ⟨R, 0, none⟩), .int .i64 n] w (AskP w base R F (askS s 0 n [] (isS s.K n))) := by
  have HI := Lib.hid (is_g h n)
  have HA := Lib.hid (ask_g h hz 0 n (b := []) (fun w' _ => show Rd w' w'.heap.size 1 (.slice none 0 0) ([] : List UInt8).length (u8s []) from Rd.nil_ w' _ 1) (isS s.K n) (fun hi id => .inl ⟨rfl, isS_in hi⟩) (by simp) hlast)
  clear h
  go_enter Try.func61, Try.ntmps61
  go_wp2_with (go_at_call 64; refine HI.out.mono ?_; rintro e w' ⟨rfl, rfl⟩)
  refine HA.out.mono ?_
  rintro e w1 ⟨rfl, hF⟩
  have HF := Lib.hid hF
  clear hF
  go_wp2
  go_ret2
  exact ⟨rfl, HF.out⟩
set_option maxHeartbeats 1000000 in
theorem Flush_g (h : DkG w base R F s) (hz : base ≤ w.heap.size) (hlast : 0 ≤ s.last ∧ s.last ≤ 1000000000) :
    Calls Try.prog 45 #[.pointer (some ⟨R, 0, none⟩)] w (AskP w base R F (askS s 2 0 [] true)) := by
  have HA := Lib.hid (ask_g h hz 2 0 (b := []) (fun w' _ => show Rd w' w'.heap.size 1 (.slice none 0 0) ([] : List UInt8).length (u8s []) from Rd.nil_ w' _ 1) true (fun _ id => .inr (.inr rfl)) (by simp) hlast)
  clear h
  go_enter Try.func45, Try.ntmps45
  go_wp2_with fail
  refine HA.out.mono ?_
  rintro e w1 ⟨rfl, hF⟩
  have HF := Lib.hid hF
  clear hF
  go_wp2
  go_ret2
  exact ⟨rfl, HF.out⟩
def offS (s : DS) (n : Int) : DS := { s with armed := true, lft := n, off := if n < 1 then true else s.off }
set_option maxHeartbeats 1000000 in
theorem Off_g (h : DkG w base R F s) (n : Int) (hn : n ≤ 9223372036854775807) :
    Calls Try.prog 20 #[.pointer (some ⟨R, 0, none⟩), .int .i64 n] w fun e w' => e = .returned (.tuple #[]) ∧ DkG w' base R F (offS s n) ∧ Left F w w' := by
  obtain ⟨M, kv, wv, Wv, Qv, h⟩ := h
  have hRF := h.blk.1
  have hW := h.head
  have c4 : w.cell? ⟨R, 4, none⟩ = some (.bool s.off) := by rw [hW.cell]; rfl
  have c5 : w.cell? ⟨R, 5, none⟩ = some (.int .i64 s.lft) := by rw [hW.cell]; rfl
  have c6 : w.cell? ⟨R, 6, none⟩ = some (.bool s.armed) := by rw [hW.cell]; rfl
  have f4 := hW.free 4
  have f5 := hW.free 5
  have f6 := hW.free 6
  have HD := Lib.hid h
  have HW := Lib.hid hW
  clear h hW
  by_cases h1 : n < 1
  · have hE : ∀ w', w' = (((w.setCell ⟨R, 6, none⟩ (.bool true)).setCell ⟨R, 5, none⟩ (.int .i64 n)).setCell ⟨R, 4, none⟩ (.bool true)) → DkG w' base R F (offS s n) ∧ Left F w w' := by
      rintro w' rfl
      have hl : Left [R] w (((w.setCell ⟨R, 6, none⟩ (.bool true)).setCell ⟨R, 5, none⟩ (.int .i64 n)).setCell ⟨R, 4, none⟩ (.bool true)) := (((Left.refl _ _).setCell (Or.inl (by simp)) _).setCell (Or.inl (by simp)) _).setCell (Or.inl (by simp)) _
      refine ⟨⟨M, _, _, _, _, HD.out.head_ hl ⟨rfl, rfl, rfl⟩ ?_ (fun _ h0 => ?_)⟩, hl.mono (by simpa using hRF)⟩
      · have := ((HW.out.put 6 (.bool true)).put 5 (.int .i64 n)).put 4 (.bool true)
        simpa [offS, h1] using this
      · simp [offS, h1] at h0
    have HE := Lib.hid hE
    clear hE
    go_enter Try.func20, Try.ntmps20
    go_wp2
    go_end0
    exact ⟨rfl, HE.out _ rfl⟩
  · have hE : ∀ w', w' = ((w.setCell ⟨R, 6, none⟩ (.bool true)).setCell ⟨R, 5, none⟩ (.int .i64 n)) → DkG w' base R F (offS s n) ∧ Left F w w' := by
      rintro w' rfl
      have hl : Left [R] w ((w.setCell ⟨R, 6, none⟩ (.bool true)).setCell ⟨R, 5, none⟩ (.int .i64 n)) := ((Left.refl _ _).setCell (Or.inl (by simp)) _).setCell (Or.inl (by simp)) _
      refine ⟨⟨M, _, _, _, _, HD.out.head_ hl ⟨rfl, rfl, rfl⟩ ?_ (fun _ h0 => ?_)⟩, hl.mono (by simpa using hRF)⟩
      · have := ((HW.out.put 6 (.bool true)).put 5 (.int .i64 n))
        simpa [offS, h1] using this
      · simp only [offS]
        omega
    have HE := Lib.hid hE
    clear hE
    go_enter Try.func20, Try.ntmps20
    go_wp2
    go_end0
    exact ⟨rfl, HE.out _ rfl⟩
end
end Go.Proofs.Ytcgdlmlolmfinaa
