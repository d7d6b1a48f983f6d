/- The log: load. -/



import Derived.Test.YtcgdlmlolmfinaaLgRcd
import Derived.Test.YtcgdlmlolmfinaaLgGen
import Derived.Test.YtcgdlmlolmfinaaLgAp
import Derived.Test.YtcgdlmlolmfinaaDrawK
namespace Go.Proofs.Ytcgdlmlolmfinaa
open Go.RowKit
/-- Behind the records: cleaned and flushed. -/
def openE (region : Nat) (gen : Int) (r : Int × Nat × List (List UInt8) × Nat × DS) : Int × LS :=
  if r.1 ≠ 0 then (r.1, ⟨r.2.2.2.2, r.2.2.1, r.2.2.2.1, region, gen, r.2.1, false⟩)
  else
    let c := cleanS r.2.2.2.2 region r.2.1
    if c.1 ≠ 0 then (c.1, ⟨c.2, r.2.2.1, r.2.2.2.1, region, gen, r.2.1, false⟩)
    else ((flS c.2).1, ⟨(flS c.2).2, r.2.2.1, r.2.2.2.1, region, gen, r.2.1, false⟩)
theorem open_e (cb : List UInt8 → List UInt8) (s : DS) (h1 : (genS s 0).2.1 = 0) (h2 : (genS (genS s 0).2.2 1).2.1 = 0) : openS cb s =
    if (genS s 0).1 < (genS (genS s 0).2.2 1).1 then openE 1 (genS (genS s 0).2.2 1).1 (loadD cb 1 2049 (genS (genS s 0).2.2 1).2.2 1 [] 0)
    else openE 0 (genS s 0).1 (loadD cb 0 2049 (genS (genS s 0).2.2 1).2.2 1 [] 0) := by
  unfold openS
  simp only [h1, h2, ne_eq, not_true_eq_false, if_false]
  split <;> rfl
/-- A pass of load. -/
structure LdI (w : World) (base R RD : Nat) (F : List Nat) (s : DS) (reg : Nat) (gen : Int) (FIN : Int × Nat × List (List UInt8) × Nat × DS) (f at_ : Nat) (l : List (List UInt8)) (size : Nat) (s' : DS) (F' : List Nat) (lv' : Value) (wr : World) : Prop where
  la : LgAt wr base R RD F' lv' ⟨s', l, size, reg, gen, at_, false⟩
  on : On s'
  lf : Left (R :: F) w wr
  fF : ∀ x ∈ F', x ∈ F ∨ w.heap.size ≤ x
  fl : ∀ k, lv'.ownBlock = some k → w.heap.size ≤ k
  e : loadD cbL reg f s' at_ l size = FIN
  t : s.last ≤ s'.last ∧ s'.last ≤ s.last + 2 + 2049 * ((2049 - f : Nat) : Int)
  fb : 2050 ≤ f + at_ ∧ f ≤ 2049
  ab : 1 ≤ at_ ∧ at_ ≤ 2048
  ll : l.length + 1 ≤ at_
  sz : size ≤ 70000 * l.length
def LdR (w : World) (base R RD : Nat) (F : List Nat) (L' : LS) (w' : World) : Prop := ∃ F' lv', LgAt w' base R RD F' lv' L' ∧ Left (R :: F) w w' ∧ (∀ x ∈ F', x ∈ F ∨ w.heap.size ≤ x) ∧ ∀ k, lv'.ownBlock = some k → w.heap.size ≤ k
section
variable {w w' w1 : World} {base R RD : Nat} {F F1 : List Nat} {s s1 s' : DS}
/-- The disk went on, behind what was done. -/
theorem LgAt.go {wr w2 : World} {F' : List Nat} {lv' : Value} {L' : LS} {s2 : DS} (h : LgAt wr base R RD F' lv' L') (hl : Left (R :: F) w wr) (hf : ∀ x ∈ F', x ∈ F ∨ w.heap.size ≤ x) (hfl : ∀ k, lv'.ownBlock = some k → w.heap.size ≤ k) (hz : base ≤ wr.heap.size) (hP : DkP wr base RD F' s2 w2) :
    ∃ F2, LgAt w2 base R RD F2 lv' { L' with d := s2 } ∧ Left (R :: F) w w2 ∧ ∀ x ∈ F2, x ∈ F ∨ w.heap.size ≤ x := by
  obtain ⟨F2, h2, hl2, hf2⟩ := h.disk_ hz hP
  refine ⟨F2, h2, hl.trans hl2 (fun k hk => ?_), fun x hx => ?_⟩
  · rcases hf k hk with h1 | h1
    · exact .inl (by simp [h1])
    · exact .inr h1
  · rcases hf2 x hx with h1 | h1
    · exact hf x h1
    · have := hl.size; exact .inr (by omega)
set_option maxRecDepth 20000 in
set_option maxHeartbeats 8000000 in
theorem lload (h : LgAt w base R RD F (.slice none 0 0) ⟨s, [], 0, 0, 0, 1, false⟩) (hz : base ≤ w.heap.size) (hon : On s) (hlast : 0 ≤ s.last ∧ s.last ≤ 800000000) :
    Calls Try.prog 23 #[.pointer (some ⟨R, 0, none⟩)] w fun e w' => e = .returned (.int .i64 (openS cbL s).1) ∧ LdR w base R RD F (openS cbL s).2 w' := by
  have c0 : w.cell? ⟨R, 0, none⟩ = some (.pointer (some ⟨RD, 0, none⟩)) := by rw [h.head.cell]; rfl
  have HG : Hid (Calls Try.prog 35 #[.pointer (some ⟨R, 0, none⟩), .int .i64 0] w fun e w' => e = .returned (.tuple #[.int .i64 (genS s 0).1, .int .i64 (genS s 0).2.1]) ∧ DkP w base RD F (genS s 0).2.2 w') := Lib.hid (lgen (s := s) c0 h.disk h.sepR hz hon 0 (by omega) (by omega))
  have H := Lib.hid h
  have HZ := Lib.hid hz
  have HL := Lib.hid hlast
  have hgo := gen_out hon 0 (by omega)
  clear h hz hlast hon c0
  rcases hgo with ⟨s1, e, hW1⟩ | ⟨s1, e, _⟩
  · obtain ⟨g0, hg0⟩ : ∃ g, genV (secE s (0 * 2048)) = g := ⟨_, rfl⟩
    rw [hg0] at e
    rw [e] at HG
    have HE1 := Lib.hid e
    have HT1 := Lib.hid hW1.last
    have HON1 := Lib.hid hW1.on
    clear hg0 e hW1
    go_enter Try.func23, Try.ntmps23
    go_wp2_with fail
    refine HG.out.mono ?_
    rintro e w1 ⟨rfl, hP⟩
    obtain ⟨F1, h1, hl1, hf1⟩ := H.out.go (w := w) (Left.refl _ _) (fun x hx => .inl hx) (fun k hk => by cases hk) HZ.out hP
    have h1 : LgAt w1 base R RD F1 (.slice none 0 0) ⟨s1, [], 0, 0, 0, 1, false⟩ := h1
    have c1 : w1.cell? ⟨R, 0, none⟩ = some (.pointer (some ⟨RD, 0, none⟩)) := by rw [h1.head.cell]; rfl
    have HG2 : Hid (Calls Try.prog 35 #[.pointer (some ⟨R, 0, none⟩), .int .i64 1] w1 fun e w' => e = .returned (.tuple #[.int .i64 (genS s1 1).1, .int .i64 (genS s1 1).2.1]) ∧ DkP w1 base RD F1 (genS s1 1).2.2 w') := Lib.hid (lgen (s := s1) c1 h1.disk h1.sepR (by have := hl1.size; have := HZ.out; omega) HON1.out 1 (by omega) (by have := HT1.out; have := HL.out; omega))
    have hgo := gen_out HON1.out 1 (by omega)
    have H1 := Lib.hid (And.intro h1 (And.intro hl1 hf1))
    clear h1 hl1 hf1 hP c1
    rcases hgo with ⟨s2, e, hW2⟩ | ⟨s2, e, _⟩
    · obtain ⟨g1, hg1⟩ : ∃ g, genV (secE s1 (1 * 2048)) = g := ⟨_, rfl⟩
      rw [hg1] at e
      rw [e] at HG2
      have HO : Hid (openS cbL s = if g0 < g1 then openE 1 g1 (loadD cbL 1 2049 s2 1 [] 0) else openE 0 g0 (loadD cbL 0 2049 s2 1 [] 0)) := Lib.hid (by
        have h5 := open_e cbL s (by rw [HE1.out]) (by rw [HE1.out, e])
        rw [HE1.out, e] at h5
        exact h5)
      have HT2 := Lib.hid hW2.last
      have HON2 := Lib.hid hW2.on
      clear hg1 e hW2
      go_wp2_with fail
      refine HG2.out.mono ?_
      rintro e w2 ⟨rfl, hP⟩
      obtain ⟨F2, h2, hl2, hf2⟩ := H1.out.1.go H1.out.2.1 H1.out.2.2 (fun k hk => by cases hk) (by have := H1.out.2.1.size; have := HZ.out; omega) hP
      have h2 : LgAt w2 base R RD F2 (.slice none 0 0) ⟨s2, [], 0, 0, 0, 1, false⟩ := h2
      have c3 : w2.cell? ⟨R, 3, none⟩ = some (.int .i64 0) := by rw [h2.head.cell]; rfl
      have c4 : w2.cell? ⟨R, 4, none⟩ = some (.int .i64 0) := by rw [h2.head.cell]; rfl
      have f3 := h2.head.free 3
      have f4 := h2.head.free 4
      have H2 := Lib.hid (And.intro h2 (And.intro hl2 hf2))
      clear h2 hl2 hf2 hP
      go_upto_if 32 with fail
      go_cut [32] (fun _ wx => ∃ (reg : Nat) (gen : Int), reg ≤ 1 ∧ Hid (LgAt wx base R RD F2 (.slice none 0 0) ⟨s2, [], 0, reg, gen, 1, false⟩ ∧ Left (R :: F) w wx ∧ openS cbL s = openE reg gen (loadD cbL reg 2049 s2 1 [] 0)))
      case first =>
        by_cases hlt : g0 < g1
        · have HO2 : Hid (openS cbL s = openE 1 g1 (loadD cbL 1 2049 s2 1 [] 0)) := Lib.hid (by rw [HO.out, if_pos hlt])
          go_wp2
          go_meet
          refine ⟨1, g1, by omega, Lib.hid ⟨?_, ?_, HO2.out⟩⟩
          · refine H2.out.1.head_ (L' := ⟨s2, [], 0, 1, g1, 1, false⟩) ?_ rfl rfl ?_
            · exact (((Left.refl [R] w2).setCell (Or.inl (by simp)) _).setCell (Or.inl (by simp)) _).setCell (Or.inl (by simp)) _
            · exact ((H2.out.1.head.put 4 (.int .i64 g0)).put 3 (.int .i64 1)).put 4 (.int .i64 g1)
          · exact ((H2.out.2.1.setCell (Or.inl (by simp)) _).setCell (Or.inl (by simp)) _).setCell (Or.inl (by simp)) _
        · have HO2 : Hid (openS cbL s = openE 0 g0 (loadD cbL 0 2049 s2 1 [] 0)) := Lib.hid (by rw [HO.out, if_neg hlt])
          go_wp2
          go_meet
          refine ⟨0, g0, by omega, Lib.hid ⟨?_, ?_, HO2.out⟩⟩
          · refine H2.out.1.head_ (L' := ⟨s2, [], 0, 0, g0, 1, false⟩) ?_ rfl rfl ?_
            · exact (Left.refl [R] w2).setCell (Or.inl (by simp)) _
            · exact H2.out.1.head.put 4 (.int .i64 g0)
          · exact H2.out.2.1.setCell (Or.inl (by simp)) _
      case rest =>
        obtain ⟨reg, gen, hreg, HC⟩ := hcut
        obtain ⟨FIN, hFIN⟩ : ∃ X, loadD cbL reg 2049 s2 1 [] 0 = X := ⟨_, rfl⟩
        have HO3 : Hid (openS cbL s = openE reg gen FIN) := Lib.hid (by rw [HC.out.2.2, hFIN])
        have HI0 : Hid (LdI w base R RD F s reg gen FIN 2049 1 [] 0 s2 F2 (.slice none 0 0) wc) := Lib.hid ⟨HC.out.1, HON2.out, HC.out.2.1, H2.out.2.2, (fun k hk => by cases hk), hFIN, by have := HT1.out; have := HT2.out; omega, by omega, by omega, by simp, by simp⟩
        clear hFIN c3 c4 f3 f4
        refine (by assumption : ∀ (a : Act) (w : World), Code.wp _ _ _ a w → _) _ _ ?_
        go_wp2_with fail
        go_loopw [6, 7, 8] (fun _ _ _ wr => ∃ (f at_ : Nat) (l : List (List UInt8)) (size : Nat) (s' : DS) (F' : List Nat) (lv' : Value), at_ ≤ 2048 ∧ Hid (LdI w base R RD F s reg gen FIN f at_ l size s' F' lv' wr)) (fun _ _ _ wr => 4096 - (intOf ((wr.cell? ⟨R, 5, none⟩).getD undef)).toNat)
        case atStart => exact ⟨2049, 1, [], 0, s2, F2, _, by omega, HI0⟩
        case round =>
          obtain ⟨f, at_, l, size, s', F', lv', hat, HI⟩ := hrel
          obtain ⟨vo, vc, rfl, _, _⟩ := (Rd.of_own HI.out.la.list).form
          have hfb := HI.out.fb
          obtain ⟨f', rfl⟩ : ∃ f', f = f' + 1 := ⟨f - 1, by omega⟩
          have c0 : wr.cell? ⟨R, 0, none⟩ = some (.pointer (some ⟨RD, 0, none⟩)) := by rw [HI.out.la.head.cell]; rfl
          have c3 : wr.cell? ⟨R, 3, none⟩ = some (.int .i64 reg) := by rw [HI.out.la.head.cell]; rfl
          have c5 : wr.cell? ⟨R, 5, none⟩ = some (.int .i64 at_) := by rw [HI.out.la.head.cell]; rfl
          have hbw : base ≤ wr.heap.size := by have := HI.out.lf.size; have := HZ.out; omega
          have HR := Lib.hid (lrecord (s := s') c0 reg c3 HI.out.la.disk HI.out.la.sepR hbw HI.out.on at_ hreg hat (by have := HI.out.t; have := HL.out; omega))
          have hro := recS_out (cb := cbL) HI.out.on reg at_ hreg
          have hE := HI.out.e
          rw [loadD] at hE
          have HE := Lib.hid hE
          have HBW := Lib.hid hbw
          have HFB := Lib.hid hfb
          clear hE hbw hfb
          rcases hro with ⟨s3, e, hW3⟩ | ⟨s3, e, _⟩
          · have HT3 := Lib.hid hW3.last
            have HON3 := Lib.hid hW3.on
            rw [e] at HE HR
            clear e hW3
            cases hre : recE cbL (fun k => secE s' (reg * 2048 + k)) at_ with
            | none =>
              rw [hre] at HE HR
              have HR2 : Hid (Calls Try.prog 36 #[.pointer (some ⟨R, 0, none⟩), .int .i64 at_] wr fun e w' => e = .returned (.tuple #[.string ⟨#[]⟩, .int .i64 0, .int .i64 0]) ∧ DkP wr base RD F' s3 w') := Lib.hid HR.out
              have HE2 : Hid ((0, at_, l, size, s3) = FIN) := Lib.hid (by have := HE.out; simpa [recR] using this)
              clear hre HR HE
              go_wp2_with fail
              refine HR2.out.mono ?_
              rintro e w3 ⟨rfl, hP⟩
              obtain ⟨F3, h3, hl3, hf3⟩ := HI.out.la.go HI.out.lf HI.out.fF HI.out.fl HBW.out hP
              have h3 : LgAt w3 base R RD F3 (.slice vo l.length vc) ⟨s3, l, size, reg, gen, at_, false⟩ := h3
              have d0 : w3.cell? ⟨R, 0, none⟩ = some (.pointer (some ⟨RD, 0, none⟩)) := by rw [h3.head.cell]; rfl
              have d3 : w3.cell? ⟨R, 3, none⟩ = some (.int .i64 reg) := by rw [h3.head.cell]; rfl
              have d5 : w3.cell? ⟨R, 5, none⟩ = some (.int .i64 at_) := by rw [h3.head.cell]; rfl
              have HCL := Lib.hid (lclean (w := w3.drew) (s := s3) d0 (h3.disk.left0 (Left.refl [] w3).drew) h3.sepR (by have := hl3.size; have := HZ.out; simp; omega) reg at_ hreg hat (by have := HT3.out; have := HI.out.t; have := HL.out; omega))
              have hco := clean_out (reg * 2048) (2048 - at_) s3 at_ false HON3.out (by omega)
              have H3 := Lib.hid (And.intro h3 (And.intro hl3 hf3))
              clear h3 hl3 hf3 hP c0 c3 c5
              go_upto_region 15 with fail
              refine wp_region_held_drew (S := fun wx => wx.cell? ⟨R, 3, none⟩ = some (.int .i64 reg) ∧ wx.cell? ⟨R, 5, none⟩ = some (.int .i64 at_)) (by kernel_rfl) ⟨d3, d5⟩ (fun hHeld => ?_)
              refine take_h 0 ⟨?_, ?_, ?_, by kernel_rfl, by kernel_rfl, by kernel_rfl, ?_, ?_, by assumption, ?_⟩
              rotate_left 2
              · (simp only [List.getElem?_toArray, List.getElem?_cons_zero]; exact rfl)
              · exact fun _ _ _ h => h
              · first
                  | (refine Or.inr ⟨by rfl, ?_⟩; exact rfl)
                  | (refine Or.inl ⟨by rfl, ?_⟩
                     intro w hSw
                     (try dsimp only at hSw)
                     (try go_split_ands)
                     go_simp
                     (first | done | with_reducible rfl))
              try simp only [Act.put, List.setIfInBounds_toArray, List.set_cons_zero, List.set_cons_succ]
              refine take_h 1 ⟨?_, ?_, ?_, by kernel_rfl, by kernel_rfl, by kernel_rfl, ?_, ?_, by assumption, ?_⟩
              rotate_left 2
              · (simp only [List.getElem?_toArray, List.getElem?_cons_succ, List.getElem?_cons_zero]; exact rfl)
              · exact fun _ _ _ h => h
              · first
                  | (refine Or.inr ⟨by rfl, ?_⟩; exact rfl)
                  | (refine Or.inl ⟨by rfl, ?_⟩
                     intro w hSw
                     (try dsimp only at hSw)
                     (try go_split_ands)
                     go_simp
                     (first | done | with_reducible rfl))
              try simp only [Act.put, List.setIfInBounds_toArray, List.set_cons_zero, List.set_cons_succ]
              refine take_h 2 ⟨?_, ?_, ?_, by kernel_rfl, by kernel_rfl, by kernel_rfl, ?_, ?_, by assumption, ?_⟩
              rotate_left 2
              · (simp only [List.getElem?_toArray, List.getElem?_cons_succ, List.getElem?_cons_zero]; exact rfl)
              · exact fun _ _ _ h => h
              · first
                  | (refine Or.inr ⟨by rfl, ?_⟩; exact rfl)
                  | (refine Or.inl ⟨by rfl, ?_⟩
                     intro w hSw
                     (try dsimp only at hSw)
                     (try go_split_ands)
                     go_simp
                     (first | done | with_reducible rfl))
              try simp only [Act.put, List.setIfInBounds_toArray, List.set_cons_zero, List.set_cons_succ]
              refine take_h 3 ⟨?_, ?_, ?_, by kernel_rfl, by kernel_rfl, by kernel_rfl, ?_, ?_, by assumption, ?_⟩
              rotate_left 2
              · (simp only [List.getElem?_toArray, List.getElem?_cons_succ, List.getElem?_cons_zero]; exact rfl)
              · exact fun _ _ _ h => h
              · first
                  | (refine Or.inr ⟨by rfl, ?_⟩; exact rfl)
                  | (refine Or.inl ⟨by rfl, ?_⟩
                     intro w hSw
                     (try dsimp only at hSw)
                     (try go_split_ands)
                     go_simp
                     (first | done | with_reducible rfl))
              try simp only [Act.put, List.setIfInBounds_toArray, List.set_cons_zero, List.set_cons_succ]
              refine take_h 4 ⟨?_, ?_, ?_, by kernel_rfl, by kernel_rfl, by kernel_rfl, ?_, ?_, by assumption, ?_⟩
              rotate_left 2
              · (simp only [List.getElem?_toArray, List.getElem?_cons_succ, List.getElem?_cons_zero]; exact rfl)
              · exact fun _ _ _ h => h
              · first
                  | (refine Or.inr ⟨by rfl, ?_⟩; exact rfl)
                  | (refine Or.inl ⟨by rfl, ?_⟩
                     intro w hSw
                     (try dsimp only at hSw)
                     (try go_split_ands)
                     go_simp
                     (first | done | with_reducible rfl))
              try simp only [Act.put, List.setIfInBounds_toArray, List.set_cons_zero, List.set_cons_succ]
              refine take_h 5 ⟨?_, ?_, ?_, by kernel_rfl, by kernel_rfl, by kernel_rfl, ?_, ?_, by assumption, ?_⟩
              rotate_left 2
              · (simp only [List.getElem?_toArray, List.getElem?_cons_succ, List.getElem?_cons_zero]; exact rfl)
              · exact fun _ _ _ h => h
              · first
                  | (refine Or.inr ⟨by rfl, ?_⟩; exact rfl)
                  | (refine Or.inl ⟨by rfl, ?_⟩
                     intro w hSw
                     (try dsimp only at hSw)
                     (try go_split_ands)
                     go_simp
                     (first | done | with_reducible rfl))
              try simp only [Act.put, List.setIfInBounds_toArray, List.set_cons_zero, List.set_cons_succ]
              refine take_h 6 ⟨?_, ?_, ?_, by kernel_rfl, by kernel_rfl, by kernel_rfl, ?_, ?_, by assumption, ?_⟩
              rotate_left 2
              · (simp only [List.getElem?_toArray, List.getElem?_cons_succ, List.getElem?_cons_zero]; exact rfl)
              · exact fun _ _ _ h => h
              · first
                  | (refine Or.inr ⟨by rfl, ?_⟩; exact rfl)
                  | (refine Or.inl ⟨by rfl, ?_⟩
                     intro w hSw
                     (try dsimp only at hSw)
                     (try go_split_ands)
                     go_simp
                     (first | done | with_reducible rfl))
              try simp only [Act.put, List.setIfInBounds_toArray, List.set_cons_zero, List.set_cons_succ]
              refine take_h 7 ⟨?_, ?_, ?_, by kernel_rfl, by kernel_rfl, by kernel_rfl, ?_, ?_, by assumption, ?_⟩
              rotate_left 2
              · (simp only [List.getElem?_toArray, List.getElem?_cons_succ, List.getElem?_cons_zero]; exact rfl)
              · exact fun _ _ _ h => h
              · first
                  | (refine Or.inr ⟨by rfl, ?_⟩; exact rfl)
                  | (refine Or.inl ⟨by rfl, ?_⟩
                     intro w hSw
                     (try dsimp only at hSw)
                     (try go_split_ands)
                     go_simp
                     (first | done | with_reducible rfl))
              try simp only [Act.put, List.setIfInBounds_toArray, List.set_cons_zero, List.set_cons_succ]
              refine take_h 8 ⟨?_, ?_, ?_, by kernel_rfl, by kernel_rfl, by kernel_rfl, ?_, ?_, by assumption, ?_⟩
              rotate_left 2
              · (simp only [List.getElem?_toArray, List.getElem?_cons_succ, List.getElem?_cons_zero]; exact rfl)
              · exact fun _ _ _ h => h
              · first
                  | (refine Or.inr ⟨by rfl, ?_⟩; exact rfl)
                  | (refine Or.inl ⟨by rfl, ?_⟩
                     intro w hSw
                     (try dsimp only at hSw)
                     (try go_split_ands)
                     go_simp
                     (first | done | with_reducible rfl))
              try simp only [Act.put, List.setIfInBounds_toArray, List.set_cons_zero, List.set_cons_succ]
              refine wpAnyH_ready (rs := [9]) (by kernel_rfl) (by simp) ?_
              refine call_h 9 ⟨?_, ?_, fun K hK => ?_⟩
              rotate_left 1
              · (simp only [List.getElem?_toArray, List.getElem?_cons_succ, List.getElem?_cons_zero]; exact rfl)
              go_simp
              (go_at_call 37; refine HCL.out.mono ?_; rintro e w4 ⟨rfl, hP⟩)
              go_wp2_with fail
              obtain ⟨F4, h4, hl4, hf4⟩ := (H3.out.1.left0 (Left.refl [] w3).drew).go (w := w) H3.out.2.1.drew H3.out.2.2 HI.out.fl (by have := H3.out.2.1.size; have := HZ.out; simp; omega) hP
              have h4 : LgAt w4 base R RD F4 (.slice vo l.length vc) ⟨(cleanS s3 reg at_).2, l, size, reg, gen, at_, false⟩ := h4
              have d0 : w4.cell? ⟨R, 0, none⟩ = some (.pointer (some ⟨RD, 0, none⟩)) := by rw [h4.head.cell]; rfl
              have d3 : w4.cell? ⟨R, 3, none⟩ = some (.int .i64 reg) := by rw [h4.head.cell]; rfl
              have d5 : w4.cell? ⟨R, 5, none⟩ = some (.int .i64 at_) := by rw [h4.head.cell]; rfl
              have H4 := Lib.hid (And.intro h4 (And.intro hl4 hf4))
              clear h4 hl4 hf4 hP
              refine hK.out _ _ ⟨d3, d5⟩ (fun hHeld => ?_)
              clear hK K
              (try simp only [Act.put, List.setIfInBounds_toArray, List.set_cons_zero, List.set_cons_succ])
              refine take_h 10 ⟨?_, ?_, ?_, by kernel_rfl, by kernel_rfl, by kernel_rfl, ?_, ?_, by assumption, ?_⟩
              rotate_left 2
              · (simp only [List.getElem?_toArray, List.getElem?_cons_succ, List.getElem?_cons_zero]; exact rfl)
              · exact fun _ _ _ h => h
              · first
                  | (refine Or.inr ⟨by rfl, ?_⟩; exact rfl)
                  | (refine Or.inl ⟨by rfl, ?_⟩
                     intro w hSw
                     (try dsimp only at hSw)
                     (try go_split_ands)
                     go_simp
                     (first | done | with_reducible rfl))
              try simp only [Act.put, List.setIfInBounds_toArray, List.set_cons_zero, List.set_cons_succ]
              refine wpAnyH_done (by kernel_rfl) ?_ _
              clear hHeld d3 d5
              rcases hco with ⟨s4, e, hW4⟩ | ⟨s4, e, _⟩
              · rw [show cleanD (reg * 2048) (2048 - at_) s3 at_ false = cleanS s3 reg at_ from rfl] at e
                have HO4 : Hid (openS cbL s = ((flS s4).1, ⟨(flS s4).2, l, size, reg, gen, at_, false⟩)) := Lib.hid (by
                  rw [HO3.out, ← HE2.out]
                  unfold openE
                  simp [e])
                rw [e] at H4 ⊢
                have HFL := Lib.hid (lflush (s := s4) d0 H4.out.1.disk H4.out.1.sepR (by have := H4.out.2.1.size; have := HZ.out; omega) (by have := hW4.last; have := HT3.out; have := HI.out.t; have := HL.out; omega))
                obtain ⟨e5, s5, h5⟩ : ∃ e5 s5, flS s4 = (e5, s5) := ⟨_, _, rfl⟩
                rw [h5] at HFL HO4
                clear e hW4 h5
                go_wp2_with fail
                refine HFL.out.mono ?_
                rintro e w5 ⟨rfl, hP⟩
                obtain ⟨F5, h5, hl5, hf5⟩ := H4.out.1.go (w := w) H4.out.2.1 H4.out.2.2 HI.out.fl (by have := H4.out.2.1.size; have := HZ.out; omega) hP
                have H5 := Lib.hid (And.intro h5 (And.intro hl5 hf5))
                clear h5 hl5 hf5 hP
                go_wp2
                go_ret
                rw [HO4.out]
                exact ⟨rfl, F5, _, H5.out.1, H5.out.2.1, H5.out.2.2, HI.out.fl⟩
              · rw [show cleanD (reg * 2048) (2048 - at_) s3 at_ false = cleanS s3 reg at_ from rfl] at e
                have HO4 : Hid (openS cbL s = (10, ⟨s4, l, size, reg, gen, at_, false⟩)) := Lib.hid (by
                  rw [HO3.out, ← HE2.out]
                  unfold openE
                  simp [e])
                rw [e] at H4 ⊢
                clear e
                go_wp2
                go_ret
                rw [HO4.out]
                exact ⟨rfl, F4, _, H4.out.1, H4.out.2.1, H4.out.2.2, HI.out.fl⟩
            | some xn =>
              obtain ⟨x, n⟩ := xn
              obtain ⟨hn0, hn1, hxl⟩ := rec_far hre
              rw [hre] at HE HR
              have HR2 : Hid (Calls Try.prog 36 #[.pointer (some ⟨R, 0, none⟩), .int .i64 at_] wr fun e w' => e = .returned (.tuple #[.string ⟨x.toArray⟩, .int .i64 n, .int .i64 0]) ∧ DkP wr base RD F' s3 w') := Lib.hid HR.out
              have HE2 : Hid (loadD cbL reg f' s3 (at_ + n) (l ++ [x]) (size + x.length + 128) = FIN) := Lib.hid (by have := HE.out; simpa [recR, show ¬ (n = 0) by omega] using this)
              have hnz : ((n : Int) == 0) = false := beq_eq_false_iff_ne.2 (by omega)
              clear hre HR HE
              go_wp2_with fail
              refine HR2.out.mono ?_
              rintro e w3 ⟨rfl, hP⟩
              obtain ⟨F3, h3, hl3, hf3⟩ := HI.out.la.go HI.out.lf HI.out.fF HI.out.fl HBW.out hP
              have h3 : LgAt w3 base R RD F3 (.slice vo l.length vc) ⟨s3, l, size, reg, gen, at_, false⟩ := h3
              have d1 : w3.cell? ⟨R, 1, none⟩ = some (.slice vo l.length vc) := by rw [h3.head.cell]; rfl
              have d2 : w3.cell? ⟨R, 2, none⟩ = some (.int .i64 size) := by rw [h3.head.cell]; rfl
              have d5 : w3.cell? ⟨R, 5, none⟩ = some (.int .i64 at_) := by rw [h3.head.cell]; rfl
              have H3 := Lib.hid (And.intro h3 (And.intro hl3 hf3))
              have hll : (size : Int) ≤ 150000000 := by have := HI.out.sz; have := HI.out.ll; omega
              clear h3 hl3 hf3 hP c0 c3 c5
              go_upto_region 14 with fail
              refine region_k 24 (S := fun wx => wx.cell? ⟨R, 1, none⟩ = some (.slice vo l.length vc) ∧ wx.cell? ⟨R, 2, none⟩ = some (.int .i64 size) ∧ wx.cell? ⟨R, 5, none⟩ = some (.int .i64 at_)) (by kernel_rfl) ⟨d1, d2, d5⟩ (fun hHeld => ?_)
              refine take_kp 0 ⟨?_, ?_, ?_, by kernel_rfl, by kernel_rfl, by kernel_rfl, ⟨by kernel_rfl, by kernel_rfl⟩, ?_, ?_, by assumption, ?_⟩
              rotate_left 2
              · (simp only [List.getElem?_toArray, List.getElem?_cons_succ, List.getElem?_cons_zero]; exact rfl)
              · exact fun _ _ _ h => h
              · first
                  | (refine Or.inr ⟨by rfl, ?_⟩; exact rfl)
                  | (refine Or.inl ⟨by rfl, ?_⟩
                     intro w hSw
                     (try dsimp only at hSw)
                     (try go_split_ands)
                     go_simp
                     (first | done | with_reducible rfl))
              try simp only [Act.put, List.setIfInBounds_toArray, List.set_cons_zero, List.set_cons_succ]
              refine take_kp 1 ⟨?_, ?_, ?_, by kernel_rfl, by kernel_rfl, by kernel_rfl, ⟨by kernel_rfl, by kernel_rfl⟩, ?_, ?_, by assumption, ?_⟩
              rotate_left 2
              · (simp only [List.getElem?_toArray, List.getElem?_cons_succ, List.getElem?_cons_zero]; exact rfl)
              · exact fun _ _ _ h => h
              · first
                  | (refine Or.inr ⟨by rfl, ?_⟩; exact rfl)
                  | (refine Or.inl ⟨by rfl, ?_⟩
                     intro w hSw
                     (try dsimp only at hSw)
                     (try go_split_ands)
                     go_simp
                     (first | done | with_reducible rfl))
              try simp only [Act.put, List.setIfInBounds_toArray, List.set_cons_zero, List.set_cons_succ]
              refine take_kp 2 ⟨?_, ?_, ?_, by kernel_rfl, by kernel_rfl, by kernel_rfl, ⟨by kernel_rfl, by kernel_rfl⟩, ?_, ?_, by assumption, ?_⟩
              rotate_left 2
              · (simp only [List.getElem?_toArray, List.getElem?_cons_succ, List.getElem?_cons_zero]; exact rfl)
              · exact fun _ _ _ h => h
              · first
                  | (refine Or.inr ⟨by rfl, ?_⟩; exact rfl)
                  | (refine Or.inl ⟨by rfl, ?_⟩
                     intro w hSw
                     (try dsimp only at hSw)
                     (try go_split_ands)
                     go_simp
                     (first | done | with_reducible rfl))
              try simp only [Act.put, List.setIfInBounds_toArray, List.set_cons_zero, List.set_cons_succ]
              refine take_kp 3 ⟨?_, ?_, ?_, by kernel_rfl, by kernel_rfl, by kernel_rfl, ⟨by kernel_rfl, by kernel_rfl⟩, ?_, ?_, by assumption, ?_⟩
              rotate_left 2
              · (simp only [List.getElem?_toArray, List.getElem?_cons_succ, List.getElem?_cons_zero]; exact rfl)
              · exact fun _ _ _ h => h
              · first
                  | (refine Or.inr ⟨by rfl, ?_⟩; exact rfl)
                  | (refine Or.inl ⟨by rfl, ?_⟩
                     intro w hSw
                     (try dsimp only at hSw)
                     (try go_split_ands)
                     go_simp
                     (first | done | with_reducible rfl))
              try simp only [Act.put, List.setIfInBounds_toArray, List.set_cons_zero, List.set_cons_succ]
              refine take_kp 4 ⟨?_, ?_, ?_, by kernel_rfl, by kernel_rfl, by kernel_rfl, ⟨by kernel_rfl, by kernel_rfl⟩, ?_, ?_, by assumption, ?_⟩
              rotate_left 2
              · (simp only [List.getElem?_toArray, List.getElem?_cons_succ, List.getElem?_cons_zero]; exact rfl)
              · exact fun _ _ _ h => h
              · first
                  | (refine Or.inr ⟨by rfl, ?_⟩; exact rfl)
                  | (refine Or.inl ⟨by rfl, ?_⟩
                     intro w hSw
                     (try dsimp only at hSw)
                     (try go_split_ands)
                     go_simp
                     (first | done | with_reducible rfl))
              try simp only [Act.put, List.setIfInBounds_toArray, List.set_cons_zero, List.set_cons_succ]
              refine take_kp 5 ⟨?_, ?_, ?_, by kernel_rfl, by kernel_rfl, by kernel_rfl, ⟨by kernel_rfl, by kernel_rfl⟩, ?_, ?_, by assumption, ?_⟩
              rotate_left 2
              · (simp only [List.getElem?_toArray, List.getElem?_cons_succ, List.getElem?_cons_zero]; exact rfl)
              · exact fun _ _ _ h => h
              · first
                  | (refine Or.inr ⟨by rfl, ?_⟩; exact rfl)
                  | (refine Or.inl ⟨by rfl, ?_⟩
                     intro w hSw
                     (try dsimp only at hSw)
                     (try go_split_ands)
                     go_simp
                     (first | done | with_reducible rfl))
              try simp only [Act.put, List.setIfInBounds_toArray, List.set_cons_zero, List.set_cons_succ]
              refine take_kl 6 ⟨?_, ?_, ?_, by kernel_rfl, by kernel_rfl, by kernel_rfl, ⟨by kernel_rfl, by kernel_rfl, by kernel_rfl⟩, ?_, ?_, by assumption, ?_⟩
              rotate_left 2
              · (simp only [List.getElem?_toArray, List.getElem?_cons_succ, List.getElem?_cons_zero]; exact rfl)
              · exact fun _ _ _ h => h
              · first
                  | (refine Or.inr ⟨by rfl, ?_⟩; exact rfl)
                  | (refine Or.inl ⟨by rfl, ?_⟩
                     intro w hSw
                     (try dsimp only at hSw)
                     (try go_split_ands)
                     go_simp
                     (first | done | with_reducible rfl))
              try simp only [Act.put, List.setIfInBounds_toArray, List.set_cons_zero, List.set_cons_succ]
              refine take_kp 7 ⟨?_, ?_, ?_, by kernel_rfl, by kernel_rfl, by kernel_rfl, ⟨by kernel_rfl, by kernel_rfl⟩, ?_, ?_, by assumption, ?_⟩
              rotate_left 2
              · (simp only [List.getElem?_toArray, List.getElem?_cons_succ, List.getElem?_cons_zero]; exact rfl)
              · exact fun _ _ _ h => h
              · first
                  | (refine Or.inr ⟨by rfl, ?_⟩; exact rfl)
                  | (refine Or.inl ⟨by rfl, ?_⟩
                     intro w hSw
                     (try dsimp only at hSw)
                     (try go_split_ands)
                     go_simp
                     (first | done | with_reducible rfl))
              try simp only [Act.put, List.setIfInBounds_toArray, List.set_cons_zero, List.set_cons_succ]
              refine take_kp 10 ⟨?_, ?_, ?_, by kernel_rfl, by kernel_rfl, by kernel_rfl, ⟨by kernel_rfl, by kernel_rfl⟩, ?_, ?_, by assumption, ?_⟩
              rotate_left 2
              · (simp only [List.getElem?_toArray, List.getElem?_cons_succ, List.getElem?_cons_zero]; exact rfl)
              · exact fun _ _ _ h => h
              · first
                  | (refine Or.inr ⟨by rfl, ?_⟩; exact rfl)
                  | (refine Or.inl ⟨by rfl, ?_⟩
                     intro w hSw
                     (try dsimp only at hSw)
                     (try go_split_ands)
                     go_simp
                     (first | done | with_reducible rfl))
              try simp only [Act.put, List.setIfInBounds_toArray, List.set_cons_zero, List.set_cons_succ]
              refine take_kp 11 ⟨?_, ?_, ?_, by kernel_rfl, by kernel_rfl, by kernel_rfl, ⟨by kernel_rfl, by kernel_rfl⟩, ?_, ?_, by assumption, ?_⟩
              rotate_left 2
              · (simp only [List.getElem?_toArray, List.getElem?_cons_succ, List.getElem?_cons_zero]; exact rfl)
              · exact fun _ _ _ h => h
              · first
                  | (refine Or.inr ⟨by rfl, ?_⟩; exact rfl)
                  | (refine Or.inl ⟨by rfl, ?_⟩
                     intro w hSw
                     (try dsimp only at hSw)
                     (try go_split_ands)
                     go_simp
                     (first | done | with_reducible rfl))
              try simp only [Act.put, List.setIfInBounds_toArray, List.set_cons_zero, List.set_cons_succ]
              refine take_kp 12 ⟨?_, ?_, ?_, by kernel_rfl, by kernel_rfl, by kernel_rfl, ⟨by kernel_rfl, by kernel_rfl⟩, ?_, ?_, by assumption, ?_⟩
              rotate_left 2
              · (simp only [List.getElem?_toArray, List.getElem?_cons_succ, List.getElem?_cons_zero]; exact rfl)
              · exact fun _ _ _ h => h
              · first
                  | (refine Or.inr ⟨by rfl, ?_⟩; exact rfl)
                  | (refine Or.inl ⟨by rfl, ?_⟩
                     intro w hSw
                     (try dsimp only at hSw)
                     (try go_split_ands)
                     go_simp
                     (first | done | with_reducible rfl))
              try simp only [Act.put, List.setIfInBounds_toArray, List.set_cons_zero, List.set_cons_succ]
              refine take_kl 13 ⟨?_, ?_, ?_, by kernel_rfl, by kernel_rfl, by kernel_rfl, ⟨by kernel_rfl, by kernel_rfl, by kernel_rfl⟩, ?_, ?_, by assumption, ?_⟩
              rotate_left 2
              · (simp only [List.getElem?_toArray, List.getElem?_cons_succ, List.getElem?_cons_zero]; exact rfl)
              · exact fun _ _ _ h => h
              · first
                  | (refine Or.inr ⟨by rfl, ?_⟩; exact rfl)
                  | (refine Or.inl ⟨by rfl, ?_⟩
                     intro w hSw
                     (try dsimp only at hSw)
                     (try go_split_ands)
                     go_simp
                     (first | done | with_reducible rfl))
              try simp only [Act.put, List.setIfInBounds_toArray, List.set_cons_zero, List.set_cons_succ]
              refine take_kp 14 ⟨?_, ?_, ?_, by kernel_rfl, by kernel_rfl, by kernel_rfl, ⟨by kernel_rfl, by kernel_rfl⟩, ?_, ?_, by assumption, ?_⟩
              rotate_left 2
              · (simp only [List.getElem?_toArray, List.getElem?_cons_succ, List.getElem?_cons_zero]; exact rfl)
              · exact fun _ _ _ h => h
              · first
                  | (refine Or.inr ⟨by rfl, ?_⟩; exact rfl)
                  | (refine Or.inl ⟨by rfl, ?_⟩
                     intro w hSw
                     (try dsimp only at hSw)
                     (try go_split_ands)
                     go_simp
                     (first | done | with_reducible rfl))
              try simp only [Act.put, List.setIfInBounds_toArray, List.set_cons_zero, List.set_cons_succ]
              refine take_kp 15 ⟨?_, ?_, ?_, by kernel_rfl, by kernel_rfl, by kernel_rfl, ⟨by kernel_rfl, by kernel_rfl⟩, ?_, ?_, by assumption, ?_⟩
              rotate_left 2
              · (simp only [List.getElem?_toArray, List.getElem?_cons_succ, List.getElem?_cons_zero]; exact rfl)
              · exact fun _ _ _ h => h
              · first
                  | (refine Or.inr ⟨by rfl, ?_⟩; exact rfl)
                  | (refine Or.inl ⟨by rfl, ?_⟩
                     intro w hSw
                     (try dsimp only at hSw)
                     (try go_split_ands)
                     go_simp
                     (first | done | with_reducible rfl))
              try simp only [Act.put, List.setIfInBounds_toArray, List.set_cons_zero, List.set_cons_succ]
              refine take_kp 16 ⟨?_, ?_, ?_, by kernel_rfl, by kernel_rfl, by kernel_rfl, ⟨by kernel_rfl, by kernel_rfl⟩, ?_, ?_, by assumption, ?_⟩
              rotate_left 2
              · (simp only [List.getElem?_toArray, List.getElem?_cons_succ, List.getElem?_cons_zero]; exact rfl)
              · exact fun _ _ _ h => h
              · first
                  | (refine Or.inr ⟨by rfl, ?_⟩; exact rfl)
                  | (refine Or.inl ⟨by rfl, ?_⟩
                     intro w hSw
                     (try dsimp only at hSw)
                     (try go_split_ands)
                     go_simp
                     (first | done | with_reducible rfl))
              try simp only [Act.put, List.setIfInBounds_toArray, List.set_cons_zero, List.set_cons_succ]
              refine take_kp 17 ⟨?_, ?_, ?_, by kernel_rfl, by kernel_rfl, by kernel_rfl, ⟨by kernel_rfl, by kernel_rfl⟩, ?_, ?_, by assumption, ?_⟩
              rotate_left 2
              · (simp only [List.getElem?_toArray, List.getElem?_cons_succ, List.getElem?_cons_zero]; exact rfl)
              · exact fun _ _ _ h => h
              · first
                  | (refine Or.inr ⟨by rfl, ?_⟩; exact rfl)
                  | (refine Or.inl ⟨by rfl, ?_⟩
                     intro w hSw
                     (try dsimp only at hSw)
                     (try go_split_ands)
                     go_simp
                     (first | done | with_reducible rfl))
              try simp only [Act.put, List.setIfInBounds_toArray, List.set_cons_zero, List.set_cons_succ]
              refine take_kp 18 ⟨?_, ?_, ?_, by kernel_rfl, by kernel_rfl, by kernel_rfl, ⟨by kernel_rfl, by kernel_rfl⟩, ?_, ?_, by assumption, ?_⟩
              rotate_left 2
              · (simp only [List.getElem?_toArray, List.getElem?_cons_succ, List.getElem?_cons_zero]; exact rfl)
              · exact fun _ _ _ h => h
              · first
                  | (refine Or.inr ⟨by rfl, ?_⟩; exact rfl)
                  | (refine Or.inl ⟨by rfl, ?_⟩
                     intro w hSw
                     (try dsimp only at hSw)
                     (try go_split_ands)
                     go_simp
                     (first | done | with_reducible rfl))
              try simp only [Act.put, List.setIfInBounds_toArray, List.set_cons_zero, List.set_cons_succ]
              refine take_kp 19 ⟨?_, ?_, ?_, by kernel_rfl, by kernel_rfl, by kernel_rfl, ⟨by kernel_rfl, by kernel_rfl⟩, ?_, ?_, by assumption, ?_⟩
              rotate_left 2
              · (simp only [List.getElem?_toArray, List.getElem?_cons_succ, List.getElem?_cons_zero]; exact rfl)
              · exact fun _ _ _ h => h
              · first
                  | (refine Or.inr ⟨by rfl, ?_⟩; exact rfl)
                  | (refine Or.inl ⟨by rfl, ?_⟩
                     intro w hSw
                     (try dsimp only at hSw)
                     (try go_split_ands)
                     go_simp
                     (first | done | with_reducible rfl))
              try simp only [Act.put, List.setIfInBounds_toArray, List.set_cons_zero, List.set_cons_succ]
              refine take_kp 20 ⟨?_, ?_, ?_, by kernel_rfl, by kernel_rfl, by kernel_rfl, ⟨by kernel_rfl, by kernel_rfl⟩, ?_, ?_, by assumption, ?_⟩
              rotate_left 2
              · (simp only [List.getElem?_toArray, List.getElem?_cons_succ, List.getElem?_cons_zero]; exact rfl)
              · exact fun _ _ _ h => h
              · first
                  | (refine Or.inr ⟨by rfl, ?_⟩; exact rfl)
                  | (refine Or.inl ⟨by rfl, ?_⟩
                     intro w hSw
                     (try dsimp only at hSw)
                     (try go_split_ands)
                     go_simp
                     (first | done | with_reducible rfl))
              try simp only [Act.put, List.setIfInBounds_toArray, List.set_cons_zero, List.set_cons_succ]
              refine take_kl 21 ⟨?_, ?_, ?_, by kernel_rfl, by kernel_rfl, by kernel_rfl, ⟨by kernel_rfl, by kernel_rfl, by kernel_rfl⟩, ?_, ?_, by assumption, ?_⟩
              rotate_left 2
              · (simp only [List.getElem?_toArray, List.getElem?_cons_succ, List.getElem?_cons_zero]; exact rfl)
              · exact fun _ _ _ h => h
              · first
                  | (refine Or.inr ⟨by rfl, ?_⟩; exact rfl)
                  | (refine Or.inl ⟨by rfl, ?_⟩
                     intro w hSw
                     (try dsimp only at hSw)
                     (try go_split_ands)
                     go_simp
                     (first | done | with_reducible rfl))
              try simp only [Act.put, List.setIfInBounds_toArray, List.set_cons_zero, List.set_cons_succ]
              refine take_kp 22 ⟨?_, ?_, ?_, by kernel_rfl, by kernel_rfl, by kernel_rfl, ⟨by kernel_rfl, by kernel_rfl⟩, ?_, ?_, by assumption, ?_⟩
              rotate_left 2
              · (simp only [List.getElem?_toArray, List.getElem?_cons_succ, List.getElem?_cons_zero]; exact rfl)
              · exact fun _ _ _ h => h
              · first
                  | (refine Or.inr ⟨by rfl, ?_⟩; exact rfl)
                  | (refine Or.inl ⟨by rfl, ?_⟩
                     intro w hSw
                     (try dsimp only at hSw)
                     (try go_split_ands)
                     go_simp
                     (first | done | with_reducible rfl))
              try simp only [Act.put, List.setIfInBounds_toArray, List.set_cons_zero, List.set_cons_succ]
              refine take_kp 23 ⟨?_, ?_, ?_, by kernel_rfl, by kernel_rfl, by kernel_rfl, ⟨by kernel_rfl, by kernel_rfl⟩, ?_, ?_, by assumption, ?_⟩
              rotate_left 2
              · (simp only [List.getElem?_toArray, List.getElem?_cons_succ, List.getElem?_cons_zero]; exact rfl)
              · exact fun _ _ _ h => h
              · first
                  | (refine Or.inr ⟨by rfl, ?_⟩; exact rfl)
                  | (refine Or.inl ⟨by rfl, ?_⟩
                     intro w hSw
                     (try dsimp only at hSw)
                     (try go_split_ands)
                     go_simp
                     (first | done | with_reducible rfl))
              try simp only [Act.put, List.setIfInBounds_toArray, List.set_cons_zero, List.set_cons_succ]
              refine call_k 8 (by kernel_rfl) ⟨?_, ?_, fun K hK => ?_⟩
              rotate_left 1
              · (simp only [List.getElem?_toArray, List.getElem?_cons_succ, List.getElem?_cons_zero]; exact rfl)
              go_simp
              skip
              go_wp2_with fail
              have hA0 : Rd (w3.alloc (.cells #[.string ⟨x.toArray⟩] 9)).drew (w3.heap.size + 1) 1 (.slice (some ⟨w3.heap.size, 0, none⟩) 1 1) 1 [.string ⟨x.toArray⟩] := one_newS w3 _
              have hbA : Below w3.heap.size w3 (w3.alloc (.cells #[.string ⟨x.toArray⟩] 9)).drew := ((Below.refl _ _).alloc (Nat.le_refl _) _).drew
              generalize (w3.alloc (.cells #[.string ⟨x.toArray⟩] 9)).drew = wA at hA0 hbA ⊢
              refine hK.out _ _ ⟨cell_left' d1 (Left.of_below hbA []) (by simp), cell_left' d2 (Left.of_below hbA []) (by simp), cell_left' d5 (Left.of_below hbA []) (by simp)⟩ (fun hHeld => ?_)
              clear hK K
              (try simp only [Act.put, List.setIfInBounds_toArray, List.set_cons_zero, List.set_cons_succ])
              have HA := Lib.hid (And.intro (H3.out.1.left0 (Left.of_below hbA [])) (H3.out.2.1.trans (Left.of_below hbA []) (by simp)))
              have HBA := Lib.hid hbA
              have HA0 := Lib.hid hA0
              clear hA0 hbA d1 d2 d5
              refine call_k 9 (by kernel_rfl) ⟨?_, ?_, fun K hK => ?_⟩
              rotate_left 1
              · (simp only [List.getElem?_toArray, List.getElem?_cons_succ, List.getElem?_cons_zero]; exact rfl)
              rw [if_pos (by rfl)]
              (refine op_app (.tmp 61) (.tmp 63) 35 rfl base 9 (.string ⟨#[]⟩) 1 16 Try.underlying35 inf_Ts rfl (by omega) _ l.length (l.map strL) rfl HA.out.1.list _ _ 1 [.string ⟨x.toArray⟩] rfl HA0.out (by simp [Value.oneCell']) ?_ ?_ ?_ ?_)
              · unfold maxLen; have := HI.out.ll; omega
              · have := HI.out.ll; omega
              · have := H3.out.2.1.size; have := HBA.out.size; have := HZ.out; omega
              intro v7 w7 hrow hg hat7
              have hl7 := left_of_grown hg
              have hRl : R ∉ Value.ownL (.slice vo l.length vc) := fun hm => (HA.out.1.sepL R (mem_ownL.1 hm)).2 rfl
              have hh7 := HA.out.1.head.left hl7 hRl
              have e1 : w7.cell? ⟨R, 1, none⟩ = some (.slice vo l.length vc) := by rw [hh7.cell]; rfl
              have e2 : w7.cell? ⟨R, 2, none⟩ = some (.int .i64 size) := by rw [hh7.cell]; rfl
              have e5 : w7.cell? ⟨R, 5, none⟩ = some (.int .i64 at_) := by rw [hh7.cell]; rfl
              have f1 := hh7.free 1
              have f2 := hh7.free 2
              have f5 := hh7.free 5
              obtain ⟨vo7, vc7, rfl, _, _⟩ := (Rd.of_own hrow).form
              have H7 := Lib.hid (And.intro hrow (And.intro hl7 (And.intro hh7 hat7)))
              clear hrow hl7 hh7 hat7 hg hRl
              refine hK.out _ _ ⟨e1, e2, e5⟩ (fun hHeld => ?_)
              clear hK K
              (try simp only [Act.put, List.setIfInBounds_toArray, List.set_cons_zero, List.set_cons_succ])
              refine tail_k (by kernel_rfl) (by kernel_rfl) (by kernel_rfl) ?_
              clear hHeld
              simp only [List.drop_succ_cons, List.drop_zero]
              have HI2 : ∀ wz, wz = ((w7.setCell ⟨R, 1, none⟩ (.slice vo7 (l.length + 1) vc7)).setCell ⟨R, 2, none⟩ (.int .i64 ((size : Int) + (x.length : Int) + 128))).setCell ⟨R, 5, none⟩ (.int .i64 ((at_ : Int) + (n : Int))) → LdI w base R RD F s reg gen FIN f' (at_ + n) (l ++ [x]) (size + x.length + 128) s3 F3 (.slice vo7 (l.length + 1) vc7) wz := fun wz hwz => by
                subst hwz
                have hown7 : ∀ k, (Value.slice vo7 (l.length + 1) vc7).ownBlock = some k → (Value.slice vo l.length vc).ownBlock = some k ∨ k = wA.heap.size := fun k hk => by
                  rcases H7.out.2.2.2 with h | h
                  · exact .inl (h ▸ hk)
                  · rw [h] at hk; injection hk with hk; exact .inr hk.symm
                have hlR : Left [R] w7 (((w7.setCell ⟨R, 1, none⟩ (.slice vo7 (l.length + 1) vc7)).setCell ⟨R, 2, none⟩ (.int .i64 ((size : Int) + (x.length : Int) + 128))).setCell ⟨R, 5, none⟩ (.int .i64 ((at_ : Int) + (n : Int)))) := (((Left.refl [R] w7).setCell (Or.inl (by simp)) _).setCell (Or.inl (by simp)) _).setCell (Or.inl (by simp)) _
                refine ⟨HA.out.1.setl (L' := ⟨s3, l ++ [x], size + x.length + 128, reg, gen, at_ + n, false⟩) H7.out.2.1 (fun k hk => HA.out.1.sepL k (mem_ownL.1 hk)) (by simpa [strL] using H7.out.1) (fun k hk => ?_) hlR ?_ rfl, HON3.out, ?_, H3.out.2.2, fun k hk => ?_, HE2.out, ?_, ?_, ?_, ?_, ?_⟩
                · rcases hown7 k hk with h | h
                  · exact HA.out.1.sepL k h
                  · subst h
                    exact ⟨fun hm => by have := (HA.out.1.disk.lt _ hm).2; omega, fun e => by have := HA.out.1.head.lt; omega⟩
                · have hw := ((H7.out.2.2.1.put 1 (.slice vo7 (l.length + 1) vc7)).put 2 (.int .i64 ((size : Int) + (x.length : Int) + 128))).put 5 (.int .i64 ((at_ : Int) + (n : Int)))
                  rw [show lgHead RD (.slice vo7 (l.length + 1) vc7) ⟨s3, l ++ [x], size + x.length + 128, reg, gen, at_ + n, false⟩ = ((((lgHead RD (.slice vo l.length vc) ⟨s3, l, size, reg, gen, at_, false⟩).set 1 (.slice vo7 (l.length + 1) vc7)).set 2 (.int .i64 ((size : Int) + (x.length : Int) + 128))).set 5 (.int .i64 ((at_ : Int) + (n : Int)))) by
                    unfold lgHead
                    simp only [List.set_cons_succ, List.set_cons_zero]
                    rw [show ((size + x.length + 128 : Nat) : Int) = (size : Int) + (x.length : Int) + 128 by omega, show ((at_ + n : Nat) : Int) = (at_ : Int) + (n : Int) by omega]]
                  exact hw
                · refine (HA.out.2.trans H7.out.2.1 (fun k hk => .inr (HI.out.fl k (mem_ownL.1 hk)))).trans hlR (fun k hk => .inl ?_)
                  simp only [List.mem_singleton] at hk
                  simp [hk]
                · rcases hown7 k hk with h | h
                  · exact HI.out.fl k h
                  · have := HA.out.2.size; omega
                · have := HT3.out; have := HI.out.t; have := HFB.out; omega
                · have := HFB.out; omega
                · have := HI.out.ab; omega
                · have := HI.out.ll; simp; omega
                · have := HI.out.sz; simp; omega
              have HI3 := Lib.hid HI2
              have hmz : (at_ : Int) + (n : Int) ≤ 2048 := by omega
              clear HI2
              go_wp2
              refine ⟨⟨f', at_ + n, l ++ [x], _, s3, F3, _, by omega, Lib.hid (HI3.out _ rfl)⟩, ?_⟩
              have m1 := (HI3.out _ rfl).la.head.cell 5
              have m2 := HI.out.la.head.cell 5
              rw [m1, m2]
              simp [lgHead, intOf]
              omega
          · rw [e] at HR HE
            have HE2 : Hid ((10, at_, l, size, s3) = FIN) := Lib.hid (by have := HE.out; simpa using this)
            have HO4 : Hid (openS cbL s = (10, ⟨s3, l, size, reg, gen, at_, false⟩)) := Lib.hid (by
              rw [HO3.out, ← HE2.out]
              rfl)
            clear e HE
            go_wp2_with fail
            refine HR.out.mono ?_
            rintro e w3 ⟨rfl, hP⟩
            obtain ⟨F3, h3, hl3, hf3⟩ := HI.out.la.go HI.out.lf HI.out.fF HI.out.fl HBW.out hP
            have H3 := Lib.hid (And.intro h3 (And.intro hl3 hf3))
            clear h3 hl3 hf3 hP c0 c3 c5
            go_wp2
            go_ret
            rw [HO4.out]
            exact ⟨rfl, F3, _, H3.out.1, H3.out.2.1, H3.out.2.2, HI.out.fl⟩
    · rw [e] at HG2
      have HO : Hid (openS cbL s = (10, ⟨s2, [], 0, 0, 0, 1, false⟩)) := Lib.hid (by
        unfold openS
        rw [HE1.out]
        simp [e])
      clear e
      go_wp2_with fail
      refine HG2.out.mono ?_
      rintro e w2 ⟨rfl, hP⟩
      obtain ⟨F2, h2, hl2, hf2⟩ := H1.out.1.go H1.out.2.1 H1.out.2.2 (fun k hk => by cases hk) (by have := H1.out.2.1.size; have := HZ.out; omega) hP
      have H2 := Lib.hid (And.intro h2 (And.intro hl2 hf2))
      clear h2 hl2 hf2 hP
      go_wp2
      go_ret
      rw [HO.out]
      exact ⟨rfl, F2, _, H2.out.1, H2.out.2.1, H2.out.2.2, fun k hk => by cases hk⟩
  · rw [e] at HG
    have HO : Hid (openS cbL s = (10, ⟨s1, [], 0, 0, 0, 1, false⟩)) := Lib.hid (by unfold openS; rw [e]; simp)
    clear e
    go_enter Try.func23, Try.ntmps23
    go_wp2_with fail
    refine HG.out.mono ?_
    rintro e w1 ⟨rfl, hP⟩
    obtain ⟨F1, h1, hl1, hf1⟩ := H.out.go (w := w) (Left.refl _ _) (fun x hx => .inl hx) (fun k hk => by cases hk) HZ.out hP
    have H1 := Lib.hid (And.intro h1 (And.intro hl1 hf1))
    clear h1 hl1 hf1 hP
    go_wp2
    go_ret
    rw [HO.out]
    exact ⟨rfl, F1, _, H1.out.1, H1.out.2.1, H1.out.2.2, fun k hk => by cases hk⟩
end
end Go.Proofs.Ytcgdlmlolmfinaa
