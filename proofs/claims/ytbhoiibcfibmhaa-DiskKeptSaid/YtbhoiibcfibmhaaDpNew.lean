/- The page's disk: New. -/


import Derived.Test.YtbhoiibcfibmhaaDpComp
namespace Go.Proofs.Ytbhoiibcfibmhaa
open Go.RowKit Go.MapKept
def mkF (N : Nat) : Obj := .cells (madeCells #[.bool false] N) 4
theorem mkF_whole (w : World) (N : Nat) : Whole (w.alloc (mkF N)) w.heap.size 4 (List.replicate N (.bool false)) := by
  have := Whole.new w 4 (List.replicate N (.bool false))
  unfold mkF
  rw [show (madeCells #[Value.bool false] N) = (List.replicate N (Value.bool false)).toArray from Array.ext' (by rw [toList_madeCells_one])]
  exact this
theorem rnew_at {w w3 : World} {kv nv : Value} {B : List UInt8} {fb N : Nat} (hN : B.length / 64 = N) (hm : mayD B.length) (hk : w3.ownsRow w.heap.size 5 1 kv B.length (u8s B)) (hn : w3.ownsRow w.heap.size 5 1 nv B.length (u8s B)) (hne : ∀ k, kv.ownBlock = some k → nv.ownBlock ≠ some k)
    (hf : Whole w3 fb 4 (List.replicate N (.bool false))) (hfb : w.heap.size ≤ fb) (hl : Left [] w w3) :
    PgAt (w3.alloc (.cells #[kv, nv, .slice (some ⟨fb, 0, none⟩) N N, .slice none 0 0, .int .i64 0, .bool false, .int .i64 0, .bool false] 81)) w.heap.size w3.heap.size (Value.ownL kv ++ Value.ownL nv ++ [fb, w3.heap.size]) kv nv (.slice (some ⟨fb, 0, none⟩) N N) (.slice none 0 0) [] (newS B) ∧
    Left [] w (w3.alloc (.cells #[kv, nv, .slice (some ⟨fb, 0, none⟩) N N, .slice none 0 0, .int .i64 0, .bool false, .int .i64 0, .bool false] 81)) := by
  have hz := hl.size
  have hft := hf.lt
  have l2 : Left [] w3 (w3.alloc (.cells #[kv, nv, .slice (some ⟨fb, 0, none⟩) N N, .slice none 0 0, .int .i64 0, .bool false, .int .i64 0, .bool false] 81)) := (Left.refl [] _).alloc _
  have hs : (w3.alloc (.cells #[kv, nv, .slice (some ⟨fb, 0, none⟩) N N, .slice none 0 0, .int .i64 0, .bool false, .int .i64 0, .bool false] 81)).heap.size = w3.heap.size + 1 := by simp
  have hW := Whole.new w3 81 [kv, nv, .slice (some ⟨fb, 0, none⟩) N N, .slice none 0 0, .int .i64 0, .bool false, .int .i64 0, .bool false]
  have hfr : (w3.alloc (.cells #[kv, nv, .slice (some ⟨fb, 0, none⟩) N N, .slice none 0 0, .int .i64 0, .bool false, .int .i64 0, .bool false] 81)).ownsRow w.heap.size 4 1 (.slice (some ⟨fb, 0, none⟩) N N) (B.length / 64) (bools (frL B [])) := by
    rw [frL_nil, hN]
    have e : bools (List.replicate N false) = List.replicate N (.bool false) := by simp [bools]
    rw [e]
    refine ⟨by simp, .inr ⟨fb, N, (List.replicate N (Value.bool false)).toArray, rfl, hfb, hf.left l2 (by simp), Nat.le_refl _, by have := hm.2.1; unfold maxLen; omega, by simp, ?_⟩⟩
    show (List.replicate N (Value.bool false)).take (N * 1) = _
    rw [Nat.mul_one, List.take_of_length_le (by rw [List.length_replicate]; exact Nat.le_refl _)]
  refine ⟨⟨hW, own_leftB hk l2 (by simp), ?_, hfr, World.ownsRow_nil _ _ _ _, fun q hq => (by cases hq), rfl, Nat.zero_le _, hne, ⟨by simp, fun k hk => (by simp [mem_ownL, hk]), fun k hk => (by simp [mem_ownL, hk]), fun k hk => ?_, fun k hk => (by cases hk)⟩, fun k hk' => ?_, ⟨hm.1, hm.2.2, hm.2.1⟩, fun p hp => (by cases hp), fun h => (by cases h)⟩, hl.trans l2 (by simp)⟩
  · show (w3.alloc _).ownsRow _ _ _ _ B.length (u8s (flushK B []))
    rw [flushK_nil hm.2.2]
    exact own_leftB hn l2 (by simp)
  · have hk' : fb = k := Option.some.inj hk
    rw [← hk']
    simp
  · rw [hs]
    simp only [List.mem_append, List.mem_cons, List.not_mem_nil, or_false] at hk'
    rcases hk' with (h | h) | rfl | rfl
    · have := hk.lt k (mem_ownL.1 h); omega
    · have := hn.lt k (mem_ownL.1 h); omega
    · omega
    · omega
set_option maxRecDepth 20000 in
set_option maxHeartbeats 2000000 in
theorem rNew_g (w : World) {bv : Value} {B : List UInt8} {Bd : Nat} (h : Rd w Bd 1 bv B.length (u8s B)) (hBd : Bd ≤ w.heap.size) (hm : mayD B.length) :
    Calls Try.prog 18 #[bv] w fun e w' => ∃ P F, e = .returned (.pointer (some ⟨P, 0, none⟩)) ∧ PgG w' w.heap.size P F (newS B) ∧ Left [] w w' := by
  obtain ⟨ao, cap, rfl, hcap, hcm⟩ := h.form
  have HRD := Lib.hid h
  obtain ⟨N, hN⟩ : ∃ N, B.length / 64 = N := ⟨_, rfl⟩
  have HE := Lib.hid (fun (kv nv : Value) (w3 : World) (fb : Nat) => rnew_at (w := w) (w3 := w3) (kv := kv) (nv := nv) (fb := fb) hN hm)
  have hCP := fun (wx : World) (hb : Below w.heap.size w wx) => CopyBytes_n wx (.slice ao B.length cap) B.length B Bd rfl (h.belowH hb hBd) (Nat.le_trans hBd hb.size) (by have := hm.2.1; omega)
  have HCP := Lib.hid hCP
  have hn2 : B.length ≤ 262144 := hm.2.1
  have q1 : ((B.length : Nat) : Int).tdiv 64 = (N : Int) := by rw [Int.tdiv_eq_ediv_of_nonneg (by omega)]; omega
  have hNl : N ≤ 4096 := by omega
  have q4 : IntKind.i64.wrap (N : Int) = (N : Int) := IntWalk.i64_in _ ⟨by omega, by omega⟩
  have hmk1 := run_make_row' (P := Try.prog) 78 4 (.bool false) 1 Try.underlying78 info_boolD rfl .i64 .i64 N (by omega) (by omega)
  obtain ⟨n, hnn⟩ : ∃ n, B.length = n := ⟨_, rfl⟩
  rw [hnn] at HCP HE q1 hn2 hcap ⊢
  clear h hm hCP hN hnn hcm
  go_enter Try.func18, Try.ntmps18
  go_upto_region 1 with fail
  refine wp_region_held_drew (S := fun _ => True) (by kernel_rfl) trivial (fun hHeld => ?_)
  refine take_h 0 ⟨?_, ?_, ?_, by kernel_rfl, by kernel_rfl, by kernel_rfl, ?_, ?_, by assumption, ?_⟩
  rotate_left 2
  · (simp only [List.getElem?_toArray, List.getElem?_cons_zero]; exact rfl)
  · exact fun _ _ _ h => h
  · first
      | (refine Or.inr ⟨by rfl, ?_⟩; exact rfl)
      | (refine Or.inl ⟨by rfl, ?_⟩
         intro w hSw
         (try dsimp only at hSw)
         (try go_split_ands)
         go_simp
         (first | done | with_reducible rfl))
  try simp only [Act.put, List.setIfInBounds_toArray, List.set_cons_zero, List.set_cons_succ]
  refine take_h 2 ⟨?_, ?_, ?_, by kernel_rfl, by kernel_rfl, by kernel_rfl, ?_, ?_, by assumption, ?_⟩
  rotate_left 2
  · (simp only [List.getElem?_toArray, List.getElem?_cons_succ, List.getElem?_cons_zero]; exact rfl)
  · exact fun _ _ _ h => h
  · first
      | (refine Or.inr ⟨by rfl, ?_⟩; exact rfl)
      | (refine Or.inl ⟨by rfl, ?_⟩
         intro w hSw
         (try dsimp only at hSw)
         (try go_split_ands)
         go_simp
         (first | done | with_reducible rfl))
  try simp only [Act.put, List.setIfInBounds_toArray, List.set_cons_zero, List.set_cons_succ]
  refine take_h 4 ⟨?_, ?_, ?_, by kernel_rfl, by kernel_rfl, by kernel_rfl, ?_, ?_, by assumption, ?_⟩
  rotate_left 2
  · (simp only [List.getElem?_toArray, List.getElem?_cons_succ, List.getElem?_cons_zero]; exact rfl)
  · exact fun _ _ _ h => h
  · first
      | (refine Or.inr ⟨by rfl, ?_⟩; exact rfl)
      | (refine Or.inl ⟨by rfl, ?_⟩
         intro w hSw
         (try dsimp only at hSw)
         (try go_split_ands)
         go_simp
         (first | done | with_reducible rfl))
  try simp only [Act.put, List.setIfInBounds_toArray, List.set_cons_zero, List.set_cons_succ]
  refine take_h 5 ⟨?_, ?_, ?_, by kernel_rfl, by kernel_rfl, by kernel_rfl, ?_, ?_, by assumption, ?_⟩
  rotate_left 2
  · (simp only [List.getElem?_toArray, List.getElem?_cons_succ, List.getElem?_cons_zero]; exact rfl)
  · exact fun _ _ _ h => h
  · first
      | (refine Or.inr ⟨by rfl, ?_⟩; exact rfl)
      | (refine Or.inl ⟨by rfl, ?_⟩
         intro w hSw
         (try dsimp only at hSw)
         (try go_split_ands)
         go_simp
         (first | done | with_reducible rfl))
  try simp only [Act.put, List.setIfInBounds_toArray, List.set_cons_zero, List.set_cons_succ]
  refine take_h 6 ⟨?_, ?_, ?_, by kernel_rfl, by kernel_rfl, by kernel_rfl, ?_, ?_, by assumption, ?_⟩
  rotate_left 2
  · (simp only [List.getElem?_toArray, List.getElem?_cons_succ, List.getElem?_cons_zero]; exact rfl)
  · exact fun _ _ _ h => h
  · first
      | (refine Or.inr ⟨by rfl, ?_⟩; exact rfl)
      | (refine Or.inl ⟨by rfl, ?_⟩
         intro w hSw
         (try dsimp only at hSw)
         (try go_split_ands)
         go_simp
         (first | done | with_reducible rfl))
  try simp only [Act.put, List.setIfInBounds_toArray, List.set_cons_zero, List.set_cons_succ]
  refine wpAnyH_ready (rs := [1, 7]) (by kernel_rfl) (by simp) ?_
  refine call_h2 1 7 ?A ?B
  case A =>
    refine ⟨?_, ?_, fun K hK => ?_⟩
    rotate_left 1
    · (simp only [List.getElem?_toArray, List.getElem?_cons_succ, List.getElem?_cons_zero]; exact rfl)
    go_simp
    (go_at_call 12; refine (HCP.out _ ?_).mono ?_; exact ⟨rfl, rfl, rfl, Nat.le_refl _, fun _ _ => rfl⟩; rintro e w1 ⟨v1, rfl, ho1, hb1⟩; obtain ⟨v1o, v1c, rfl, _, _⟩ := (Rd.of_own ho1).form)
    have hb1' : Below w.heap.size w w1 := ⟨hb1.os, hb1.tape, hb1.output, hb1.size, hb1.block⟩
    have HO1 : Hid (w1.ownsRow w.heap.size 5 1 (.slice v1o n v1c) n (u8s B)) := Lib.hid ho1
    have HB1 := Lib.hid hb1'
    have hz1 := hb1'.size
    clear ho1 hb1 hb1'
    go_wp2_with fail
    refine hK.out _ _ trivial (fun hHeld => ?_)
    clear hK K
    (try simp only [Act.put, List.setIfInBounds_toArray, List.set_cons_zero, List.set_cons_succ])
    refine wpAnyH_ready (rs := [3, 7]) (by kernel_rfl) (by simp) ?_
    refine call_h2 3 7 ?C ?D
    case C =>
      refine ⟨?_, ?_, fun K hK => ?_⟩
      rotate_left 1
      · (simp only [List.getElem?_toArray, List.getElem?_cons_succ, List.getElem?_cons_zero]; exact rfl)
      go_simp
      (go_at_call 12; refine (HCP.out _ HB1.out).mono ?_; rintro e w2 ⟨v2, rfl, ho2, hb2⟩; obtain ⟨v2o, v2c, rfl, _, _⟩ := (Rd.of_own ho2).form)
      have HO2 := Lib.hid ho2
      have HB2 := Lib.hid hb2
      have hz2 := hb2.size
      clear ho2 hb2
      go_wp2_with fail
      refine hK.out _ _ trivial (fun hHeld => ?_)
      clear hK K
      (try simp only [Act.put, List.setIfInBounds_toArray, List.set_cons_zero, List.set_cons_succ])
      refine wpAnyH_ready (rs := [7]) (by kernel_rfl) (by simp) ?_
      refine call_h 7 ⟨?_, ?_, fun K hK => ?_⟩
      rotate_left 1
      · (simp only [List.getElem?_toArray, List.getElem?_cons_succ, List.getElem?_cons_zero]; exact rfl)
      go_simp
      skip
      go_wp2_with fail
      refine hK.out _ _ trivial (fun hHeld => ?_)
      clear hK K
      (try simp only [Act.put, List.setIfInBounds_toArray, List.set_cons_zero, List.set_cons_succ])
      refine take_h 8 ⟨?_, ?_, ?_, by kernel_rfl, by kernel_rfl, by kernel_rfl, ?_, ?_, by assumption, ?_⟩
      rotate_left 2
      · (simp only [List.getElem?_toArray, List.getElem?_cons_succ, List.getElem?_cons_zero]; exact rfl)
      · exact fun _ _ _ h => h
      · first
          | (refine Or.inr ⟨by rfl, ?_⟩; exact rfl)
          | (refine Or.inl ⟨by rfl, ?_⟩
             intro w hSw
             (try dsimp only at hSw)
             (try go_split_ands)
             go_simp
             (first | done | with_reducible rfl))
      try simp only [Act.put, List.setIfInBounds_toArray, List.set_cons_zero, List.set_cons_succ]
      have hlz : Left [] w2 (w2.alloc (.cells (madeCells #[.bool false] N) 4)) := (Left.refl [] w2).alloc _
      have HE := Lib.hid (HE.out (.slice v1o n v1c) (.slice v2o n v2c) (w2.alloc (.cells (madeCells #[.bool false] N) 4)) w2.heap.size (own_leftB (own_leftB HO1.out (Left.of_below HB2.out []) (by simp)) hlz (by simp)) (own_base (own_leftB HO2.out hlz (by simp)) hz1) (fun k h1 h2 => by have := (HO1.out.lt k h1).2; have := (HO2.out.lt k h2).1; omega) (mkF_whole w2 N) (by omega) (((Left.of_below HB1.out []).trans (Left.of_below HB2.out []) (by simp)).trans hlz (by simp)))
      have HE := Lib.hid (by have := HE.out; rw [show (w2.alloc (.cells (madeCells #[.bool false] N) 4)).heap.size = w2.heap.size + 1 by simp] at this; exact this)
      clear hlz
      refine wpAnyH_ready (rs := [9]) (by kernel_rfl) (by simp) ?_
      refine call_h 9 ⟨?_, ?_, fun K hK => ?_⟩
      rotate_left 1
      · (simp only [List.getElem?_toArray, List.getElem?_cons_succ, List.getElem?_cons_zero]; exact rfl)
      go_simp
      skip
      go_wp2_with fail
      refine hK.out _ _ trivial (fun hHeld => ?_)
      clear hK K
      (try simp only [Act.put, List.setIfInBounds_toArray, List.set_cons_zero, List.set_cons_succ])
      refine take_h 10 ⟨?_, ?_, ?_, by kernel_rfl, by kernel_rfl, by kernel_rfl, ?_, ?_, by assumption, ?_⟩
      rotate_left 2
      · (simp only [List.getElem?_toArray, List.getElem?_cons_succ, List.getElem?_cons_zero]; exact rfl)
      · exact fun _ _ _ h => h
      · first
          | (refine Or.inr ⟨by rfl, ?_⟩; exact rfl)
          | (refine Or.inl ⟨by rfl, ?_⟩
             intro w hSw
             (try dsimp only at hSw)
             (try go_split_ands)
             go_simp
             (first | done | with_reducible rfl))
      try simp only [Act.put, List.setIfInBounds_toArray, List.set_cons_zero, List.set_cons_succ]
      refine wpAnyH_done (by kernel_rfl) ?_ _
      clear hHeld
      go_wp2
      go_ret
      exact ⟨_, _, rfl, ⟨_, _, _, _, _, HE.out.1⟩, HE.out.2⟩
    case D =>
      refine ⟨?_, ?_, fun K hK => ?_⟩
      rotate_left 1
      · (simp only [List.getElem?_toArray, List.getElem?_cons_succ, List.getElem?_cons_zero]; exact rfl)
      go_simp
      go_wp2_with fail
      refine hK.out _ _ trivial (fun hHeld => ?_)
      clear hK K
      (try simp only [Act.put, List.setIfInBounds_toArray, List.set_cons_zero, List.set_cons_succ])
      have hlz : Left [] w1 (w1.alloc (.cells (madeCells #[.bool false] N) 4)) := (Left.refl [] w1).alloc _
      have hzz : (w1.alloc (.cells (madeCells #[.bool false] N) 4)).heap.size = w1.heap.size + 1 := by simp
      have HLZ := Lib.hid hlz
      have HWF := Lib.hid (mkF_whole w1 N)
      have HZZ := Lib.hid hzz
      have hbz : Below w.heap.size w (w1.alloc (.cells (madeCells #[.bool false] N) 4)) := ((Left.of_below HB1.out []).trans hlz (by simp)).below
      have HBZ := Lib.hid hbz
      clear hlz hzz hbz
      refine wpAnyH_ready (rs := [3]) (by kernel_rfl) (by simp) ?_
      refine call_h 3 ⟨?_, ?_, fun K hK => ?_⟩
      rotate_left 1
      · (simp only [List.getElem?_toArray, List.getElem?_cons_succ, List.getElem?_cons_zero]; exact rfl)
      go_simp
      (go_at_call 12; refine (HCP.out _ HBZ.out).mono ?_; rintro e w2 ⟨v2, rfl, ho2, hb2⟩; obtain ⟨v2o, v2c, rfl, _, _⟩ := (Rd.of_own ho2).form)
      go_wp2_with fail
      have HO2 := Lib.hid ho2
      have HB2 := Lib.hid hb2
      have hz2 := hb2.size
      clear ho2 hb2
      refine hK.out _ _ trivial (fun hHeld => ?_)
      clear hK K
      (try simp only [Act.put, List.setIfInBounds_toArray, List.set_cons_zero, List.set_cons_succ])
      refine take_h 8 ⟨?_, ?_, ?_, by kernel_rfl, by kernel_rfl, by kernel_rfl, ?_, ?_, by assumption, ?_⟩
      rotate_left 2
      · (simp only [List.getElem?_toArray, List.getElem?_cons_succ, List.getElem?_cons_zero]; exact rfl)
      · exact fun _ _ _ h => h
      · first
          | (refine Or.inr ⟨by rfl, ?_⟩; exact rfl)
          | (refine Or.inl ⟨by rfl, ?_⟩
             intro w hSw
             (try dsimp only at hSw)
             (try go_split_ands)
             go_simp
             (first | done | with_reducible rfl))
      try simp only [Act.put, List.setIfInBounds_toArray, List.set_cons_zero, List.set_cons_succ]
      have HE := Lib.hid (HE.out (.slice v1o n v1c) (.slice v2o n v2c) w2 w1.heap.size (own_leftB (own_leftB HO1.out HLZ.out (by simp)) (Left.of_below HB2.out []) (by simp)) (own_base HO2.out (by rw [HZZ.out]; omega)) (fun k h1 h2 => by have := (HO1.out.lt k h1).2; have := (HO2.out.lt k h2).1; have := HZZ.out; omega) (HWF.out.left (Left.of_below HB2.out []) (by simp)) (by omega) (((Left.of_below HB1.out []).trans HLZ.out (by simp)).trans (Left.of_below HB2.out []) (by simp)))
      refine wpAnyH_ready (rs := [9]) (by kernel_rfl) (by simp) ?_
      refine call_h 9 ⟨?_, ?_, fun K hK => ?_⟩
      rotate_left 1
      · (simp only [List.getElem?_toArray, List.getElem?_cons_succ, List.getElem?_cons_zero]; exact rfl)
      go_simp
      skip
      go_wp2_with fail
      refine hK.out _ _ trivial (fun hHeld => ?_)
      clear hK K
      (try simp only [Act.put, List.setIfInBounds_toArray, List.set_cons_zero, List.set_cons_succ])
      refine take_h 10 ⟨?_, ?_, ?_, by kernel_rfl, by kernel_rfl, by kernel_rfl, ?_, ?_, by assumption, ?_⟩
      rotate_left 2
      · (simp only [List.getElem?_toArray, List.getElem?_cons_succ, List.getElem?_cons_zero]; exact rfl)
      · exact fun _ _ _ h => h
      · first
          | (refine Or.inr ⟨by rfl, ?_⟩; exact rfl)
          | (refine Or.inl ⟨by rfl, ?_⟩
             intro w hSw
             (try dsimp only at hSw)
             (try go_split_ands)
             go_simp
             (first | done | with_reducible rfl))
      try simp only [Act.put, List.setIfInBounds_toArray, List.set_cons_zero, List.set_cons_succ]
      refine wpAnyH_done (by kernel_rfl) ?_ _
      clear hHeld
      go_wp2
      go_ret
      exact ⟨_, _, rfl, ⟨_, _, _, _, _, HE.out.1⟩, HE.out.2⟩
  case B =>
    refine ⟨?_, ?_, fun K hK => ?_⟩
    rotate_left 1
    · (simp only [List.getElem?_toArray, List.getElem?_cons_succ, List.getElem?_cons_zero]; exact rfl)
    go_simp
    go_wp2_with fail
    refine hK.out _ _ trivial (fun hHeld => ?_)
    clear hK K
    (try simp only [Act.put, List.setIfInBounds_toArray, List.set_cons_zero, List.set_cons_succ])
    have hlz : Left [] w (w.alloc (.cells (madeCells #[.bool false] N) 4)).drew := ((Left.refl [] w).alloc _).drew
    have hzz : (w.alloc (.cells (madeCells #[.bool false] N) 4)).drew.heap.size = w.heap.size + 1 := by simp
    have hwf : Whole (w.alloc (.cells (madeCells #[.bool false] N) 4)).drew w.heap.size 4 (List.replicate N (.bool false)) := (mkF_whole w N).drew
    obtain ⟨wz, hwz⟩ : ∃ wz, wz = (w.alloc (.cells (madeCells #[.bool false] N) 4)).drew := ⟨_, rfl⟩
    rw [← hwz] at hlz hzz hwf
    first | rw [← hwz] | (rw [show (w.drew.alloc (.cells (madeCells #[.bool false] N) 4)) = wz from hwz.symm])
    have HLZ := Lib.hid hlz
    have HWF := Lib.hid hwf
    have HZZ := Lib.hid hzz
    have HBZ := Lib.hid hlz.below
    clear hlz hzz hwf hwz
    refine wpAnyH_ready (rs := [1]) (by kernel_rfl) (by simp) ?_
    refine call_h 1 ⟨?_, ?_, fun K hK => ?_⟩
    rotate_left 1
    · (simp only [List.getElem?_toArray, List.getElem?_cons_succ, List.getElem?_cons_zero]; exact rfl)
    go_simp
    (go_at_call 12; refine (HCP.out _ HBZ.out).mono ?_; rintro e w1 ⟨v1, rfl, ho1, hb1⟩; obtain ⟨v1o, v1c, rfl, _, _⟩ := (Rd.of_own ho1).form)
    go_wp2_with fail
    have HO1 := Lib.hid ho1
    have HB1 := Lib.hid hb1
    have hz1 := hb1.size
    have HBA := Lib.hid ((HLZ.out.trans (Left.of_below hb1 []) (by simp)).below)
    clear ho1 hb1
    refine hK.out _ _ trivial (fun hHeld => ?_)
    clear hK K
    (try simp only [Act.put, List.setIfInBounds_toArray, List.set_cons_zero, List.set_cons_succ])
    refine wpAnyH_ready (rs := [3]) (by kernel_rfl) (by simp) ?_
    refine call_h 3 ⟨?_, ?_, fun K hK => ?_⟩
    rotate_left 1
    · (simp only [List.getElem?_toArray, List.getElem?_cons_succ, List.getElem?_cons_zero]; exact rfl)
    go_simp
    (go_at_call 12; refine (HCP.out _ HBA.out).mono ?_; rintro e w2 ⟨v2, rfl, ho2, hb2⟩; obtain ⟨v2o, v2c, rfl, _, _⟩ := (Rd.of_own ho2).form)
    go_wp2_with fail
    have HO2 := Lib.hid ho2
    have HB2 := Lib.hid hb2
    clear ho2 hb2
    refine hK.out _ _ trivial (fun hHeld => ?_)
    clear hK K
    (try simp only [Act.put, List.setIfInBounds_toArray, List.set_cons_zero, List.set_cons_succ])
    refine take_h 8 ⟨?_, ?_, ?_, by kernel_rfl, by kernel_rfl, by kernel_rfl, ?_, ?_, by assumption, ?_⟩
    rotate_left 2
    · (simp only [List.getElem?_toArray, List.getElem?_cons_succ, List.getElem?_cons_zero]; exact rfl)
    · exact fun _ _ _ h => h
    · first
        | (refine Or.inr ⟨by rfl, ?_⟩; exact rfl)
        | (refine Or.inl ⟨by rfl, ?_⟩
           intro w hSw
           (try dsimp only at hSw)
           (try go_split_ands)
           go_simp
           (first | done | with_reducible rfl))
    try simp only [Act.put, List.setIfInBounds_toArray, List.set_cons_zero, List.set_cons_succ]
    have HE := Lib.hid (HE.out (.slice v1o n v1c) (.slice v2o n v2c) w2 w.heap.size (own_base (own_leftB HO1.out (Left.of_below HB2.out []) (by simp)) (by have := HZZ.out; omega)) (own_base HO2.out (by have := HZZ.out; omega)) (fun k h1 h2 => by have := (HO1.out.lt k h1).2; have := (HO2.out.lt k h2).1; omega) ((HWF.out.left (Left.of_below HB1.out []) (by simp)).left (Left.of_below HB2.out []) (by simp)) (Nat.le_refl _) ((HLZ.out.trans (Left.of_below HB1.out []) (by simp)).trans (Left.of_below HB2.out []) (by simp)))
    refine wpAnyH_ready (rs := [9]) (by kernel_rfl) (by simp) ?_
    refine call_h 9 ⟨?_, ?_, fun K hK => ?_⟩
    rotate_left 1
    · (simp only [List.getElem?_toArray, List.getElem?_cons_succ, List.getElem?_cons_zero]; exact rfl)
    go_simp
    skip
    go_wp2_with fail
    refine hK.out _ _ trivial (fun hHeld => ?_)
    clear hK K
    (try simp only [Act.put, List.setIfInBounds_toArray, List.set_cons_zero, List.set_cons_succ])
    refine take_h 10 ⟨?_, ?_, ?_, by kernel_rfl, by kernel_rfl, by kernel_rfl, ?_, ?_, by assumption, ?_⟩
    rotate_left 2
    · (simp only [List.getElem?_toArray, List.getElem?_cons_succ, List.getElem?_cons_zero]; exact rfl)
    · exact fun _ _ _ h => h
    · first
        | (refine Or.inr ⟨by rfl, ?_⟩; exact rfl)
        | (refine Or.inl ⟨by rfl, ?_⟩
           intro w hSw
           (try dsimp only at hSw)
           (try go_split_ands)
           go_simp
           (first | done | with_reducible rfl))
    try simp only [Act.put, List.setIfInBounds_toArray, List.set_cons_zero, List.set_cons_succ]
    refine wpAnyH_done (by kernel_rfl) ?_ _
    clear hHeld
    go_wp2
    go_ret
    exact ⟨_, _, rfl, ⟨_, _, _, _, _, HE.out.1⟩, HE.out.2⟩
end Go.Proofs.Ytbhoiibcfibmhaa
