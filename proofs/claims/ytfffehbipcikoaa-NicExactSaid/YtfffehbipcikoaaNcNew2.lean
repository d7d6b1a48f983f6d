/- A new network card. -/


import Derived.Test.YtfffehbipcikoaaNcTx
namespace Go.Proofs.Ytfffehbipcikoaa
open Go.RowKit Go.MapKept

theorem RigG.no_ty {w : World} {s : Spot} {q : Nat} {want : List Fl} {out : List (Fl × Nat)} {free : Nat} (h : RigG w s q want out free) {k : Nat} {t : TypeId} (ht : Ty w k t) (hn : t ≠ 3) : NoRow w s.bw k := by
  obtain ⟨B, bz, wy, ls, wrt, rdD, wrV, rdV, h1, h2, _⟩ := h
  obtain ⟨W', hW', hA⟩ := h1.drv.way
  intro W hW p hp e
  rw [imap_uniq hW hW'] at hp
  have key : ∀ {W : List (Int × Value)} {wy : List (Int × List Nat)}, WayAt w W wy → p ∈ W → Ty w k 3 := by
    intro W
    induction W with
    | nil => intro wy _ hp; simp at hp
    | cons a W ih =>
      intro wy hA hp
      cases wy with
      | nil => exact absurd hA (by simp [WayAt])
      | cons b wy =>
        obtain ⟨_, h2, h3⟩ := hA
        rcases List.mem_cons.1 hp with rfl | hp
        · exact own_ty h2 e
        · exact ih h3 hp
  exact (ht.ne (key hA hp) hn) rfl
section
variable {w w' : World} {N lo hi drop : Nat} {rx tx : QS} {In Out : List (List UInt8)}
theorem NicG.no_ty (h : NicG w N rx tx lo hi In Out drop) {k : Nat} {t : TypeId} (ht : Ty w k t) (hn : t ≠ 3) : Nor2 w rx tx k := by
  obtain ⟨_, _, _, _, _, h1, _⟩ := h.rx_
  obtain ⟨_, _, _, _, h2, _⟩ := h.tx_
  exact ⟨h1.r.no_ty ht hn, h2.r.no_ty ht hn⟩
set_option maxHeartbeats 400000 in
theorem Dropped_any (h : NicG w N rx tx lo hi In Out drop) : Calls Try.prog 60 #[.pointer (some ⟨N, 0, none⟩)] w fun e w' => e = .returned (.int .i64 drop) ∧ w = w' := by
  have c4 : w.cell? ⟨N, 4, none⟩ = some (.int .i64 drop) := by rw [h.head.cell]; rfl
  clear h
  go_enter Try.func60, Try.ntmps60
  go_wp2
  go_ret
  exact ⟨rfl, rfl⟩
end

theorem freeN_rep (n : Nat) : freeN (List.replicate n false) = n := by
  have := freeN_all (bz := List.replicate n false) (fun x hx => by simp [List.getElem?_replicate] at hx)
  simpa using this
/-- While the receiving queue is filled. -/
structure NicP (w0 w : World) (N : Nat) (rx tx : QS) (hi j : Nat) : Prop where
  head : Whole w N 149 (nicCells rx tx 0 0 0)
  rx_ : ∃ own used Bk W, RxAt w rx own used Bk W [] (16 - j) ∧ W.map (·.2) = List.range j
  tx_ : TxG w tx []
  ap : rx.Apart ∧ tx.Apart
  dis : (∀ k ∈ rx.all, k ∉ tx.all) ∧ N ∉ rx.all ∧ N ∉ tx.all
  nor : ∀ k ∈ N :: (rx.all ++ tx.all), Nor2 w rx tx k
  rng : ∀ k ∈ N :: (rx.all ++ tx.all), w0.heap.size ≤ k ∧ k < hi
  hi_ : hi ≤ w.heap.size
  bl : Below w0.heap.size w0 w
theorem rx_add {own : List Int} {W : List (Fl × Nat)} {f' : Fl} {k : Nat} (h1 : RxS own (rxSlots W [])) (hk : k < 16) (hf : f'.L = [⟨((k * 2048 : Nat) : Int), 2048, true⟩]) (hh : f'.h < own.length) (hd : ((W.map (·.1) ++ [f']).map Fl.h).Nodup) : RxS (own.set f'.h k) (rxSlots (W ++ [(f', k)]) []) := by
  intro p hp
  simp only [rxSlots, List.map_nil, List.append_nil, List.mem_append, List.mem_singleton] at hp
  rcases hp with hp | rfl
  · obtain ⟨a, b, c⟩ := h1 p (by simpa [rxSlots] using hp)
    refine ⟨?_, b, c⟩
    have hne : f'.h ≠ p.1.h := fun e => by
      rw [List.map_append, List.nodup_append] at hd
      exact hd.2.2 _ (List.mem_map_of_mem (List.mem_map_of_mem hp)) _ (by simp) e.symm
    rw [List.getElem?_set_ne hne]
    exact a
  · exact ⟨List.getElem?_set_self hh, hk, hf⟩

set_option maxRecDepth 20000 in
set_option maxHeartbeats 2000000 in
theorem NNew_any (w : World) :
    Calls Try.prog 50 #[] w fun e w' => ∃ N rx tx hi, e = .returned (.pointer (some ⟨N, 0, none⟩)) ∧ NicG w' N rx tx w.heap.size hi [] [] 0 ∧ Below w.heap.size w w' := by
  go_enter Try.func50, Try.ntmps50
  go_wp2_with fail
  refine (fresh_any w 16 1 (by omega)).mono ?_
  rintro e w1 ⟨rx, rfl, hF1⟩
  have H1 := Lib.hid hF1
  have hz1 := hF1.bl.size
  clear hF1
  go_wp2_with fail
  refine (fresh_any w1 64 2 (by omega)).mono ?_
  rintro e w2 ⟨tx, rfl, hF2⟩
  have H2 := Lib.hid hF2
  have hz2 := hF2.bl.size
  clear hF2
  go_upto_region 2 with fail
  have h0 : NicP w (w2.alloc (.cells #[.pointer (some ⟨rx.Q, 0, none⟩), .pointer (some ⟨tx.Q, 0, none⟩), .int .i64 0, .int .i64 0, .int .i64 0] 149)) w2.heap.size rx tx (w2.heap.size + 1) 0 := by
    have hlA := (Left.refl [] w2).alloc (.cells #[.pointer (some ⟨rx.Q, 0, none⟩), .pointer (some ⟨tx.Q, 0, none⟩), .int .i64 0, .int .i64 0, .int .i64 0] 149)
    have hl2 := Left.of_below H2.out.bl []
    have hlB := hl2.trans (T := []) hlA (by simp)
    obtain ⟨r1, r2, r3, r4⟩ := H1.out.rng
    obtain ⟨t1, t2, t3, t4⟩ := H2.out.rng
    have hr : ∀ k ∈ rx.all, w.heap.size ≤ k ∧ k < w1.heap.size := fun k hk => by
      rcases QS.all_mem.1 hk with h | h | rfl
      · exact r1 k h
      · exact r2 k h
      · exact ⟨r3, r4⟩
    have ht : ∀ k ∈ tx.all, w1.heap.size ≤ k ∧ k < w2.heap.size := fun k hk => by
      rcases QS.all_mem.1 hk with h | h | rfl
      · exact t1 k h
      · exact t2 k h
      · exact ⟨t3, t4⟩
    have hR := (H1.out.r.left hlB)
    have hT := (H2.out.r.left hlA)
    have hN : ∀ k, Nor2 (w2.alloc (.cells #[.pointer (some ⟨rx.Q, 0, none⟩), .pointer (some ⟨tx.Q, 0, none⟩), .int .i64 0, .int .i64 0, .int .i64 0] 149)) rx tx k := fun k => ⟨hR.none_no k, hT.none_no k⟩
    refine ⟨Whole.new _ _ _, ⟨_, _, _, [], ⟨H1.out.q.left0 hlB, hR, (fun p hp => by simp [rxSlots] at hp), by simp [rxSlots], (fun p hp => by simp at hp)⟩, rfl⟩, ⟨_, _, _, [], ⟨H2.out.q.left0 hlA, hT, (fun p hp => by simp at hp), by simp, (fun p hp => by simp at hp), ?_⟩, rfl⟩, ⟨H1.out.ap, H2.out.ap⟩, ⟨fun k hk hm => ?_, fun hm => ?_, fun hm => ?_⟩, fun k _ => hN k, fun k hk => ?_, by simp, ?_⟩
    · rw [freeN_rep]
      rfl
    · have := hr k hk
      have := ht k hm
      omega
    · have := hr _ hm
      omega
    · have := ht _ hm
      omega
    · rcases List.mem_cons.1 hk with rfl | hk
      · omega
      · rcases List.mem_append.1 hk with hk | hk
        · have := hr k hk
          omega
        · have := ht k hk
          omega
    · exact (H1.out.bl.trans (H2.out.bl.mono hz1)).alloc (by omega) _
  have H0 := Lib.hid h0
  obtain ⟨w3, hw3⟩ : ∃ w3, w3 = (w2.alloc (.cells #[.pointer (some ⟨rx.Q, 0, none⟩), .pointer (some ⟨tx.Q, 0, none⟩), .int .i64 0, .int .i64 0, .int .i64 0] 149)) := ⟨_, rfl⟩
  rw [← hw3] at H0 ⊢
  clear h0 hw3 H1 H2
  go_wp2
  go_loopw [2, 7] (fun _ i wr => ∃ j : Nat, i = .int .i64 j ∧ j ≤ 16 ∧ Hid (NicP w wr w2.heap.size rx tx (w2.heap.size + 1) j)) (fun _ i _ => 16 - (intOf i).toNat)
  case atStart => exact ⟨0, rfl, by omega, H0⟩
  case round =>
    obtain ⟨j, rfl, hj, HJ⟩ := hrel
    by_cases hlt : j < 16
    · have hJ := HJ.out
      obtain ⟨own, used, Bk, W, hR, hWr⟩ := hJ.rx_
      have c0 : wr.cell? ⟨w2.heap.size, 0, none⟩ = some (.pointer (some ⟨rx.Q, 0, none⟩)) := by rw [hJ.head.cell]; rfl
      have hsA : ∀ x ∈ rx.s.all, x ∈ rx.all := fun x hx => QS.all_mem.2 (.inr (.inl hx))
      have hbA : ∀ x ∈ rx.blocks, x ∈ rx.all := fun x hx => QS.all_mem.2 (.inl hx)
      have HPUT := Lib.hid (put_any hR.q hR.r hJ.ap.1 (fun x hx => (hJ.nor x (by simp [hbA x hx])).1) (by omega) hlt (m := 2048) (by omega) (by omega) true)
      have HR := Lib.hid hR
      have HWR := Lib.hid hWr
      clear hJ hR hWr
      go_wp2_with fail
      refine HPUT.out.mono ?_
      rintro e w4 ⟨rfl, f, hf1, hf2, hq, hr, hl, hno⟩
      have HEND : Hid (NicP w w4 w2.heap.size rx tx (w2.heap.size + 1) (j + 1)) := Lib.hid (by
        have hJ := HJ.out
        have hLbA : ∀ x ∈ rx.s.all ++ [rx.ob, rx.ub], x ∈ rx.all := fun x hx => by
          rcases List.mem_append.1 hx with hx | hx
          · exact hsA x hx
          · simp only [List.mem_cons, List.mem_nil_iff, or_false] at hx
            rcases hx with rfl | rfl
            · exact hbA _ rx.mem4.2.1
            · exact hbA _ rx.mem4.2.2.1
        have hheads := hr.heads
        rw [List.map_nil, List.map_nil, List.append_nil] at hheads
        have hk2 : ∀ k, k < wr.heap.size → Nor2 wr rx tx k → Nor2 w4 rx tx k := fun k hk hn => ⟨hno k hk hn.1, hn.2.left hl (fun hm => hJ.dis.1 _ (hLbA _ hm) (bw_all tx)) hJ.tx_.bw_lt⟩
        refine ⟨hJ.head.left hl (fun hm => hJ.dis.2.1 (hLbA _ hm)), ⟨_, _, _, W ++ [(f, j)], ⟨hq, by rw [List.map_append]; exact hr, rx_add HR.out.slot hlt hf1 (by have := HR.out.q.len.1; omega) hheads, ?_, (fun p hp => by simp at hp)⟩, by rw [List.map_append, HWR.out, List.range_succ]; rfl⟩, hJ.tx_.left hl (fun k hk => ⟨hJ.dis.1 k (hLbA k hk), (hJ.nor k (by simp [hLbA k hk])).2⟩), hJ.ap, hJ.dis, fun k hk => hk2 k (Nat.lt_of_lt_of_le (hJ.rng k hk).2 hJ.hi_) (hJ.nor k hk), hJ.rng, Nat.le_trans hJ.hi_ hl.size, hJ.bl.trans (hl.belowB hJ.bl.size (fun k hk => (hJ.rng k (by simp [hLbA k hk])).1))⟩
        · have : (rxSlots (W ++ [(f, j)]) []).map (·.2) = List.range (j + 1) := by
            simp only [rxSlots, List.map_nil, List.append_nil, List.map_append]
            rw [HWR.out, List.range_succ]
            rfl
          rw [this]
          exact List.nodup_range)
      clear hf1 hf2 hq hr hl hno c0
      go_wp2
      go_roundw
      case rel => exact ⟨j + 1, by go_num, by omega, HEND⟩
      case measure => simp [intOf]; omega
    · have hj16 : j = 16 := by omega
      subst hj16
      go_wp2
      go_ret
      have hJ := HJ.out
      obtain ⟨own, used, Bk, W, hR, hWr⟩ := hJ.rx_
      exact ⟨_, rx, tx, _, rfl, ⟨hJ.head, ⟨own, used, Bk, W, [], hR, by have := congrArg List.length hWr; simpa using this, rfl⟩, hJ.tx_, hJ.ap, hJ.dis, hJ.nor, hJ.rng, hJ.hi_⟩, hJ.bl⟩
end Go.Proofs.Ytfffehbipcikoaa
