/- The page's disk: Write, Read, Flush, Pending. -/


import Derived.Test.YtbhoiibcfibmhaaDpAsk
namespace Go.Proofs.Ytbhoiibcfibmhaa
open Go.RowKit Go.MapKept
section
variable {w w' : World} {base P : Nat} {F S : List Nat} {kv nv fv wv : Value} {Qv : List RV} {s s' : DS}
set_option maxHeartbeats 1000000 in
theorem rWrite_g (h : PgG w base P F s) (hz : base ≤ w.heap.size) (n : Int) {bv : Value} {b : List UInt8} {B0 : Nat} (hb : Rd w B0 1 bv b.length (u8s b)) (hB0 : B0 ≤ w.heap.size) (hbF : ∀ k ∈ F, B0 ≤ k) (hbl : b.length ≤ 1000000) (hlast : 0 ≤ s.last ∧ s.last ≤ 1000000000) :
    Calls Try.prog 27 #[.pointer (some ⟨P, 0, none⟩), .int .i64 n, bv] w (AskQ w base P F (askS s 1 n b (isS s.K n && b.length == 64))) := by
  have HI := Lib.hid (sector_g h n)
  have HASK := fun good hg => rask_g h hz 1 n hb hB0 hbF good hg hbl hlast
  obtain ⟨bo, bc, rfl, hbc, hbm⟩ := hb.form
  have hbm2 : bc ≤ 9223372036854775807 := by unfold maxLen at hbm; omega
  cases hi : isS s.K n
  · have HA := Lib.hid (HASK false (fun h => by cases h))
    have HI' := Lib.hid hi
    rw [Bool.false_and]
    clear h hb hbm HASK hi
    go_enter Try.func27, Try.ntmps27
    go_wp2_with (go_at_call 42; refine HI.out.mono ?_; rintro e w' ⟨rfl, rfl⟩; rw [HI'.out])
    refine HA.out.mono ?_
    rintro e w1 ⟨rfl, hF⟩
    have HF := Lib.hid hF
    clear hF
    go_wp2
    go_ret2
    exact ⟨rfl, HF.out⟩
  · by_cases h64 : b.length = 64
    · have HA := Lib.hid (HASK true (fun _ id => .inr (.inl ⟨rfl, isS_in hi, h64⟩)))
      have HI' := Lib.hid hi
      have hl : ((b.length : Int) == 64) = true := by simp [h64]
      rw [show (true && b.length == 64) = true by simp [h64]]
      clear h hb hbm HASK hi h64
      go_enter Try.func27, Try.ntmps27
      go_wp2_with (go_at_call 42; refine HI.out.mono ?_; rintro e w' ⟨rfl, rfl⟩; rw [HI'.out])
      refine HA.out.mono ?_
      rintro e w1 ⟨rfl, hF⟩
      have HF := Lib.hid hF
      clear hF
      go_wp2
      go_ret2
      exact ⟨rfl, HF.out⟩
    · have HA := Lib.hid (HASK false (fun h => by cases h))
      have HI' := Lib.hid hi
      have hl : ((b.length : Int) == 64) = false := beq_eq_false_iff_ne.2 (by omega)
      rw [show (true && b.length == 64) = false by simp [h64]]
      clear h hb hbm HASK hi h64
      go_enter Try.func27, Try.ntmps27
      go_wp2_with (go_at_call 42; refine HI.out.mono ?_; rintro e w' ⟨rfl, rfl⟩; rw [HI'.out])
      refine HA.out.mono ?_
      rintro e w1 ⟨rfl, hF⟩
      have HF := Lib.hid hF
      clear hF
      go_wp2
      go_ret2
      exact ⟨rfl, HF.out⟩
set_option maxHeartbeats 1000000 in
theorem rRead_g (h : PgG w base P F s) (hz : base ≤ w.heap.size) (n : Int) (hlast : 0 ≤ s.last ∧ s.last ≤ 1000000000) :
    Calls Try.prog 19 #[.pointer (some ⟨P, 0, none⟩), .int .i64 n] w (AskQ w base P F (askS s 0 n [] (isS s.K n))) := by
  have HI := Lib.hid (sector_g h n)
  have HA := Lib.hid (rask_g h hz 0 n (b := []) (show Rd w 0 1 (.slice none 0 0) ([] : List UInt8).length (u8s []) from Rd.nil_ w 0 1) (Nat.zero_le _) (fun k _ => Nat.zero_le k) (isS s.K n) (fun hi id => .inl ⟨rfl, isS_in hi⟩) (by simp) hlast)
  clear h
  go_enter Try.func19, Try.ntmps19
  go_wp2_with (go_at_call 42; refine HI.out.mono ?_; rintro e w' ⟨rfl, rfl⟩)
  refine HA.out.mono ?_
  rintro e w1 ⟨rfl, hF⟩
  have HF := Lib.hid hF
  clear hF
  go_wp2
  go_ret2
  exact ⟨rfl, HF.out⟩
set_option maxHeartbeats 1000000 in
theorem rFlush_g (h : PgG w base P F s) (hz : base ≤ w.heap.size) (hlast : 0 ≤ s.last ∧ s.last ≤ 1000000000) :
    Calls Try.prog 20 #[.pointer (some ⟨P, 0, none⟩)] w (AskQ w base P F (askS s 2 0 [] true)) := by
  have HA := Lib.hid (rask_g h hz 2 0 (b := []) (show Rd w 0 1 (.slice none 0 0) ([] : List UInt8).length (u8s []) from Rd.nil_ w 0 1) (Nat.zero_le _) (fun k _ => Nat.zero_le k) true (fun _ id => .inr (.inr rfl)) (by simp) hlast)
  clear h
  go_enter Try.func20, Try.ntmps20
  go_wp2_with fail
  refine HA.out.mono ?_
  rintro e w1 ⟨rfl, hF⟩
  have HF := Lib.hid hF
  clear hF
  go_wp2
  go_ret2
  exact ⟨rfl, HF.out⟩
set_option maxRecDepth 20000 in
set_option maxHeartbeats 2000000 in
theorem rPending_g (h : PgG w base P F s) :
    Calls Try.prog 30 #[.pointer (some ⟨P, 0, none⟩)] w (PendP w s) := by
  obtain ⟨kv, nv, fv, wv, Qv, h⟩ := h
  obtain ⟨wo, wc, rfl, hwc, hwm⟩ := (Rd.of_own h.waits).form
  have hroom := h.room
  have hqs : s.Q = Qv.map (·.1) := h.qval.symm
  have c2 : w.cell? ⟨P, 3, none⟩ = some (.slice wo Qv.length wc) := by rw [h.head.cell]; rfl
  have HD := Lib.hid h
  have hqlen : s.Q.length = Qv.length := by rw [hqs]; simp
  have HQ : Hid (ids s.Q = Qv.map fun q => .int .i64 q.1.id) := Lib.hid (by rw [hqs]; simp [ids])
  have HP : Hid (PendP w s = fun e w' => ∃ v, e = .returned v ∧ w'.ownsRow w.heap.size 3 1 v Qv.length (Qv.map fun q => .int .i64 q.1.id) ∧ Below w.heap.size w w') := Lib.hid (by funext e w'; unfold PendP; rw [hqlen, HQ.out])
  rw [HP.out]
  obtain ⟨Z, hZ⟩ : ∃ Z, (Qv.map fun q => Value.int .i64 q.1.id) = Z := ⟨_, rfl⟩
  have hZl : Z.length = Qv.length := by rw [← hZ]; simp
  rw [hZ]
  have HZ := Lib.hid hZ
  have HZL := Lib.hid hZl
  clear h hqs hqlen hwm hZ hZl HP HQ
  go_enter Try.func30, Try.ntmps30
  go_wp2
  go_loopw [3, 4] (fun v i wr => ∃ k : Nat, k ≤ Qv.length ∧ i = .int .i64 k ∧ wr.ownsRow w.heap.size 3 1 v k (Z.take k) ∧ Below w.heap.size w wr) (fun _ i _ => Qv.length - (intOf i).toNat)
  case atStart => exact ⟨0, by omega, rfl, by simpa using World.ownsRow_nil _ _ _ _, Below.refl _ _⟩
  case round =>
    obtain ⟨k, hk, rfl, hown, hb⟩ := hrel
    have hzs := hb.size
    by_cases hlt : k < Qv.length
    · have hDr := HD.out.left (Left.of_below hb []) (by simp)
      obtain ⟨g, cap', hwv, hBg, hgl, _, _⟩ := own_form hDr.waits (by omega)
      injection hwv with e1 e2 e3
      subst e1 e3
      have hq : Qv[k]? = some Qv[k] := List.getElem?_eq_getElem hlt
      obtain ⟨q, hqq⟩ : ∃ q, q = Qv[k] := ⟨_, rfl⟩
      rw [← hqq] at hq
      obtain ⟨x1, x2, x3, x4⟩ := wCells_at Qv k q hq
      have y0 : wr.cell? ⟨g, k * 4, none⟩ = some (.int .i64 q.1.id) := (hDr.waits.cellAt (k * 4) (by omega)).trans x1
      have y1 : wr.cell? ⟨g, k * 4 + 1, none⟩ = some (.int .i64 q.1.kind) := (hDr.waits.cellAt (k * 4 + 1) (by omega)).trans x2
      have y2 : wr.cell? ⟨g, k * 4 + 2, none⟩ = some (.int .i64 q.1.n) := (hDr.waits.cellAt (k * 4 + 2) (by omega)).trans x3
      have y3 : wr.cell? ⟨g, k * 4 + 3, none⟩ = some q.2 := (hDr.waits.cellAt (k * 4 + 3) (by omega)).trans x4
      obtain ⟨ho, _, _⟩ := hDr.reqs q (List.mem_of_getElem? hq)
      obtain ⟨bo, bc, hbv, _, _⟩ := (Rd.of_own ho).form
      rw [hbv] at y3
      have hs : Z.take k ++ [.int .i64 q.1.id] = Z.take (k + 1) := (take_snoc_at (by rw [← HZ.out, List.getElem?_map, hq]; rfl)).symm
      have HS := Lib.hid hs
      have HO := Lib.hid hown
      have hgk : g < w.heap.size := by have := (HD.out.waits.lt g rfl).2; exact this
      clear hDr hqq hq x1 x2 x3 x4 ho hbv hs hown
      obtain ⟨⟨id, kind, n, b⟩, qv⟩ := q
      dsimp only at y0 y1 y2 y3 HS
      have cr := cell_left' c2 (Left.of_below hb []) (by simp)
      clear y1 y2 y3
      go_wp2_with (at_builtin; refine wpList_app _ rfl (.tmp 14) (.tmp 23) _ rfl w.heap.size 3 (.int .i64 0) 1 8 Try.underlying33 info_intD rfl (by omega) _ k (Z.take k) rfl (HO.out.alloc _) _ _ 1 [.int .i64 id] rfl (one_newN wr.heap.size rfl) (by simp [Value.oneCell']) ?_ ?_ ?_ ?_)
      · unfold maxLen; omega
      · omega
      · (try simp); omega
      intro v1 w1 hown1 hg1 _
      have hb1 := (hb.alloc hzs _).grown hg1 (by simp; omega) (fun g hg => (HO.out.lt g hg).1)
      rw [HS.out] at hown1
      have HO1 := Lib.hid hown1
      clear hown1 hg1
      go_wp2
      go_roundw
      case rel => exact ⟨k + 1, by omega, by go_num, HO1.out, hb1⟩
      case measure => simp [intOf]; omega
    · have : k = Qv.length := by omega
      have cr := cell_left' c2 (Left.of_below hb []) (by simp)
      subst this
      go_wp2
      go_ret
      exact ⟨_, rfl, by rw [List.take_of_length_le (by rw [HZL.out]; exact Nat.le_refl _)] at hown; exact hown, hb⟩
end
end Go.Proofs.Ytbhoiibcfibmhaa
