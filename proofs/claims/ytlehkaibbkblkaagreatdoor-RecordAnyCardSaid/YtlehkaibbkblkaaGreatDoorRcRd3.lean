/- Reading a state's bytes, whatever they are: a session. -/




import Derived.Test.YtlehkaibbkblkaaGreatDoorRcRd2
import Derived.Test.YtlehkaibbkblkaaGreatDoorGb
import Derived.Test.YtlehkaibbkblkaaGreatDoorDrawK
import Derived.Test.YtlehkaibbkblkaaGreatDoorGa
namespace Go.Proofs.YtlehkaibbkblkaaGreatDoor
open Go.RowKit
theorem inf_W : (Tryz.prog.info? 62).map (fun i => (i.zero, i.size, i.bytes)) = some (some (.agg #[.string ⟨#[]⟩, .int .i64 0]), 2, 24) := by kernel_rfl
theorem inf_I : (Tryz.prog.info? 3).map (fun i => (i.zero, i.size, i.bytes)) = some (some (.int .i64 0), 1, 8) := by kernel_rfl
/-- A session's cells, as they are read. -/
def sc (c : ByteArray) (sv : Value) (last : Int) (fv qv iv : Value) : List Value := [.string c, .bool false, .int .i64 0, sv, .int .i64 last, fv, qv, iv, .bool false, .string ⟨#[]⟩, .string ⟨#[]⟩, .int .i64 0, .bool false, .int .i64 0, .int .i64 0]
/-- A session on its way. -/
structure SI (w wr : World) (Bd RB N B T T2 : Nat) (c : ByteArray) (sv : Value) (S : List Wish1) (last : Int) (fv : Value) (F : List Fl) (qv : Value) (Q : List Msg) (iv : Value) (I : List Int) : Prop where
  r : RdAt wr Bd RB N
  W : Whole wr T 52 (sc c sv last fv qv iv)
  Z : Whole wr T2 52 (sc ⟨#[]⟩ (.slice none 0 0) 0 (.slice none 0 0) (.slice none 0 0) (.slice none 0 0))
  s : wr.ownsRow B 62 2 sv S.length (eW.cells S)
  f : wr.ownsRow B 67 6 fv F.length (eF.cells F)
  q : OwnM wr B qv Q
  i : wr.ownsRow B 3 1 iv I.length (eI.cells I)
  l : Left [RB] w wr
  o : RB < T2 ∧ T2 < T ∧ T < B ∧ w.heap.size ≤ T2 ∧ B ≤ wr.heap.size
theorem RdAt.lft {w w' : World} {Bd RB N : Nat} {S : List Nat} (h : RdAt w Bd RB N) (hl : Left S w w') (hS : ∀ k ∈ S, RB < k) : RdAt w' Bd RB N := by
  obtain ⟨bv, y, bad, h1, h2, h3, h4⟩ := h
  have hb : Below (RB + 1) w w' := hl.belowB (by have := h1.lt; omega) (fun k hk => by have := hS k hk; omega)
  exact ⟨bv, y, bad, h1.below hb (by omega), h2.below (hb.mono (by omega)), h3, h4⟩
/-- What one more thing in a row leaves of the session's cells. -/
theorem SI_cell {w5 wA : World} {B T n size : Nat} {e : TypeId} {v : Value} {us cs : List Value} (hW : Whole wA T 52 cs) (ho : wA.ownsRow B e size v n us) (hT : T < B) (hg : wA.grownBy w5 v.ownBlock) : Whole w5 T 52 cs :=
  hW.left (left_of_grown hg) (fun hm => by have := (ho.lt T (mem_ownL.1 hm)).1; omega)
section
variable {w wr w' : World} {Bd RB N B T T2 : Nat} {c : ByteArray} {sv v' : Value} {S : List Wish1} {last : Int} {fv : Value} {F : List Fl} {qv : Value} {Q : List Msg} {iv : Value} {I : List Int}
theorem SI.left (h : SI w wr Bd RB N B T T2 c sv S last fv F qv Q iv I) (hr : RdAt w' Bd RB N) (hl : Left [RB] wr w') : SI w w' Bd RB N B T T2 c sv S last fv F qv Q iv I := by
  have ho := h.o
  exact ⟨hr, h.W.left hl (by simp; omega), h.Z.left hl (by simp; omega), own_left h.s hl (by simp; omega), own_left h.f hl (by simp; omega), own_left h.q hl (by simp; omega), own_left h.i hl (by simp; omega), h.l.trans hl (fun k hk => .inl hk), ho.1, ho.2.1, ho.2.2.1, ho.2.2.2.1, Nat.le_trans ho.2.2.2.2 hl.size⟩
theorem SI.below (h : SI w wr Bd RB N B T T2 c sv S last fv F qv Q iv I) (hb : Below wr.heap.size wr w') : SI w w' Bd RB N B T T2 c sv S last fv F qv Q iv I := h.left (h.r.below hb) (Left.of_below hb _)
/-- Something new is laid at the session. -/
theorem SI.put {w5 w6 : World} {X : List Nat} {sv' : Value} {S' : List Wish1} {last' : Int} {fv' : Value} {F' : List Fl} {qv' : Value} {Q' : List Msg} {iv' : Value} {I' : List Int} (h : SI w wr Bd RB N B T T2 c sv S last fv F qv Q iv I)
    (hg : Left X wr w5) (hX : ∀ k ∈ X, B ≤ k) (hr : RdAt w5 Bd RB N) (hs : w5.ownsRow B 62 2 sv' S'.length (eW.cells S')) (hf : w5.ownsRow B 67 6 fv' F'.length (eF.cells F')) (hq : OwnM w5 B qv' Q') (hi : w5.ownsRow B 3 1 iv' I'.length (eI.cells I'))
    (hl : Left [T] w5 w6) (hr6 : RdAt w6 Bd RB N) (hW : Whole w6 T 52 (sc c sv' last' fv' qv' iv')) : SI w w6 Bd RB N B T T2 c sv' S' last' fv' F' qv' Q' iv' I' := by
  have hoo := h.o
  have hT : ∀ k ∈ [T], k < B := fun k hk => by rw [List.mem_singleton.1 hk]; exact hoo.2.2.1
  refine ⟨hr6, hW, (h.Z.left hg (fun hm => by have := hX _ hm; omega)).left hl (by simp; omega), own_left hs hl hT, own_left hf hl hT, own_left hq hl hT, own_left hi hl hT, ?_, hoo.1, hoo.2.1, hoo.2.2.1, hoo.2.2.2.1, Nat.le_trans hoo.2.2.2.2 (Nat.le_trans hg.size hl.size)⟩
  exact (h.l.trans hg (fun k hk => .inr (by have := hX k hk; omega))).trans hl (fun k hk => .inr (by rw [List.mem_singleton.1 hk]; omega))
theorem set1 (w : World) (T j : Nat) (u : Value) : Left [T] w (w.setCell ⟨T, j, none⟩ u) := (Left.refl [T] w).setCell (.inl (by simp)) _
/-- One more wish. -/
theorem SI.put_s {x : Wish1} (h : SI w wr Bd RB N B T T2 c sv S last fv F qv Q iv I) (ho : w'.ownsRow B 62 2 v' (S.length + 1) (eW.cells S ++ eW.c x)) (hg : wr.grownBy w' sv.ownBlock) :
    SI w (w'.setCell ⟨T, 3, none⟩ v') Bd RB N B T T2 c v' (S ++ [x]) last fv F qv Q iv I := by
  have hoo := h.o
  have hl := left_of_grown hg
  have hne : ∀ k ∈ Value.ownL sv, B ≤ k := fun k hk => (h.s.lt k (mem_ownL.1 hk)).1
  have hty : ∀ k ∈ Value.ownL sv, Ty wr k 62 := fun k hk => own_ty h.s (mem_ownL.1 hk)
  have hr := h.r.grown h.s (by omega) hg
  refine h.put hl hne hr (by rw [eW.cells_app, eW.cells_one, List.length_append]; exact ho) (own_leftB h.f hl (fun k hk e => (own_ty h.f e).ne (hty k hk) (by decide) rfl)) (own_leftB h.q hl (fun k hk e => (own_ty h.q e).ne (hty k hk) (by decide) rfl))
    (own_leftB h.i hl (fun k hk e => (own_ty h.i e).ne (hty k hk) (by decide) rfl)) (set1 w' T 3 v') (hr.set (by omega) 3 v') ((SI_cell h.W h.s hoo.2.2.1 hg).put 3 v')
/-- One more message on its way. -/
theorem SI.put_f {x : Fl} (h : SI w wr Bd RB N B T T2 c sv S last fv F qv Q iv I) (ho : w'.ownsRow B 67 6 v' (F.length + 1) (eF.cells F ++ eF.c x)) (hg : wr.grownBy w' fv.ownBlock) :
    SI w (w'.setCell ⟨T, 5, none⟩ v') Bd RB N B T T2 c sv S last v' (F ++ [x]) qv Q iv I := by
  have hoo := h.o
  have hl := left_of_grown hg
  have hne : ∀ k ∈ Value.ownL fv, B ≤ k := fun k hk => (h.f.lt k (mem_ownL.1 hk)).1
  have hty : ∀ k ∈ Value.ownL fv, Ty wr k 67 := fun k hk => own_ty h.f (mem_ownL.1 hk)
  have hr := h.r.grown h.f (by omega) hg
  refine h.put hl hne hr (own_leftB h.s hl (fun k hk e => (own_ty h.s e).ne (hty k hk) (by decide) rfl)) (by rw [eF.cells_app, eF.cells_one, List.length_append]; exact ho) (own_leftB h.q hl (fun k hk e => (own_ty h.q e).ne (hty k hk) (by decide) rfl))
    (own_leftB h.i hl (fun k hk e => (own_ty h.i e).ne (hty k hk) (by decide) rfl)) (set1 w' T 5 v') (hr.set (by omega) 5 v') ((SI_cell h.W h.f hoo.2.2.1 hg).put 5 v')
/-- One more identifier. -/
theorem SI.put_i {x : Int} (h : SI w wr Bd RB N B T T2 c sv S last fv F qv Q iv I) (ho : w'.ownsRow B 3 1 v' (I.length + 1) (eI.cells I ++ eI.c x)) (hg : wr.grownBy w' iv.ownBlock) :
    SI w (w'.setCell ⟨T, 7, none⟩ v') Bd RB N B T T2 c sv S last fv F qv Q v' (I ++ [x]) := by
  have hoo := h.o
  have hl := left_of_grown hg
  have hne : ∀ k ∈ Value.ownL iv, B ≤ k := fun k hk => (h.i.lt k (mem_ownL.1 hk)).1
  have hty : ∀ k ∈ Value.ownL iv, Ty wr k 3 := fun k hk => own_ty h.i (mem_ownL.1 hk)
  have hr := h.r.grown h.i (by omega) hg
  refine h.put hl hne hr (own_leftB h.s hl (fun k hk e => (own_ty h.s e).ne (hty k hk) (by decide) rfl)) (own_leftB h.f hl (fun k hk e => (own_ty h.f e).ne (hty k hk) (by decide) rfl)) (own_leftB h.q hl (fun k hk e => (own_ty h.q e).ne (hty k hk) (by decide) rfl))
    (by rw [eI.cells_app, eI.cells_one, List.length_append]; exact ho) (set1 w' T 7 v') (hr.set (by omega) 7 v') ((SI_cell h.W h.i hoo.2.2.1 hg).put 7 v')
/-- The messages that wait. -/
theorem SI.put_q {Q' : List Msg} (h : SI w wr Bd RB N B T T2 c sv S last fv F qv Q iv I) (hq : OwnM wr B v' Q') : SI w (wr.setCell ⟨T, 6, none⟩ v') Bd RB N B T T2 c sv S last fv F v' Q' iv I :=
  have hoo := h.o
  h.put (Left.refl [] wr) (by simp) h.r h.s h.f hq h.i (set1 wr T 6 v') (h.r.set (by omega) 6 v') (h.W.put 6 v')
/-- An outbox, laid anew. -/
theorem SI.put_o {fv' qv' : Value} {last' : Int} {F' : List Fl} {Q' : List Msg} (h : SI w wr Bd RB N B T T2 c sv S last fv F qv Q iv I) (hf : wr.ownsRow B 67 6 fv' F'.length (eF.cells F')) (hq : OwnM wr B qv' Q') :
    SI w (((wr.setCell ⟨T, 4, none⟩ (.int .i64 last')).setCell ⟨T, 5, none⟩ fv').setCell ⟨T, 6, none⟩ qv') Bd RB N B T T2 c sv S last' fv' F' qv' Q' iv I :=
  have hoo := h.o
  h.put (Left.refl [] wr) (by simp) h.r h.s hf hq h.i (((set1 wr T 4 _).trans (set1 _ T 5 _) (fun k hk => .inl hk)).trans (set1 _ T 6 _) (fun k hk => .inl hk)) (((h.r.set (by omega) 4 _).set (by omega) 5 _).set (by omega) 6 _) (((h.W.put 4 _).put 5 _).put 6 _)
end
/-- A session that was read: rows of its own, no text too long. -/
structure SOwn (w : World) (B N : Nat) (r : Rs) : Prop where
  s : w.ownsRow B 62 2 (.slice r.sa r.s.S.length r.sc) r.s.S.length (eW.cells r.s.S)
  f : w.ownsRow B 67 6 (.slice r.fa r.s.o.F.length r.fc) r.s.o.F.length (eF.cells r.s.o.F)
  q : w.ownsRow B 64 4 (.slice r.qa r.s.o.Q.length r.qc) r.s.o.Q.length (eM.cells r.s.o.Q)
  i : w.ownsRow B 3 1 (.slice r.ia r.s.I.length r.ic) r.s.I.length (eI.cells r.s.I)
structure SN (N : Nat) (y : Se) : Prop where
  zc : y.c.size ≤ N
  zs : y.S.length ≤ N ∧ ∀ x ∈ y.S, x.f.size ≤ N
  zf : y.o.F.length ≤ N ∧ ∀ x ∈ y.o.F, MN N x.m
  zq : y.o.Q.length ≤ N ∧ ∀ x ∈ y.o.Q, MN N x
  zi : y.I.length ≤ N
  zw : y.wl.t.size ≤ N ∧ y.wl.p.size ≤ N
set_option maxRecDepth 20000 in
set_option maxHeartbeats 4000000 in
theorem session_r (w : World) (Bd RB N : Nat) (h : RdAt w Bd RB N) (hN : N ≤ 100000) :
    Calls Tryz.prog 13 #[.pointer (some ⟨RB, 0, none⟩)] w fun e w' => ∃ r : Rs, e = .returned (seV r) ∧ SOwn w' w.heap.size N r ∧ SN N r.s ∧ RdAt w' Bd RB N ∧ Left [RB] w w' := by
  have HN := Lib.hid hN
  have HRB : Hid (RB < w.heap.size) := Lib.hid (by obtain ⟨_, _, _, hW, _⟩ := h; exact hW.lt)
  have HT := Lib.hid (fun w' (h : RdAt w' Bd RB N) => text_r w' Bd RB N h (by omega))
  have HB0 : Below w.heap.size w (w.alloc (.cells (sc ⟨#[]⟩ (.slice none 0 0) 0 (.slice none 0 0) (.slice none 0 0) (.slice none 0 0)).toArray 52)) := (Below.refl _ _).alloc (Nat.le_refl _) _
  have HZ0 := Whole.new w 52 (sc ⟨#[]⟩ (.slice none 0 0) 0 (.slice none 0 0) (.slice none 0 0) (.slice none 0 0))
  have hz0 : (w.alloc (.cells (sc ⟨#[]⟩ (.slice none 0 0) 0 (.slice none 0 0) (.slice none 0 0) (.slice none 0 0)).toArray 52)).heap.size = w.heap.size + 1 := by simp
  have HT1 := Lib.hid (HT.out _ (h.below HB0))
  have HZ0 := Lib.hid HZ0
  have HB0 := Lib.hid HB0
  have HZZ := Lib.hid hz0
  simp only [sc] at HT1 HZ0 HB0 HZZ
  clear h hz0
  go_enter Tryz.func13, Tryz.ntmps13
  go_upto_region 2 with (go_at_call 25; refine HT1.out.mono ?_; rintro e w1 ⟨c, rfl, hc, hr1, hl1⟩)
  have hz1 := hl1.size
  have hzz := HZZ.out
  have hRB := HRB.out
  have HI0 : Hid (SI w (w1.alloc (.cells #[.string c, .bool false, .int .i64 0, .slice none 0 0, .int .i64 0, .slice none 0 0, .slice none 0 0, .slice none 0 0, .bool false, .string ⟨#[]⟩, .string ⟨#[]⟩, .int .i64 0, .bool false, .int .i64 0, .int .i64 0] 52)) Bd RB N (w1.heap.size + 1) w1.heap.size w.heap.size c (.slice none 0 0) [] 0 (.slice none 0 0) [] (.slice none 0 0) [] (.slice none 0 0) []) := Lib.hid
    ⟨hr1.below ((Below.refl _ _).alloc (Nat.le_refl _) _), Whole.new w1 52 _, (HZ0.out.left hl1 (by simp; omega)).alloc _, World.ownsRow_nil _ _ _ _, World.ownsRow_nil _ _ _ _, World.ownsRow_nil _ _ _ _, World.ownsRow_nil _ _ _ _, ((Left.of_below HB0.out [RB]).trans hl1 (fun k hk => .inl hk)).alloc _, by omega, by omega, by omega, by omega, by simp⟩
  generalize (w1.alloc (.cells #[.string c, .bool false, .int .i64 0, .slice none 0 0, .int .i64 0, .slice none 0 0, .slice none 0 0, .slice none 0 0, .bool false, .string ⟨#[]⟩, .string ⟨#[]⟩, .int .i64 0, .bool false, .int .i64 0, .int .i64 0] 52)) = w2 at HI0 ⊢
  obtain ⟨T, hT⟩ : ∃ T, w1.heap.size = T := ⟨_, rfl⟩
  obtain ⟨T2, hT2⟩ : ∃ T2, w.heap.size = T2 := ⟨_, rfl⟩
  rw [hT, hT2] at HI0
  rw [hT, hT2]
  have HT2 := Lib.hid hT2
  have HCN := Lib.hid hc
  have HC := Lib.hid (fun w' (h : RdAt w' Bd RB N) => count_r w' Bd RB N h (by omega))
  have HNU := Lib.hid (fun w' (h : RdAt w' Bd RB N) => number_r w' Bd RB N h (by omega))
  have HIS := Lib.hid (fun w' (h : RdAt w' Bd RB N) => is_r w' Bd RB N h (by omega))
  have HME := Lib.hid (fun w' (h : RdAt w' Bd RB N) => message_r w' Bd RB N h (by omega))
  have HMS := Lib.hid (fun w' (h : RdAt w' Bd RB N) => messages_r w' Bd RB N h (by omega))
  obtain ⟨B, hBB⟩ : ∃ B, T + 1 = B := ⟨_, rfl⟩
  rw [hBB] at HI0
  clear HT1 HZ0 HB0 HZZ hc hr1 hl1 hz1 hzz hRB hT hT2 hBB
  have HR2 := HI0.out.r
  go_wp2_with (go_at_call 12; refine (HC.out _ HR2).mono ?_; rintro e w3 ⟨n, rfl, hr3, hl3⟩; have hnN : n ≤ N := (by obtain ⟨_, y, _, _, _, h1, _, h2⟩ := hr3; omega); have HI3 := Lib.hid (HI0.out.left hr3.at_ hl3); clear hr3 hl3)
  clear HR2 HI0
  go_loopw [4] (fun i wr => ∃ (k : Nat) (sv : Value) (S : List Wish1), i = .int .i64 k ∧ Hid (SI w wr Bd RB N B T T2 c sv S 0 (.slice none 0 0) [] (.slice none 0 0) [] (.slice none 0 0) []) ∧ S.length + k ≤ N ∧ Hid (∀ x ∈ S, x.f.size ≤ N)) (fun i _ => (intOf i).toNat)
  case atStart => exact ⟨n, _, [], rfl, HI3, by simpa using hnN, Lib.hid (by simp)⟩
  case round =>
    clear HI3 hnN
    obtain ⟨k, sv, S, rfl, HI, hkn, HSZ⟩ := hrel
    obtain ⟨bv, y, bad, hW, hR, hy, hBR⟩ := HI.out.r
    have c1 := hW.cell 1
    simp only [List.getElem?_cons_zero, List.getElem?_cons_succ] at c1
    clear hW hR
    obtain ⟨gb, hgb⟩ : ∃ gb : Bool, gb = (decide (0 < k) && !bad) := ⟨_, rfl⟩
    have HGB := Lib.hid hgb
    clear hgb
    go_upto_region 3 with fail
    go_cut [20] (fun s wx => s = .bool gb ∧ wx = wr)
    case first =>
      by_cases hk : k = 0
      · have HG : Hid (gb = false) := Lib.hid (by rw [HGB.out]; simp [hk])
        have hk0 : ¬ ((0 : Int) < (k : Int)) := by omega
        have hk0' : ¬ (0 < k) := by omega
        clear hk
        go_wp2
        go_meet
        exact ⟨by rw [HG.out], rfl⟩
      · have hk0 : (0 : Int) < (k : Int) := by omega
        have hk0' : 0 < k := by omega
        cases bad
        · have HG : Hid (gb = true) := Lib.hid (by rw [HGB.out]; simp [hk0'])
          go_wp2
          go_meet
          exact ⟨by rw [HG.out], rfl⟩
        · have HG : Hid (gb = false) := Lib.hid (by rw [HGB.out]; simp)
          go_wp2
          go_meet
          exact ⟨by rw [HG.out], rfl⟩
    case rest =>
      obtain ⟨rfl, hcw⟩ := hcut
      subst hcw
      cases gb
      · clear c1
        have hrN := HI.out.r
        go_wp2_with (go_at_call 24; refine (HNU.out _ hrN).mono ?_; rintro e wz ⟨last, rfl, hx, hrz, hlz⟩; have HI1 := Lib.hid (HI.out.left hrz hlz); have hW1 := HI1.out.W; have y4 := hW1.cell 4; have y5 := hW1.cell 5; have y6 := hW1.cell 6; have g4 := hW1.free 4; have g5 := hW1.free 5; have g6 := hW1.free 6; simp only [sc, List.getElem?_cons_zero, List.getElem?_cons_succ] at y4 y5 y6; clear hrz hlz hW1)
        have HI2 := Lib.hid (HI1.out.put_o (last' := last) (F' := []) (Q' := []) (World.ownsRow_nil _ _ _ _) (World.ownsRow_nil _ _ _ _))
        refine (HC.out _ HI2.out.r).mono ?_
        rintro e w3 ⟨n2, rfl, hr3, hl3⟩
        have hnN : n2 ≤ N := (by obtain ⟨_, y, _, _, _, h1, _, h2⟩ := hr3; omega)
        have HI3 := Lib.hid (HI2.out.left hr3.at_ hl3)
        clear hr3 hl3 HI2 HI1 y4 y5 y6 g4 g5 g6
        go_wp2
        have HSL : Hid (S.length ≤ N) := Lib.hid (by omega)
        clear hrN HI hkn HGB hy
        go_loopw [5] (fun i wr => ∃ (k : Nat) (fv : Value) (F : List Fl), i = .int .i64 k ∧ Hid (SI w wr Bd RB N B T T2 c sv S last fv F (.slice none 0 0) [] (.slice none 0 0) []) ∧ F.length + k ≤ N ∧ Hid (∀ x ∈ F, MN N x.m)) (fun i _ => (intOf i).toNat)
        case atStart => exact ⟨n2, _, [], rfl, HI3, by simpa using hnN, Lib.hid (by simp)⟩
        case round =>
          clear HI3 hnN
          obtain ⟨k, fv, F, rfl, HI, hkn, HFZ⟩ := hrel
          obtain ⟨bv, y, bad, hW, hR, hy, hBR⟩ := HI.out.r
          have c1 := hW.cell 1
          simp only [List.getElem?_cons_zero, List.getElem?_cons_succ] at c1
          clear hW hR
          obtain ⟨gb, hgb⟩ : ∃ gb : Bool, gb = (decide (0 < k) && !bad) := ⟨_, rfl⟩
          have HGB := Lib.hid hgb
          clear hgb
          go_upto_region 8 with fail
          go_cut [47] (fun s wx => s = .bool gb ∧ wx = wr)
          case first =>
            by_cases hk : k = 0
            · have HG : Hid (gb = false) := Lib.hid (by rw [HGB.out]; simp [hk])
              have hk0 : ¬ ((0 : Int) < (k : Int)) := by omega
              have hk0' : ¬ (0 < k) := by omega
              clear hk
              go_wp2
              go_meet
              exact ⟨by rw [HG.out], rfl⟩
            · have hk0 : (0 : Int) < (k : Int) := by omega
              have hk0' : 0 < k := by omega
              cases bad
              · have HG : Hid (gb = true) := Lib.hid (by rw [HGB.out]; simp [hk0'])
                go_wp2
                go_meet
                exact ⟨by rw [HG.out], rfl⟩
              · have HG : Hid (gb = false) := Lib.hid (by rw [HGB.out]; simp)
                go_wp2
                go_meet
                exact ⟨by rw [HG.out], rfl⟩
          case rest =>
            obtain ⟨rfl, hcw⟩ := hcut
            subst hcw
            cases gb
            · clear c1
              have hrN := HI.out.r
              obtain ⟨fo, fcp, rfl, _, _⟩ := (Rd.of_own HI.out.f).form
              have hzw := HI.out.o.2.2.2.2
              go_wp2_with (go_at_call 14; refine (HMS.out _ hrN).mono ?_; rintro e wz ⟨qv, Q, rfl, hq, hQn, hQz, hrz, hlz⟩; have HI1 := Lib.hid (HI.out.left hrz hlz); have HQ := Lib.hid (show OwnM wz B qv Q from own_base hq hzw); have HQZ := Lib.hid hQz; have hW1 := HI1.out.W; have y6 := hW1.cell 6; have g6 := hW1.free 6; simp only [sc, List.getElem?_cons_zero, List.getElem?_cons_succ] at y6; clear hrz hlz hW1 hq hQz; obtain ⟨qo, qcp, rfl, _, _⟩ := (Rd.of_own HQ.out).form)
              have HI2 := Lib.hid (HI1.out.put_q HQ.out)
              refine (HC.out _ HI2.out.r).mono ?_
              rintro e w3 ⟨n3, rfl, hr3, hl3⟩
              have hnN : n3 ≤ N := (by obtain ⟨_, y, _, _, _, h1, _, h2⟩ := hr3; omega)
              have HI3 := Lib.hid (HI2.out.left hr3.at_ hl3)
              have HFL : Hid (F.length ≤ N) := Lib.hid (by omega)
              have HQL := Lib.hid hQn
              clear hr3 hl3 HI2 HI1 y6 g6 HI hrN hkn HGB hy hQn hzw HQ
              go_wp2
              go_loopw [6] (fun i wr => ∃ (k : Nat) (iv : Value) (I : List Int), i = .int .i64 k ∧ Hid (SI w wr Bd RB N B T T2 c sv S last (.slice fo F.length fcp) F (.slice qo Q.length qcp) Q iv I) ∧ I.length + k ≤ N) (fun i _ => (intOf i).toNat)
              case atStart => exact ⟨n3, _, [], rfl, HI3, by simpa using hnN⟩
              case round =>
                clear HI3 hnN
                obtain ⟨k, iv, I, rfl, HI, hkn⟩ := hrel
                obtain ⟨bv, y, bad, hW, hR, hy, hBR⟩ := HI.out.r
                have c1 := hW.cell 1
                simp only [List.getElem?_cons_zero, List.getElem?_cons_succ] at c1
                clear hW hR
                obtain ⟨gb, hgb⟩ : ∃ gb : Bool, gb = (decide (0 < k) && !bad) := ⟨_, rfl⟩
                have HGB := Lib.hid hgb
                clear hgb
                go_upto_region 13 with fail
                go_cut [78] (fun s wx => s = .bool gb ∧ wx = wr)
                case first =>
                  by_cases hk : k = 0
                  · have HG : Hid (gb = false) := Lib.hid (by rw [HGB.out]; simp [hk])
                    have hk0 : ¬ ((0 : Int) < (k : Int)) := by omega
                    have hk0' : ¬ (0 < k) := by omega
                    clear hk
                    go_wp2
                    go_meet
                    exact ⟨by rw [HG.out], rfl⟩
                  · have hk0 : (0 : Int) < (k : Int) := by omega
                    have hk0' : 0 < k := by omega
                    cases bad
                    · have HG : Hid (gb = true) := Lib.hid (by rw [HGB.out]; simp [hk0'])
                      go_wp2
                      go_meet
                      exact ⟨by rw [HG.out], rfl⟩
                    · have HG : Hid (gb = false) := Lib.hid (by rw [HGB.out]; simp)
                      go_wp2
                      go_meet
                      exact ⟨by rw [HG.out], rfl⟩
                case rest =>
                  obtain ⟨rfl, hcw⟩ := hcut
                  subst hcw
                  cases gb
                  · clear c1
                    obtain ⟨sao, scp, rfl, _, _⟩ := (Rd.of_own HI.out.s).form
                    obtain ⟨iao, icp, rfl, _, _⟩ := (Rd.of_own HI.out.i).form
                    have hW1 := HI.out.W
                    have y4 := hW1.cell 4
                    have y5 := hW1.cell 5
                    have y6 := hW1.cell 6
                    simp only [sc, List.getElem?_cons_zero, List.getElem?_cons_succ] at y4 y5 y6
                    have HOR : Hid (OR wc (.agg #[.int .i64 last, .slice fo F.length fcp, .slice qo Q.length qcp]) ⟨last, F, Q⟩) := Lib.hid ⟨_, _, rfl, Rd.of_own HI.out.f, Rd.of_own HI.out.q⟩
                    have HSM : Hid (Small ⟨last, F, Q⟩) := Lib.hid (by have h1 := HN.out; have h2 := HFL.out; have h3 := HQL.out; exact ⟨by simp only; omega, by simp only; omega⟩)
                    have HIL : Hid (I.length ≤ N) := Lib.hid (by omega)
                    have hzw := HI.out.o.2.2.2.2
                    clear hW1 hkn HGB hy
                    go_upto_region 17 with (go_at_call 28; refine (Own_any _ _ _ HOR.out HSM.out).mono ?_; rintro e wz ⟨vo, rfl, ⟨fv2, qv2, rfl, hf2, hq2⟩, hbz⟩; obtain ⟨fo2, fcp2, rfl, _, _⟩ := (Rd.of_own hf2).form; obtain ⟨qo2, qcp2, rfl, _, _⟩ := (Rd.of_own hq2).form; have HI1 := Lib.hid (HI.out.below hbz); have HI2 := Lib.hid (HI1.out.put_o (last' := last) (own_base hf2 hzw) (own_base hq2 hzw)); have hW1 := HI1.out.W; have g4 := hW1.free 4; have g5 := hW1.free 5; have g6 := hW1.free 6; have x4 := hW1.cell 4; have x5 := hW1.cell 5; have x6 := hW1.cell 6; simp only [sc, List.getElem?_cons_zero, List.getElem?_cons_succ] at x4 x5 x6; clear hf2 hq2 hbz hW1 y4 y5 y6)
                    clear g4 g5 g6 x4 x5 x6
                    generalize (((wz.setCell ⟨T, 4, none⟩ (.int .i64 last)).setCell ⟨T, 5, none⟩ (.slice fo2 F.length fcp2)).setCell ⟨T, 6, none⟩ (.slice qo2 Q.length qcp2)) = w4 at HI2 ⊢
                    have hW1 := HI2.out.W
                    have x0 := hW1.cell 0
                    have x1 := hW1.cell 1
                    have x2 := hW1.cell 2
                    have x3 := hW1.cell 3
                    have x4 := hW1.cell 4
                    have x5 := hW1.cell 5
                    have x6 := hW1.cell 6
                    have x7 := hW1.cell 7
                    have x8 := hW1.cell 8
                    have x9 := hW1.cell 9
                    have x10 := hW1.cell 10
                    have x11 := hW1.cell 11
                    have x12 := hW1.cell 12
                    have x13 := hW1.cell 13
                    have x14 := hW1.cell 14
                    simp only [sc, List.getElem?_cons_zero, List.getElem?_cons_succ] at x0 x1 x2 x3 x4 x5 x6 x7 x8 x9 x10 x11 x12 x13 x14
                    obtain ⟨ks, hks⟩ : ∃ ks, ks = sc c (.slice sao S.length scp) last (.slice fo2 F.length fcp2) (.slice qo2 Q.length qcp2) (.slice iao I.length icp) := ⟨_, rfl⟩
                    have h1 : ∀ u ∈ ks, u.oneCell' = true := by
                      rw [hks]
                      exact eS.one ⟨⟨c, false, 0, S, ⟨last, F, Q⟩, I, ⟨false, ⟨#[]⟩, ⟨#[]⟩, 0, false⟩, 0, 0⟩, sao, scp, fo2, fcp2, qo2, qcp2, iao, icp⟩
                    have hzl : (sc ⟨#[]⟩ (.slice none 0 0) 0 (.slice none 0 0) (.slice none 0 0) (.slice none 0 0)).length = ks.length := by rw [hks]; rfl
                    obtain ⟨hW3, hl3⟩ := HI2.out.Z.setAll hzl
                    have hth := HI2.out.Z.there
                    rw [hzl] at hth
                    have HW3 := Lib.hid hW3
                    have HL3 := Lib.hid hl3
                    have HTH := Lib.hid hth
                    have HKS := Lib.hid hks
                    have H1 := Lib.hid h1
                    clear hzl hW3 hl3 hth h1 hW1
                    go_wp2_with (refine wpList_store_mid rfl _ _ _ rfl T2 0 ks.toArray rfl (by rw [hks]; rfl) (by simpa using HTH.out) (by rw [hks]; kernel_rfl) (all_oneCell_toArray H1.out) ?_)
                    clear hks
                    (try simp only [Exit.inBlock, Exit.then])
                    refine bodyPost_ret (results_cell_row (P := Tryz.prog) (p := 2) (ty := 52) rfl _ _ T2 52 ks.toArray (0, 0) _ rfl HW3.out Tryz.underlying52 rfl (by rw [HKS.out]; kernel_rfl)) rfl ?_
                    have hoo := HI2.out.o
                    have ht2 := HT2.out
                    have hS : ∀ k ∈ [T2], k < B := fun k hk => by rw [List.mem_singleton.1 hk]; omega
                    refine ⟨⟨⟨c, false, 0, S, ⟨last, F, Q⟩, I, ⟨false, ⟨#[]⟩, ⟨#[]⟩, 0, false⟩, 0, 0⟩, sao, scp, fo2, fcp2, qo2, qcp2, iao, icp⟩, by rw [HKS.out]; rfl, ⟨?_, ?_, ?_, ?_⟩, ⟨HCN.out, ⟨HSL.out, HSZ.out⟩, ⟨HFL.out, HFZ.out⟩, ⟨HQL.out, HQZ.out⟩, HIL.out, Nat.zero_le _, Nat.zero_le _⟩, HI2.out.r.lft HL3.out (fun k hk => by rw [List.mem_singleton.1 hk]; omega), HI2.out.l.trans HL3.out (fun k hk => .inr (by rw [List.mem_singleton.1 hk]; omega))⟩
                    · exact own_base (own_left HI2.out.s HL3.out hS) (by omega)
                    · exact own_base (own_left HI2.out.f HL3.out hS) (by omega)
                    · exact own_base (own_left HI2.out.q HL3.out hS) (by omega)
                    · exact own_base (own_left HI2.out.i HL3.out hS) (by omega)
                  · have hk0' : 0 < k := by have h := HGB.out; simp at h; omega
                    have hk0 : (0 : Int) < (k : Int) := by omega
                    obtain ⟨so, scp, rfl, _, _⟩ := (Rd.of_own HI.out.i).form
                    have c3 := HI.out.W.cell 7
                    simp only [sc, List.getElem?_cons_zero, List.getElem?_cons_succ] at c3
                    go_upto_region 15 with fail
                    have hTR : T ∉ [RB] := by have := HI.out.o; simp; omega
                    refine region_k 5 (S := fun wx => wx.cell? ⟨T, 7, none⟩ = some (.slice so I.length scp)) (by kernel_rfl) c3 (fun hHeld => ?_)
                    refine take_kp 0 ⟨?_, ?_, ?_, by kernel_rfl, by kernel_rfl, by kernel_rfl, ⟨by kernel_rfl, by kernel_rfl⟩, ?_, ?_, by assumption, ?_⟩
                    rotate_left 2
                    · (simp only [List.getElem?_toArray, List.getElem?_cons_succ, List.getElem?_cons_zero]; exact rfl)
                    · exact fun _ _ _ h => h
                    · first
                        | (refine Or.inr ⟨by rfl, ?_⟩; exact rfl)
                        | (refine Or.inl ⟨by rfl, ?_⟩
                           intro w hSw
                           (try dsimp only at hSw)
                           (try go_split_ands)
                           go_simp
                           (first | done | with_reducible rfl))
                    try simp only [Act.put, List.setIfInBounds_toArray, List.set_cons_zero, List.set_cons_succ]
                    refine take_kl 1 ⟨?_, ?_, ?_, by kernel_rfl, by kernel_rfl, by kernel_rfl, ⟨by kernel_rfl, by kernel_rfl, by kernel_rfl⟩, ?_, ?_, by assumption, ?_⟩
                    rotate_left 2
                    · (simp only [List.getElem?_toArray, List.getElem?_cons_succ, List.getElem?_cons_zero]; exact rfl)
                    · exact fun _ _ _ h => h
                    · first
                        | (refine Or.inr ⟨by rfl, ?_⟩; exact rfl)
                        | (refine Or.inl ⟨by rfl, ?_⟩
                           intro w hSw
                           (try dsimp only at hSw)
                           (try go_split_ands)
                           go_simp
                           (first | done | with_reducible rfl))
                    try simp only [Act.put, List.setIfInBounds_toArray, List.set_cons_zero, List.set_cons_succ]
                    refine take_kp 2 ⟨?_, ?_, ?_, by kernel_rfl, by kernel_rfl, by kernel_rfl, ⟨by kernel_rfl, by kernel_rfl⟩, ?_, ?_, by assumption, ?_⟩
                    rotate_left 2
                    · (simp only [List.getElem?_toArray, List.getElem?_cons_succ, List.getElem?_cons_zero]; exact rfl)
                    · exact fun _ _ _ h => h
                    · first
                        | (refine Or.inr ⟨by rfl, ?_⟩; exact rfl)
                        | (refine Or.inl ⟨by rfl, ?_⟩
                           intro w hSw
                           (try dsimp only at hSw)
                           (try go_split_ands)
                           go_simp
                           (first | done | with_reducible rfl))
                    try simp only [Act.put, List.setIfInBounds_toArray, List.set_cons_zero, List.set_cons_succ]
                    have HId := Lib.hid (HI.out.below ((Below.refl wc.heap.size wc).drew))
                    refine call_k 3 (by kernel_rfl) ⟨?_, ?_, fun K hK => ?_⟩
                    rotate_left 1
                    · (simp only [List.getElem?_toArray, List.getElem?_cons_succ, List.getElem?_cons_zero]; exact rfl)
                    go_simp
                    (go_at_call 24; refine (HNU.out _ HId.out.r).mono ?_; rintro e wz ⟨xi, rfl, hxi, hrz, hlz⟩)
                    go_wp2_with fail
                    refine hK.out _ _ (cell_left' hHeld hlz hTR) (fun hHeld => ?_)
                    clear hK K
                    (try simp only [Act.put, List.setIfInBounds_toArray, List.set_cons_zero, List.set_cons_succ])
                    have HI1 := Lib.hid (HId.out.left hrz hlz)
                    clear hrz hlz
                    refine call_k 4 (by kernel_rfl) ⟨?_, ?_, fun K hK => ?_⟩
                    rotate_left 1
                    · (simp only [List.getElem?_toArray, List.getElem?_cons_succ, List.getElem?_cons_zero]; exact rfl)
                    go_simp
                    skip
                    go_wp2_with fail
                    have HA0 := Lib.hid (enc_new eI wz 3 xi)
                    have HI4 := Lib.hid (HI1.out.below ((Below.refl wz.heap.size wz).alloc (Nat.le_refl _) (.cells (eI.c xi).toArray 3)))
                    have hcc := HI4.out.W.cell 7
                    have hff := HI4.out.W.free 7
                    simp only [sc, List.getElem?_cons_zero, List.getElem?_cons_succ] at hcc
                    have hBz := HI4.out.o.2.2.2.2
                    have hNN := HN.out
                    simp only [eI] at HA0 HI4 hcc hff hBz
                    generalize (wz.alloc (.cells #[.int .i64 xi] 3)) = wA at HA0 HI4 hcc hff hBz ⊢
                    refine hK.out _ _ hcc (fun hHeld => ?_)
                    clear hK K
                    (try simp only [Act.put, List.setIfInBounds_toArray, List.set_cons_zero, List.set_cons_succ])
                    refine tail_k (by kernel_rfl) (by kernel_rfl) (by kernel_rfl) ?_
                    clear hHeld
                    simp only [List.drop_succ_cons, List.drop_zero]
                    go_wp2_with (at_builtin; refine wpList_app _ rfl (.tmp 82) (.tmp 85) 25 rfl B 3 (.int .i64 0) 1 8 Tryz.underlying25 inf_I rfl (by omega) _ I.length (eI.cells I) rfl HI4.out.i _ _ 1 (eI.c xi) rfl HA0.out (eI.one _) ?_ ?_ hBz ?_; (unfold maxLen; omega); omega)
                    intro v5 w5 ho5 hg5 _
                    have hW5 := SI_cell HI4.out.W HI4.out.i HI4.out.o.2.2.1 hg5
                    have d3 := hW5.cell 7
                    have g3 := hW5.free 7
                    simp only [sc, List.getElem?_cons_zero, List.getElem?_cons_succ] at d3
                    obtain ⟨vo5, vc5, rfl, _, _⟩ := (Rd.of_own ho5).form
                    have HI5 := Lib.hid (HI4.out.put_i ho5 hg5)
                    clear ho5 hg5 hW5 hcc hff hBz HA0 HI4 HI1 hHeld
                    go_wp2
                    go_roundw
                    case rel => exact ⟨k - 1, _, _, by go_num, HI5, by simp; omega⟩
                    case measure => simp [intOf]; omega
            · have hk0' : 0 < k := by have h := HGB.out; simp at h; omega
              have hk0 : (0 : Int) < (k : Int) := by omega
              obtain ⟨so, scp, rfl, _, _⟩ := (Rd.of_own HI.out.f).form
              have c3 := HI.out.W.cell 5
              simp only [sc, List.getElem?_cons_zero, List.getElem?_cons_succ] at c3
              go_upto_region 10 with fail
              have hTR : T ∉ [RB] := by have := HI.out.o; simp; omega
              refine region_k 11 (S := fun wx => wx.cell? ⟨T, 5, none⟩ = some (.slice so F.length scp)) (by kernel_rfl) c3 (fun hHeld => ?_)
              refine take_kp 0 ⟨?_, ?_, ?_, by kernel_rfl, by kernel_rfl, by kernel_rfl, ⟨by kernel_rfl, by kernel_rfl⟩, ?_, ?_, by assumption, ?_⟩
              rotate_left 2
              · (simp only [List.getElem?_toArray, List.getElem?_cons_succ, List.getElem?_cons_zero]; exact rfl)
              · exact fun _ _ _ h => h
              · first
                  | (refine Or.inr ⟨by rfl, ?_⟩; exact rfl)
                  | (refine Or.inl ⟨by rfl, ?_⟩
                     intro w hSw
                     (try dsimp only at hSw)
                     (try go_split_ands)
                     go_simp
                     (first | done | with_reducible rfl))
              try simp only [Act.put, List.setIfInBounds_toArray, List.set_cons_zero, List.set_cons_succ]
              refine take_kp 1 ⟨?_, ?_, ?_, by kernel_rfl, by kernel_rfl, by kernel_rfl, ⟨by kernel_rfl, by kernel_rfl⟩, ?_, ?_, by assumption, ?_⟩
              rotate_left 2
              · (simp only [List.getElem?_toArray, List.getElem?_cons_succ, List.getElem?_cons_zero]; exact rfl)
              · exact fun _ _ _ h => h
              · first
                  | (refine Or.inr ⟨by rfl, ?_⟩; exact rfl)
                  | (refine Or.inl ⟨by rfl, ?_⟩
                     intro w hSw
                     (try dsimp only at hSw)
                     (try go_split_ands)
                     go_simp
                     (first | done | with_reducible rfl))
              try simp only [Act.put, List.setIfInBounds_toArray, List.set_cons_zero, List.set_cons_succ]
              refine take_kl 2 ⟨?_, ?_, ?_, by kernel_rfl, by kernel_rfl, by kernel_rfl, ⟨by kernel_rfl, by kernel_rfl, by kernel_rfl⟩, ?_, ?_, by assumption, ?_⟩
              rotate_left 2
              · (simp only [List.getElem?_toArray, List.getElem?_cons_succ, List.getElem?_cons_zero]; exact rfl)
              · exact fun _ _ _ h => h
              · first
                  | (refine Or.inr ⟨by rfl, ?_⟩; exact rfl)
                  | (refine Or.inl ⟨by rfl, ?_⟩
                     intro w hSw
                     (try dsimp only at hSw)
                     (try go_split_ands)
                     go_simp
                     (first | done | with_reducible rfl))
              try simp only [Act.put, List.setIfInBounds_toArray, List.set_cons_zero, List.set_cons_succ]
              refine take_kp 3 ⟨?_, ?_, ?_, by kernel_rfl, by kernel_rfl, by kernel_rfl, ⟨by kernel_rfl, by kernel_rfl⟩, ?_, ?_, by assumption, ?_⟩
              rotate_left 2
              · (simp only [List.getElem?_toArray, List.getElem?_cons_succ, List.getElem?_cons_zero]; exact rfl)
              · exact fun _ _ _ h => h
              · first
                  | (refine Or.inr ⟨by rfl, ?_⟩; exact rfl)
                  | (refine Or.inl ⟨by rfl, ?_⟩
                     intro w hSw
                     (try dsimp only at hSw)
                     (try go_split_ands)
                     go_simp
                     (first | done | with_reducible rfl))
              try simp only [Act.put, List.setIfInBounds_toArray, List.set_cons_zero, List.set_cons_succ]
              refine take_kp 5 ⟨?_, ?_, ?_, by kernel_rfl, by kernel_rfl, by kernel_rfl, ⟨by kernel_rfl, by kernel_rfl⟩, ?_, ?_, by assumption, ?_⟩
              rotate_left 2
              · (simp only [List.getElem?_toArray, List.getElem?_cons_succ, List.getElem?_cons_zero]; exact rfl)
              · exact fun _ _ _ h => h
              · first
                  | (refine Or.inr ⟨by rfl, ?_⟩; exact rfl)
                  | (refine Or.inl ⟨by rfl, ?_⟩
                     intro w hSw
                     (try dsimp only at hSw)
                     (try go_split_ands)
                     go_simp
                     (first | done | with_reducible rfl))
              try simp only [Act.put, List.setIfInBounds_toArray, List.set_cons_zero, List.set_cons_succ]
              refine take_kp 7 ⟨?_, ?_, ?_, by kernel_rfl, by kernel_rfl, by kernel_rfl, ⟨by kernel_rfl, by kernel_rfl⟩, ?_, ?_, by assumption, ?_⟩
              rotate_left 2
              · (simp only [List.getElem?_toArray, List.getElem?_cons_succ, List.getElem?_cons_zero]; exact rfl)
              · exact fun _ _ _ h => h
              · first
                  | (refine Or.inr ⟨by rfl, ?_⟩; exact rfl)
                  | (refine Or.inl ⟨by rfl, ?_⟩
                     intro w hSw
                     (try dsimp only at hSw)
                     (try go_split_ands)
                     go_simp
                     (first | done | with_reducible rfl))
              try simp only [Act.put, List.setIfInBounds_toArray, List.set_cons_zero, List.set_cons_succ]
              have HId := Lib.hid (HI.out.below ((Below.refl wc.heap.size wc).drew))
              refine call_k 4 (by kernel_rfl) ⟨?_, ?_, fun K hK => ?_⟩
              rotate_left 1
              · (simp only [List.getElem?_toArray, List.getElem?_cons_succ, List.getElem?_cons_zero]; exact rfl)
              go_simp
              (go_at_call 24; refine (HNU.out _ HId.out.r).mono ?_; rintro e wz ⟨xi, rfl, hxi, hrz, hlz⟩)
              go_wp2_with fail
              refine hK.out _ _ (cell_left' hHeld hlz hTR) (fun hHeld => ?_)
              clear hK K
              (try simp only [Act.put, List.setIfInBounds_toArray, List.set_cons_zero, List.set_cons_succ])
              have HI1 := Lib.hid (HId.out.left hrz hlz)
              clear hrz hlz
              refine call_k 6 (by kernel_rfl) ⟨?_, ?_, fun K hK => ?_⟩
              rotate_left 1
              · (simp only [List.getElem?_toArray, List.getElem?_cons_succ, List.getElem?_cons_zero]; exact rfl)
              go_simp
              (go_at_call 26; refine (HME.out _ HI1.out.r).mono ?_; rintro e wz ⟨xm, rfl, hxm, hrz, hlz⟩; unfold msgV)
              go_wp2_with fail
              refine hK.out _ _ (cell_left' hHeld hlz hTR) (fun hHeld => ?_)
              clear hK K
              (try simp only [Act.put, List.setIfInBounds_toArray, List.set_cons_zero, List.set_cons_succ])
              have HI2 := Lib.hid (HI1.out.left hrz hlz)
              clear hrz hlz HId HI1
              refine call_k 8 (by kernel_rfl) ⟨?_, ?_, fun K hK => ?_⟩
              rotate_left 1
              · (simp only [List.getElem?_toArray, List.getElem?_cons_succ, List.getElem?_cons_zero]; exact rfl)
              go_simp
              (go_at_call 27; refine (HIS.out _ HI2.out.r).mono ?_; rintro e wz ⟨xr, rfl, hrz, hlz⟩)
              go_wp2_with fail
              refine hK.out _ _ (cell_left' hHeld hlz hTR) (fun hHeld => ?_)
              clear hK K
              (try simp only [Act.put, List.setIfInBounds_toArray, List.set_cons_zero, List.set_cons_succ])
              have HI3 := Lib.hid (HI2.out.left hrz hlz)
              clear hrz hlz HI2
              refine take_kp 9 ⟨?_, ?_, ?_, by kernel_rfl, by kernel_rfl, by kernel_rfl, ⟨by kernel_rfl, by kernel_rfl⟩, ?_, ?_, by assumption, ?_⟩
              rotate_left 2
              · (simp only [List.getElem?_toArray, List.getElem?_cons_succ, List.getElem?_cons_zero]; exact rfl)
              · exact fun _ _ _ h => h
              · first
                  | (refine Or.inr ⟨by rfl, ?_⟩; exact rfl)
                  | (refine Or.inl ⟨by rfl, ?_⟩
                     intro w hSw
                     (try dsimp only at hSw)
                     (try go_split_ands)
                     go_simp
                     (first | done | with_reducible rfl))
              try simp only [Act.put, List.setIfInBounds_toArray, List.set_cons_zero, List.set_cons_succ]
              refine call_k 10 (by kernel_rfl) ⟨?_, ?_, fun K hK => ?_⟩
              rotate_left 1
              · (simp only [List.getElem?_toArray, List.getElem?_cons_succ, List.getElem?_cons_zero]; exact rfl)
              go_simp
              skip
              go_wp2_with fail
              have HA0 := Lib.hid (enc_new eF wz 67 ⟨xi, xm, xr⟩)
              have HI4 := Lib.hid (HI3.out.below ((Below.refl wz.heap.size wz).alloc (Nat.le_refl _) (.cells (eF.c ⟨xi, xm, xr⟩).toArray 67)))
              have hcc := HI4.out.W.cell 5
              have hff := HI4.out.W.free 5
              simp only [sc, List.getElem?_cons_zero, List.getElem?_cons_succ] at hcc
              have hBz := HI4.out.o.2.2.2.2
              have hNN := HN.out
              simp only [eF, flC] at HA0 HI4 hcc hff hBz
              generalize (wz.alloc (.cells #[.int .i64 xi, .string xm.t, .string xm.p, .int .i64 xm.q, .bool xm.r, .bool xr] 67)) = wA at HA0 HI4 hcc hff hBz ⊢
              refine hK.out _ _ hcc (fun hHeld => ?_)
              clear hK K
              (try simp only [Act.put, List.setIfInBounds_toArray, List.set_cons_zero, List.set_cons_succ])
              refine tail_k (by kernel_rfl) (by kernel_rfl) (by kernel_rfl) ?_
              clear hHeld
              simp only [List.drop_succ_cons, List.drop_zero]
              go_wp2_with (at_builtin; refine wpList_app _ rfl (.tmp 52) (.tmp 60) 46 rfl B 67 (.agg #[.int .i64 0, .string ⟨#[]⟩, .string ⟨#[]⟩, .int .i64 0, .bool false, .bool false]) 6 64 Tryz.underlying46 inf_F rfl (by omega) _ F.length (eF.cells F) rfl HI4.out.f _ _ 1 (eF.c ⟨xi, xm, xr⟩) rfl HA0.out (eF.one _) ?_ ?_ hBz ?_; (unfold maxLen; omega); omega)
              intro v5 w5 ho5 hg5 _
              have hW5 := SI_cell HI4.out.W HI4.out.f HI4.out.o.2.2.1 hg5
              have d3 := hW5.cell 5
              have g3 := hW5.free 5
              simp only [sc, List.getElem?_cons_zero, List.getElem?_cons_succ] at d3
              obtain ⟨vo5, vc5, rfl, _, _⟩ := (Rd.of_own ho5).form
              have HI5 := Lib.hid (HI4.out.put_f ho5 hg5)
              have HS5 : Hid (∀ x ∈ F ++ [(⟨xi, xm, xr⟩ : Fl)], MN N x.m) := Lib.hid (fun x hx => by rcases List.mem_append.1 hx with h | h; exact HFZ.out x h; (rw [List.mem_singleton.1 h]; exact hxm))
              clear ho5 hg5 hW5 hcc hff hBz HA0 HI4 HI3 hHeld
              go_wp2
              go_roundw
              case rel => exact ⟨k - 1, _, _, by go_num, HI5, by simp; omega, HS5⟩
              case measure => simp [intOf]; omega
      · have hk0' : 0 < k := by have h := HGB.out; simp at h; omega
        have hk0 : (0 : Int) < (k : Int) := by omega
        obtain ⟨so, scp, rfl, _, _⟩ := (Rd.of_own HI.out.s).form
        have c3 := HI.out.W.cell 3
        simp only [sc, List.getElem?_cons_zero, List.getElem?_cons_succ] at c3
        go_upto_region 5 with fail
        have hTR : T ∉ [RB] := by have := HI.out.o; simp; omega
        refine region_k 8 (S := fun wx => wx.cell? ⟨T, 3, none⟩ = some (.slice so S.length scp)) (by kernel_rfl) c3 (fun hHeld => ?_)
        refine take_kp 0 ⟨?_, ?_, ?_, by kernel_rfl, by kernel_rfl, by kernel_rfl, ⟨by kernel_rfl, by kernel_rfl⟩, ?_, ?_, by assumption, ?_⟩
        rotate_left 2
        · (simp only [List.getElem?_toArray, List.getElem?_cons_succ, List.getElem?_cons_zero]; exact rfl)
        · exact fun _ _ _ h => h
        · first
            | (refine Or.inr ⟨by rfl, ?_⟩; exact rfl)
            | (refine Or.inl ⟨by rfl, ?_⟩
               intro w hSw
               (try dsimp only at hSw)
               (try go_split_ands)
               go_simp
               (first | done | with_reducible rfl))
        try simp only [Act.put, List.setIfInBounds_toArray, List.set_cons_zero, List.set_cons_succ]
        refine take_kl 1 ⟨?_, ?_, ?_, by kernel_rfl, by kernel_rfl, by kernel_rfl, ⟨by kernel_rfl, by kernel_rfl, by kernel_rfl⟩, ?_, ?_, by assumption, ?_⟩
        rotate_left 2
        · (simp only [List.getElem?_toArray, List.getElem?_cons_succ, List.getElem?_cons_zero]; exact rfl)
        · exact fun _ _ _ h => h
        · first
            | (refine Or.inr ⟨by rfl, ?_⟩; exact rfl)
            | (refine Or.inl ⟨by rfl, ?_⟩
               intro w hSw
               (try dsimp only at hSw)
               (try go_split_ands)
               go_simp
               (first | done | with_reducible rfl))
        try simp only [Act.put, List.setIfInBounds_toArray, List.set_cons_zero, List.set_cons_succ]
        refine take_kp 2 ⟨?_, ?_, ?_, by kernel_rfl, by kernel_rfl, by kernel_rfl, ⟨by kernel_rfl, by kernel_rfl⟩, ?_, ?_, by assumption, ?_⟩
        rotate_left 2
        · (simp only [List.getElem?_toArray, List.getElem?_cons_succ, List.getElem?_cons_zero]; exact rfl)
        · exact fun _ _ _ h => h
        · first
            | (refine Or.inr ⟨by rfl, ?_⟩; exact rfl)
            | (refine Or.inl ⟨by rfl, ?_⟩
               intro w hSw
               (try dsimp only at hSw)
               (try go_split_ands)
               go_simp
               (first | done | with_reducible rfl))
        try simp only [Act.put, List.setIfInBounds_toArray, List.set_cons_zero, List.set_cons_succ]
        refine take_kp 4 ⟨?_, ?_, ?_, by kernel_rfl, by kernel_rfl, by kernel_rfl, ⟨by kernel_rfl, by kernel_rfl⟩, ?_, ?_, by assumption, ?_⟩
        rotate_left 2
        · (simp only [List.getElem?_toArray, List.getElem?_cons_succ, List.getElem?_cons_zero]; exact rfl)
        · exact fun _ _ _ h => h
        · first
            | (refine Or.inr ⟨by rfl, ?_⟩; exact rfl)
            | (refine Or.inl ⟨by rfl, ?_⟩
               intro w hSw
               (try dsimp only at hSw)
               (try go_split_ands)
               go_simp
               (first | done | with_reducible rfl))
        try simp only [Act.put, List.setIfInBounds_toArray, List.set_cons_zero, List.set_cons_succ]
        have HId := Lib.hid (HI.out.below ((Below.refl wc.heap.size wc).drew))
        refine call_k 3 (by kernel_rfl) ⟨?_, ?_, fun K hK => ?_⟩
        rotate_left 1
        · (simp only [List.getElem?_toArray, List.getElem?_cons_succ, List.getElem?_cons_zero]; exact rfl)
        go_simp
        (go_at_call 25; refine (HT.out _ HId.out.r).mono ?_; rintro e wz ⟨xf, rfl, hxf, hrz, hlz⟩)
        go_wp2_with fail
        refine hK.out _ _ (cell_left' hHeld hlz hTR) (fun hHeld => ?_)
        clear hK K
        (try simp only [Act.put, List.setIfInBounds_toArray, List.set_cons_zero, List.set_cons_succ])
        have HI1 := Lib.hid (HId.out.left hrz hlz)
        clear hrz hlz
        refine call_k 5 (by kernel_rfl) ⟨?_, ?_, fun K hK => ?_⟩
        rotate_left 1
        · (simp only [List.getElem?_toArray, List.getElem?_cons_succ, List.getElem?_cons_zero]; exact rfl)
        go_simp
        (go_at_call 24; refine (HNU.out _ HI1.out.r).mono ?_; rintro e wz ⟨xq, rfl, hxq, hrz, hlz⟩)
        go_wp2_with fail
        refine hK.out _ _ (cell_left' hHeld hlz hTR) (fun hHeld => ?_)
        clear hK K
        (try simp only [Act.put, List.setIfInBounds_toArray, List.set_cons_zero, List.set_cons_succ])
        have HI2 := Lib.hid (HI1.out.left hrz hlz)
        clear hrz hlz HId HI1
        refine take_kp 6 ⟨?_, ?_, ?_, by kernel_rfl, by kernel_rfl, by kernel_rfl, ⟨by kernel_rfl, by kernel_rfl⟩, ?_, ?_, by assumption, ?_⟩
        rotate_left 2
        · (simp only [List.getElem?_toArray, List.getElem?_cons_succ, List.getElem?_cons_zero]; exact rfl)
        · exact fun _ _ _ h => h
        · first
            | (refine Or.inr ⟨by rfl, ?_⟩; exact rfl)
            | (refine Or.inl ⟨by rfl, ?_⟩
               intro w hSw
               (try dsimp only at hSw)
               (try go_split_ands)
               go_simp
               (first | done | with_reducible rfl))
        try simp only [Act.put, List.setIfInBounds_toArray, List.set_cons_zero, List.set_cons_succ]
        refine call_k 7 (by kernel_rfl) ⟨?_, ?_, fun K hK => ?_⟩
        rotate_left 1
        · (simp only [List.getElem?_toArray, List.getElem?_cons_succ, List.getElem?_cons_zero]; exact rfl)
        go_simp
        skip
        go_wp2_with fail
        have HA0 := Lib.hid (enc_new eW wz 62 ⟨xf, xq⟩)
        have HI4 := Lib.hid (HI2.out.below ((Below.refl wz.heap.size wz).alloc (Nat.le_refl _) (.cells (eW.c ⟨xf, xq⟩).toArray 62)))
        have hcc := HI4.out.W.cell 3
        have hff := HI4.out.W.free 3
        simp only [sc, List.getElem?_cons_zero, List.getElem?_cons_succ] at hcc
        have hBz := HI4.out.o.2.2.2.2
        have hNN := HN.out
        simp only [eW] at HA0 HI4 hcc hff hBz
        generalize (wz.alloc (.cells #[.string xf, .int .i64 xq] 62)) = wA at HA0 HI4 hcc hff hBz ⊢
        refine hK.out _ _ hcc (fun hHeld => ?_)
        clear hK K
        (try simp only [Act.put, List.setIfInBounds_toArray, List.set_cons_zero, List.set_cons_succ])
        refine tail_k (by kernel_rfl) (by kernel_rfl) (by kernel_rfl) ?_
        clear hHeld
        simp only [List.drop_succ_cons, List.drop_zero]
        go_wp2_with (at_builtin; refine wpList_app _ rfl (.tmp 24) (.tmp 30) 45 rfl B 62 (.agg #[.string ⟨#[]⟩, .int .i64 0]) 2 24 Tryz.underlying45 inf_W rfl (by omega) _ S.length (eW.cells S) rfl HI4.out.s _ _ 1 (eW.c ⟨xf, xq⟩) rfl HA0.out (eW.one _) ?_ ?_ hBz ?_; (unfold maxLen; omega); omega)
        intro v5 w5 ho5 hg5 _
        have hW5 := SI_cell HI4.out.W HI4.out.s HI4.out.o.2.2.1 hg5
        have d3 := hW5.cell 3
        have g3 := hW5.free 3
        simp only [sc, List.getElem?_cons_zero, List.getElem?_cons_succ] at d3
        obtain ⟨vo5, vc5, rfl, _, _⟩ := (Rd.of_own ho5).form
        have HI5 := Lib.hid (HI4.out.put_s ho5 hg5)
        have HS5 : Hid (∀ x ∈ S ++ [(⟨xf, xq⟩ : Wish1)], x.f.size ≤ N) := Lib.hid (fun x hx => by rcases List.mem_append.1 hx with h | h; exact HSZ.out x h; (rw [List.mem_singleton.1 h]; exact hxf))
        clear ho5 hg5 hW5 hcc hff hBz HA0 HI4 HI2 hHeld
        go_wp2
        go_roundw
        case rel => exact ⟨k - 1, _, _, by go_num, HI5, by simp; omega, HS5⟩
        case measure => simp [intOf]; omega
end Go.Proofs.YtlehkaibbkblkaaGreatDoor
