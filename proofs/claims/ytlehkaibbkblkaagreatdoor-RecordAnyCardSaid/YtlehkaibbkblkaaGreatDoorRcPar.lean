/- Parse: any bytes are a broker that lasts, told by just these bytes, or none. -/




import Derived.Test.YtlehkaibbkblkaaGreatDoorRcBy2
import Derived.Test.YtlehkaibbkblkaaGreatDoorRcRd3
namespace Go.Proofs.YtlehkaibbkblkaaGreatDoor
open Go.RowKit Go.Shelf Go.Proofs
theorem conv_rd {w : World} {Bd : Nat} {v : Value} {x : List UInt8} (h : Rd w Bd 1 v x.length (u8s x)) : (convert 23 9 v).run Tryz.prog w = .ok (.string ⟨x.toArray⟩) w := by
  obtain ⟨_, ao, cap, rfl, hc, _, h5, h6⟩ := h
  by_cases h0 : x = []
  · subst h0
    rw [show ([] : List UInt8).length = 0 from rfl, run_convert_bytes_string w 23 9 5 _ 0 cap Tryz.underlying23 Tryz.underlying5 Tryz.underlying9]
    cases ao <;> simp [Conv.bytesToString, loadCells] <;> rfl
  · have hp : 0 < x.length := List.length_pos_iff.2 h0
    obtain ⟨b, o, rfl, _, hcs⟩ := h6 hp
    exact conv_bs w b o cap x (fun j y hy => hcs j _ (by rw [u8s, List.getElem?_map, hy]; rfl))
theorem Equal_any (w : World) (v1 v2 : Value) (a b : List UInt8) (B1 B2 : Nat) (h1 : Rd w B1 1 v1 a.length (u8s a)) (h2 : Rd w B2 1 v2 b.length (u8s b)) :
    Calls Tryz.prog 15 #[v1, v2] w fun e w' => e = .returned (.bool (yes (a = b))) ∧ w = w' := by
  have c1 := conv_rd h1
  have c2 := conv_rd h2
  clear h1 h2
  by_cases e : a = b
  · have HE : Hid (yes (a = b) = true) := Lib.hid (yes_true e)
    have q : (a == b) = true := beq_iff_eq.2 e
    clear e
    go_enter Tryz.func15, Tryz.ntmps15
    go_wp2
    go_ret
    exact ⟨by rw [HE.out]; rfl, rfl⟩
  · have HE : Hid (yes (a = b) = false) := Lib.hid (yes_false e)
    have q : (a == b) = false := beq_eq_false_iff_ne.2 e
    clear e
    go_enter Tryz.func15, Tryz.ntmps15
    go_wp2
    go_ret
    exact ⟨by rw [HE.out]; rfl, rfl⟩
theorem inf_S : (Tryz.prog.info? 52).map (fun i => (i.zero, i.size, i.bytes)) = some (some (.agg #[.string ⟨#[]⟩, .bool false, .int .i64 0, .slice none 0 0, .int .i64 0, .slice none 0 0, .slice none 0 0, .slice none 0 0, .bool false, .string ⟨#[]⟩, .string ⟨#[]⟩, .int .i64 0, .bool false, .int .i64 0, .int .i64 0]), 15, 208) := by kernel_rfl
section
variable {w w' : World} {B B' N : Nat} {r : Rs} {S : List Nat}
theorem SOwn.left (h : SOwn w B N r) (hl : Left S w w') (hS : ∀ k ∈ S, k < B) : SOwn w' B N r := ⟨own_left h.s hl hS, own_left h.f hl hS, own_left h.q hl hS, own_left h.i hl hS⟩
theorem SOwn.base (h : SOwn w B N r) (hB : B' ≤ B) : SOwn w B' N r := ⟨own_base h.s hB, own_base h.f hB, own_base h.q hB, own_base h.i hB⟩
theorem SOwn.ty (h : SOwn w B N r) (hl : Left S w w') (hS : ∀ k ∈ S, Ty w k 52) : SOwn w' B N r :=
  ⟨own_leftB h.s hl (fun k hk e => (own_ty h.s e).ne (hS k hk) (by decide) rfl), own_leftB h.f hl (fun k hk e => (own_ty h.f e).ne (hS k hk) (by decide) rfl),
    own_leftB h.q hl (fun k hk e => (own_ty h.q e).ne (hS k hk) (by decide) rfl), own_leftB h.i hl (fun k hk e => (own_ty h.i e).ne (hS k hk) (by decide) rfl)⟩
theorem SOwn.rd (h : SOwn w B N r) : SRd w w.heap.size r := ⟨Rd.of_own h.s, Rd.of_own h.f, Rd.of_own h.q, Rd.of_own h.i⟩
end
theorem RdAt.set2 {w : World} {Bd RB N T : Nat} (h : RdAt w Bd RB N) (hT : Bd ≤ T) (hn : T ≠ RB) (k : Nat) (u : Value) : RdAt (w.setCell ⟨T, k, none⟩ u) Bd RB N := by
  obtain ⟨bv, y, bad, h1, h2, h3, h4⟩ := h
  exact ⟨bv, y, bad, h1.other (by simp only; omega) u, rd_set h2 hT, h3, h4⟩
/-- A broker on its way. -/
structure PI (w wr : World) (Bd RB N B T : Nat) (sv : Value) (R : List Rs) (kv : Value) (K : List Msg) : Prop where
  r : RdAt wr Bd RB N
  W : Whole wr (T + 1) 29 [.slice none 0 0, sv, kv]
  Z : Whole wr T 29 [.slice none 0 0, .slice none 0 0, .slice none 0 0]
  s : wr.ownsRow B 52 15 sv R.length (eS.cells R)
  e : ∀ x ∈ R, SOwn wr B N x ∧ SN N x.s
  k : OwnM wr B kv K
  l : Below w.heap.size w wr
  o : T = w.heap.size ∧ RB = T + 2 ∧ B = RB + 1 ∧ B ≤ wr.heap.size
  d : Bd ≤ T
section
variable {w wr w' : World} {Bd RB N B T : Nat} {sv v' kv : Value} {R : List Rs} {K : List Msg}
theorem PI.left (h : PI w wr Bd RB N B T sv R kv K) (hr : RdAt w' Bd RB N) (hl : Left [RB] wr w') : PI w w' Bd RB N B T sv R kv K := by
  have ho := h.o
  have hS : ∀ k ∈ [RB], k < B := fun k hk => by rw [List.mem_singleton.1 hk]; omega
  exact ⟨hr, h.W.left hl (by simp; omega), h.Z.left hl (by simp; omega), own_left h.s hl hS, fun x hx => ⟨(h.e x hx).1.left hl hS, (h.e x hx).2⟩, own_left h.k hl hS, h.l.trans (hl.belowB (by omega) (fun k hk => by rw [List.mem_singleton.1 hk]; omega)), ⟨ho.1, ho.2.1, ho.2.2.1, Nat.le_trans ho.2.2.2 hl.size⟩, h.d⟩
theorem PI.below (h : PI w wr Bd RB N B T sv R kv K) (hb : Below wr.heap.size wr w') : PI w w' Bd RB N B T sv R kv K := h.left (h.r.below hb) (Left.of_below hb _)
/-- One more session. -/
theorem PI.put_s {x : Rs} (h : PI w wr Bd RB N B T sv R kv K) (hx : SOwn wr B N x ∧ SN N x.s) (ho : w'.ownsRow B 52 15 v' (R.length + 1) (eS.cells R ++ eS.c x)) (hg : wr.grownBy w' sv.ownBlock) :
    PI w (w'.setCell ⟨T + 1, 1, none⟩ v') Bd RB N B T v' (R ++ [x]) kv K := by
  have hoo := h.o
  have hl := left_of_grown hg
  have hne : ∀ k ∈ Value.ownL sv, B ≤ k := fun k hk => (h.s.lt k (mem_ownL.1 hk)).1
  have hty : ∀ k ∈ Value.ownL sv, Ty wr k 52 := fun k hk => own_ty h.s (mem_ownL.1 hk)
  have hsT : Left [T + 1] w' (w'.setCell ⟨T + 1, 1, none⟩ v') := set1 w' (T + 1) 1 v'
  have hT : ∀ k ∈ [T + 1], k < B := fun k hk => by rw [List.mem_singleton.1 hk]; omega
  have hzz := hl.size
  have hd := h.d
  refine ⟨?_, ((h.W.left hl (fun hm => by have := hne _ hm; omega)).put 1 v'), (h.Z.left hl (fun hm => by have := hne _ hm; omega)).other (by simp only; omega) v', ?_, ?_, own_left (own_leftB h.k hl (fun k hk e => (own_ty h.k e).ne (hty k hk) (by decide) rfl)) hsT hT, ?_, ⟨hoo.1, hoo.2.1, hoo.2.2.1, Nat.le_trans hoo.2.2.2 (Nat.le_trans hl.size hsT.size)⟩, h.d⟩
  · exact (h.r.grown h.s (by omega) hg).set2 (by omega) (by omega) 1 v'
  · rw [eS.cells_app, eS.cells_one, List.length_append]
    exact own_left ho hsT hT
  · intro z hz
    rcases List.mem_append.1 hz with hz | hz
    · exact ⟨((h.e z hz).1.ty hl hty).left hsT hT, (h.e z hz).2⟩
    · rw [List.mem_singleton.1 hz]
      exact ⟨(hx.1.ty hl hty).left hsT hT, hx.2⟩
  · exact (h.l.trans (hl.belowB (by omega) (fun k hk => by have := hne k hk; omega))).trans (hsT.belowB (by omega) (fun k hk => by rw [List.mem_singleton.1 hk]; omega))
/-- The kept messages. -/
theorem PI.put_k {K' : List Msg} (h : PI w wr Bd RB N B T sv R kv K) (hq : OwnM wr B v' K') : PI w (wr.setCell ⟨T + 1, 2, none⟩ v') Bd RB N B T sv R v' K' := by
  have hoo := h.o
  have hd := h.d
  have hsT : Left [T + 1] wr (wr.setCell ⟨T + 1, 2, none⟩ v') := set1 wr (T + 1) 2 v'
  have hT : ∀ k ∈ [T + 1], k < B := fun k hk => by rw [List.mem_singleton.1 hk]; omega
  exact ⟨h.r.set2 (by omega) (by omega) 2 v', h.W.put 2 v', h.Z.other (by simp only; omega) v', own_left h.s hsT hT, fun x hx => ⟨(h.e x hx).1.left hsT hT, (h.e x hx).2⟩, own_left hq hsT hT, h.l.trans (hsT.belowB (by omega) (fun k hk => by rw [List.mem_singleton.1 hk]; omega)), ⟨hoo.1, hoo.2.1, hoo.2.2.1, Nat.le_trans hoo.2.2.2 hsT.size⟩, h.d⟩
theorem PI.brd (h : PI w wr Bd RB N B T sv R kv K) : BRd wr wr.heap.size (.slice none 0 0) sv kv R ⟨[], R.map (·.s), K⟩ :=
  ⟨rfl, Rd.nil_ _ _ _, Rd.of_own h.s, fun x hx => (h.e x hx).1.rd, Rd.of_own h.k⟩
/-- The answer laid where it is told. -/
theorem PI.res (h : PI w wr Bd RB N B T sv R kv K) (hl : Left [T] wr w') : Below w.heap.size w w' ∧ BRd w' w'.heap.size (.slice none 0 0) sv kv R ⟨[], R.map (·.s), K⟩ := by
  have hoo := h.o
  have hT : ∀ k ∈ [T], k < B := fun k hk => by rw [List.mem_singleton.1 hk]; omega
  exact ⟨h.l.trans (hl.belowB (by omega) (fun k hk => by rw [List.mem_singleton.1 hk]; omega)), ⟨rfl, Rd.nil_ _ _ _, Rd.of_own (own_left h.s hl hT), fun x hx => ((h.e x hx).1.left hl hT).rd, Rd.of_own (own_left h.k hl hT)⟩⟩
end
/-- Nothing of what was read is long. -/
theorem SN.short {N : Nat} {y : Se} (h : SN N y) (hN : N ≤ 100000) : ShS y :=
  ⟨by have := h.zc; omega, fun x hx => by have := h.zs.2 x hx; omega, ⟨by have := h.zf.1; omega, by have := h.zq.1; omega, fun f hf => by have := h.zf.2 f hf; unfold MN at this; unfold ShortM; omega, fun m hm => by have := h.zq.2 m hm; unfold MN at this; unfold ShortM; omega⟩, by have := h.zi; omega, by have := h.zw; omega⟩
set_option maxRecDepth 20000 in
set_option maxHeartbeats 8000000 in
theorem Parse_any (w : World) (v : Value) (x : List UInt8) (h : Rd w w.heap.size 1 v x.length (u8s x)) (hN : x.length ≤ 100000) (hE : Env w) :
    Calls Tryz.prog 5 #[v] w fun e w' => ∃ lv sv kv n R b, e = .returned (.tuple #[.agg #[lv, sv, kv], .int .i64 n]) ∧ Below w.heap.size w w' ∧ BRd w' w'.heap.size lv sv kv R b ∧ ShB b ∧ ((n = 0 ∧ rmOk b ∧ x = all3 b) ∨ (n = 1 ∧ b = ⟨[], [], []⟩)) := by
  obtain ⟨ao, cap, rfl, _, _⟩ := h.form
  have HNN := Lib.hid hN
  have HX := Lib.hid h
  have HE := Lib.hid hE
  obtain ⟨T, hT⟩ : ∃ T, w.heap.size = T := ⟨_, rfl⟩
  obtain ⟨wa, hwa⟩ : ∃ wa, (((w.alloc (.cells #[.slice none 0 0, .slice none 0 0, .slice none 0 0] 29)).alloc (.cells #[.slice none 0 0, .slice none 0 0, .slice none 0 0] 29)).alloc (.cells #[.slice ao x.length cap, .bool false] 43)) = wa := ⟨_, rfl⟩
  have hb0 : Below w.heap.size w wa := by rw [← hwa]; go_grown
  have hz0 : wa.heap.size = T + 3 := by rw [← hwa]; simp [hT]
  have hZ : Whole wa T 29 [.slice none 0 0, .slice none 0 0, .slice none 0 0] := by
    rw [← hwa, ← hT]
    exact ((Whole.new w 29 _).alloc _).alloc _
  have hW : Whole wa (T + 1) 29 [.slice none 0 0, .slice none 0 0, .slice none 0 0] := by
    rw [← hwa, ← hT]
    have := Whole.new (w.alloc (.cells #[.slice none 0 0, .slice none 0 0, .slice none 0 0] 29)) 29 [.slice none 0 0, .slice none 0 0, .slice none 0 0]
    exact (by simpa using this : Whole _ (w.heap.size + 1) 29 _).alloc _
  have hRW : Whole wa (T + 2) 43 [.slice ao x.length cap, .bool false] := by
    rw [← hwa, ← hT]
    have := Whole.new ((w.alloc (.cells #[.slice none 0 0, .slice none 0 0, .slice none 0 0] 29)).alloc (.cells #[.slice none 0 0, .slice none 0 0, .slice none 0 0] 29)) 43 [.slice ao x.length cap, .bool false]
    simpa using this
  have HP0 : Hid (PI w wa w.heap.size (T + 2) x.length (T + 3) T (.slice none 0 0) [] (.slice none 0 0) []) := Lib.hid
    ⟨⟨_, x, false, hRW, h.below hb0, Nat.le_refl _, by omega⟩, hW, hZ, World.ownsRow_nil _ _ _ _, by simp, World.ownsRow_nil _ _ _ _, hb0, ⟨hT.symm, rfl, rfl, by omega⟩, by omega⟩
  have HWA := Lib.hid hwa
  have HTT := Lib.hid hT
  have HCO := Lib.hid (fun w' (h : RdAt w' w.heap.size (T + 2) x.length) => count_r w' w.heap.size (T + 2) x.length h (by omega))
  have HSE := Lib.hid (fun w' (h : RdAt w' w.heap.size (T + 2) x.length) => session_r w' w.heap.size (T + 2) x.length h hN)
  have HME := Lib.hid (fun w' (h : RdAt w' w.heap.size (T + 2) x.length) => messages_r w' w.heap.size (T + 2) x.length h (by omega))
  clear h hE hN hwa hb0 hz0 hZ hW hRW
  go_enter Tryz.func5, Tryz.ntmps5
  go_upto_region 3 with fail
  rw [HWA.out, show T + 1 + 1 = T + 2 from rfl]
  clear hT
  have hr0 := HP0.out.r
  go_wp2_with (go_at_call 12; refine (HCO.out _ hr0).mono ?_; rintro e w3 ⟨n, rfl, hr3, hl3⟩; have hnN : n ≤ x.length := (by obtain ⟨_, y, _, _, _, h1, _, h2⟩ := hr3; omega); have HI3 := Lib.hid (HP0.out.left hr3.at_ hl3); clear hr3 hl3)
  clear HP0 hr0
  go_loopw [6] (fun i wr => ∃ (k : Nat) (sv : Value) (R : List Rs), i = .int .i64 k ∧ Hid (PI w wr w.heap.size (T + 2) x.length (T + 3) T sv R (.slice none 0 0) []) ∧ R.length + k ≤ x.length) (fun i _ => (intOf i).toNat)
  case atStart => exact ⟨n, _, [], rfl, HI3, by simpa using hnN⟩
  case round =>
    clear HI3 hnN
    obtain ⟨k, sv, R, rfl, HI, hkn⟩ := hrel
    obtain ⟨bv, y, bad, hW, hR, hy, hBR⟩ := HI.out.r
    have c1 := hW.cell 1
    simp only [List.getElem?_cons_zero, List.getElem?_cons_succ] at c1
    clear hW hR
    obtain ⟨gb, hgb⟩ : ∃ gb : Bool, gb = (decide (0 < k) && !bad) := ⟨_, rfl⟩
    have HGB := Lib.hid hgb
    clear hgb
    go_upto_region 4 with fail
    go_cut [22] (fun s wx => s = .bool gb ∧ wx = wr)
    case first =>
      by_cases hk : k = 0
      · have HG : Hid (gb = false) := Lib.hid (by rw [HGB.out]; simp [hk])
        have hk0 : ¬ ((0 : Int) < (k : Int)) := by omega
        have hk0' : ¬ (0 < k) := by omega
        clear hk
        go_wp2
        go_meet
        exact ⟨by rw [HG.out], rfl⟩
      · have hk0 : (0 : Int) < (k : Int) := by omega
        have hk0' : 0 < k := by omega
        cases bad
        · have HG : Hid (gb = true) := Lib.hid (by rw [HGB.out]; simp [hk0'])
          go_wp2
          go_meet
          exact ⟨by rw [HG.out], rfl⟩
        · have HG : Hid (gb = false) := Lib.hid (by rw [HGB.out]; simp)
          go_wp2
          go_meet
          exact ⟨by rw [HG.out], rfl⟩
    case rest =>
      obtain ⟨rfl, hcw⟩ := hcut
      subst hcw
      cases gb
      · clear c1
        have hrN := HI.out.r
        obtain ⟨so, scp, rfl, _, _⟩ := (Rd.of_own HI.out.s).form
        have hzw := HI.out.o.2.2.2
        have HNN2 := HNN.out
        have HRL : Hid (R.length ≤ x.length) := Lib.hid (by omega)
        go_wp2_with (go_at_call 14; refine (HME.out _ hrN).mono ?_; rintro e wz ⟨qv, Q, rfl, hq, hQn, hQz, hrz, hlz⟩; have HI1 := Lib.hid (HI.out.left hrz hlz); have HQ := Lib.hid (show OwnM wz (T + 3) qv Q from own_base hq hzw); have HQZ := Lib.hid hQz; have hW1 := HI1.out.W; have y2 := hW1.cell 2; have g2 := hW1.free 2; have y0 := hW1.cell 0; have y1 := hW1.cell 1; simp only [List.getElem?_cons_zero, List.getElem?_cons_succ] at y2 y0 y1; clear hrz hlz hW1 hq hQz; obtain ⟨qo, qcp, rfl, _, _⟩ := (Rd.of_own HQ.out).form)
        have HI2 := Lib.hid (HI1.out.put_k HQ.out)
        have HSH : Hid (ShB ⟨[], R.map (·.s), Q⟩) := Lib.hid ⟨by simp, ⟨by simp only [List.length_map]; omega, fun y hy => by
          obtain ⟨r, hr, rfl⟩ := List.mem_map.1 hy
          exact (HI2.out.e r hr).2.short HNN.out⟩, fun m hm => by have := HQZ.out m hm; unfold MN at this; omega⟩
        have HBY := Lib.hid (Bytes_put _ _ _ _ R ⟨[], R.map (·.s), Q⟩ HI2.out.brd HSH.out (HE.out.below HI2.out.l))
        refine HBY.out.mono ?_
        rintro e w5 ⟨v5, x5, n5, rfl, ho5, hb5, hc5⟩
        have HI5 := Lib.hid (HI2.out.below hb5)
        have HO5 := Lib.hid ho5
        have HC5 := Lib.hid hc5
        obtain ⟨bv, y, bad, hW, hR, hy, hBR⟩ := HI5.out.r
        have r1 := hW.cell 1
        have hT1 := HI5.out.W
        have hT0 := HI5.out.Z
        obtain ⟨t0, t1, t2, _, _, _⟩ := hT1.three
        obtain ⟨s0, s1, s2, s3, s4, s5⟩ := hT0.three
        simp only [List.getElem?_cons_zero, List.getElem?_cons_succ] at r1
        have HT0 := Lib.hid hT0
        have HEQ := Lib.hid (Equal_any w5 v5 (.slice ao x.length cap) x5 x w5.heap.size w.heap.size ho5.rd (HX.out.below HI5.out.l))
        clear hW hR hT1 hT0 ho5 hb5 hc5 y0 y1 y2 g2 HI1 HI2 HQ HBY HI hrN hzw
        have hbadres : ∀ w6, Left [T] w5 w6 → ∃ lv sv kv n R' b, Ending.returned (.tuple #[.agg #[.slice none 0 0, .slice none 0 0, .slice none 0 0], .int .i64 1]) = Ending.returned (.tuple #[.agg #[lv, sv, kv], .int .i64 n]) ∧ Below w.heap.size w w6 ∧ BRd w6 w6.heap.size lv sv kv R' b ∧ ShB b ∧ ((n = 0 ∧ rmOk b ∧ x = all3 b) ∨ (n = 1 ∧ b = ⟨[], [], []⟩)) := fun w6 hl =>
          ⟨_, _, _, _, [], ⟨[], [], []⟩, rfl, (HI5.out.res hl).1, ⟨rfl, Rd.nil_ _ _ _, Rd.nil_ _ _ _, by simp, Rd.nil_ _ _ _⟩, ⟨by simp, ⟨by simp, by simp⟩, by simp⟩, .inr ⟨rfl, rfl⟩⟩
        have HBR := Lib.hid hbadres
        clear hbadres
        cases bad
        · have hcc := HC5.out
          rcases hcc with ⟨hok, hn0, hx5⟩ | ⟨hno, hn1, hx5⟩
          · subst hn0
            cases hq : yes (x5 = x)
            · rw [hq] at HEQ
              clear hok hx5 hq
              go_wp2_with (go_at_call 15; refine HEQ.out.mono ?_; rintro e w' ⟨rfl, rfl⟩)
              (try simp only [Exit.inBlock, Exit.then])
              refine bodyPost_ret (results_row_tmp (P := Tryz.prog) (p := 2) (u := 3) (ty := 29) rfl _ _ (T) 29 _ (0, 0) _ rfl (((HT0.out.put 0 _).put 1 _).put 2 _) Tryz.underlying29 rfl (by kernel_rfl)) rfl ?_
              exact HBR.out _ (((set1 w5 T 0 _).trans (set1 _ T 1 _) (fun k hk => .inl hk)).trans (set1 _ T 2 _) (fun k hk => .inl hk))
            · rw [hq] at HEQ
              have HOKK : Hid (rmOk ⟨[], R.map (·.s), Q⟩ ∧ x = all3 ⟨[], R.map (·.s), Q⟩) := Lib.hid ⟨hok, by rw [← yes_iff.1 hq, hx5]⟩
              clear hok hx5 hq
              go_wp2_with (go_at_call 15; refine HEQ.out.mono ?_; rintro e w' ⟨rfl, rfl⟩)
              (try simp only [Exit.inBlock, Exit.then])
              refine bodyPost_ret (results_row_tmp (P := Tryz.prog) (p := 2) (u := 3) (ty := 29) rfl _ _ (T) 29 _ (0, 0) _ rfl (((HT0.out.put 0 _).put 1 _).put 2 _) Tryz.underlying29 rfl (by kernel_rfl)) rfl ?_
              obtain ⟨p1, p2⟩ := HI5.out.res (((set1 w5 T 0 (.slice none 0 0)).trans (set1 _ T 1 (.slice so R.length scp)) (fun k hk => .inl hk)).trans (set1 _ T 2 (.slice qo Q.length qcp)) (fun k hk => .inl hk))
              exact ⟨_, _, _, _, R, _, rfl, p1, p2, HSH.out, .inl ⟨rfl, HOKK.out.1, HOKK.out.2⟩⟩
          · subst hn1
            clear hno hx5
            go_wp2
            (try simp only [Exit.inBlock, Exit.then])
            refine bodyPost_ret (results_row_tmp (P := Tryz.prog) (p := 2) (u := 3) (ty := 29) rfl _ _ (T) 29 _ (0, 0) _ rfl (((HT0.out.put 0 _).put 1 _).put 2 _) Tryz.underlying29 rfl (by kernel_rfl)) rfl ?_
            exact HBR.out _ (((set1 w5 T 0 _).trans (set1 _ T 1 _) (fun k hk => .inl hk)).trans (set1 _ T 2 _) (fun k hk => .inl hk))
        · go_wp2
          (try simp only [Exit.inBlock, Exit.then])
          refine bodyPost_ret (results_row_tmp (P := Tryz.prog) (p := 2) (u := 3) (ty := 29) rfl _ _ (T) 29 _ (0, 0) _ rfl (((HT0.out.put 0 _).put 1 _).put 2 _) Tryz.underlying29 rfl (by kernel_rfl)) rfl ?_
          exact HBR.out _ (((set1 w5 T 0 _).trans (set1 _ T 1 _) (fun k hk => .inl hk)).trans (set1 _ T 2 _) (fun k hk => .inl hk))
      · have hk0' : 0 < k := by have h := HGB.out; simp at h; omega
        have hk0 : (0 : Int) < (k : Int) := by omega
        obtain ⟨so, scp, rfl, _, _⟩ := (Rd.of_own HI.out.s).form
        have c3 := HI.out.W.cell 1
        simp only [List.getElem?_cons_zero, List.getElem?_cons_succ] at c3
        go_upto_region 6 with fail
        have hTR : T + 1 ∉ [T + 2] := by simp
        refine region_k 5 (S := fun wx => wx.cell? ⟨T + 1, 1, none⟩ = some (.slice so R.length scp)) (by kernel_rfl) c3 (fun hHeld => ?_)
        refine take_kp 0 ⟨?_, ?_, ?_, by kernel_rfl, by kernel_rfl, by kernel_rfl, ⟨by kernel_rfl, by kernel_rfl⟩, ?_, ?_, by assumption, ?_⟩
        rotate_left 2
        · (simp only [List.getElem?_toArray, List.getElem?_cons_succ, List.getElem?_cons_zero]; exact rfl)
        · exact fun _ _ _ h => h
        · first
            | (refine Or.inr ⟨by rfl, ?_⟩; exact rfl)
            | (refine Or.inl ⟨by rfl, ?_⟩
               intro w hSw
               (try dsimp only at hSw)
               (try go_split_ands)
               go_simp
               (first | done | with_reducible rfl))
        try simp only [Act.put, List.setIfInBounds_toArray, List.set_cons_zero, List.set_cons_succ]
        refine take_kl 1 ⟨?_, ?_, ?_, by kernel_rfl, by kernel_rfl, by kernel_rfl, ⟨by kernel_rfl, by kernel_rfl, by kernel_rfl⟩, ?_, ?_, by assumption, ?_⟩
        rotate_left 2
        · (simp only [List.getElem?_toArray, List.getElem?_cons_succ, List.getElem?_cons_zero]; exact rfl)
        · exact fun _ _ _ h => h
        · first
            | (refine Or.inr ⟨by rfl, ?_⟩; exact rfl)
            | (refine Or.inl ⟨by rfl, ?_⟩
               intro w hSw
               (try dsimp only at hSw)
               (try go_split_ands)
               go_simp
               (first | done | with_reducible rfl))
        try simp only [Act.put, List.setIfInBounds_toArray, List.set_cons_zero, List.set_cons_succ]
        refine take_kp 2 ⟨?_, ?_, ?_, by kernel_rfl, by kernel_rfl, by kernel_rfl, ⟨by kernel_rfl, by kernel_rfl⟩, ?_, ?_, by assumption, ?_⟩
        rotate_left 2
        · (simp only [List.getElem?_toArray, List.getElem?_cons_succ, List.getElem?_cons_zero]; exact rfl)
        · exact fun _ _ _ h => h
        · first
            | (refine Or.inr ⟨by rfl, ?_⟩; exact rfl)
            | (refine Or.inl ⟨by rfl, ?_⟩
               intro w hSw
               (try dsimp only at hSw)
               (try go_split_ands)
               go_simp
               (first | done | with_reducible rfl))
        try simp only [Act.put, List.setIfInBounds_toArray, List.set_cons_zero, List.set_cons_succ]
        have HId := Lib.hid (HI.out.below ((Below.refl wc.heap.size wc).drew))
        refine call_k 3 (by kernel_rfl) ⟨?_, ?_, fun K hK => ?_⟩
        rotate_left 1
        · (simp only [List.getElem?_toArray, List.getElem?_cons_succ, List.getElem?_cons_zero]; exact rfl)
        go_simp
        (go_at_call 13; refine (HSE.out _ HId.out.r).mono ?_; rintro e wz ⟨r, rfl, hso, hsn, hrz, hlz⟩; unfold seV)
        go_wp2_with fail
        refine hK.out _ _ (cell_left' hHeld hlz hTR) (fun hHeld => ?_)
        clear hK K
        (try simp only [Act.put, List.setIfInBounds_toArray, List.set_cons_zero, List.set_cons_succ])
        have HI1 := Lib.hid (HId.out.left hrz hlz)
        have HSO : Hid (SOwn wz (T + 3) x.length r ∧ SN x.length r.s) := Lib.hid ⟨hso.base HId.out.o.2.2.2, hsn⟩
        clear hrz hlz hso hsn
        refine call_k 4 (by kernel_rfl) ⟨?_, ?_, fun K hK => ?_⟩
        rotate_left 1
        · (simp only [List.getElem?_toArray, List.getElem?_cons_succ, List.getElem?_cons_zero]; exact rfl)
        go_simp
        skip
        go_wp2_with fail
        have HA0 := Lib.hid (enc_new eS wz 52 r)
        have HI4 := Lib.hid (HI1.out.below ((Below.refl wz.heap.size wz).alloc (Nat.le_refl _) (.cells (eS.c r).toArray 52)))
        have HSO4 : Hid (SOwn (wz.alloc (.cells (eS.c r).toArray 52)) (T + 3) x.length r ∧ SN x.length r.s) := Lib.hid ⟨HSO.out.1.left (Left.of_below ((Below.refl wz.heap.size wz).alloc (Nat.le_refl _) _) []) (by simp), HSO.out.2⟩
        have hcc := HI4.out.W.cell 1
        have hff := HI4.out.W.free 1
        simp only [List.getElem?_cons_zero, List.getElem?_cons_succ] at hcc
        have hBz := HI4.out.o.2.2.2
        have hNN := HNN.out
        simp only [eS, seC] at HA0 HI4 hcc hff hBz HSO4
        generalize (wz.alloc (.cells #[.string r.s.c, .bool r.s.cl, .int .i64 r.s.ln, .slice r.sa r.s.S.length r.sc, .int .i64 r.s.o.last, .slice r.fa r.s.o.F.length r.fc, .slice r.qa r.s.o.Q.length r.qc, .slice r.ia r.s.I.length r.ic, .bool r.s.wl.is, .string r.s.wl.t, .string r.s.wl.p, .int .i64 r.s.wl.q, .bool r.s.wl.r, .int .i64 r.s.keep, .int .i64 r.s.idle] 52)) = wA at HA0 HI4 hcc hff hBz HSO4 ⊢
        refine hK.out _ _ hcc (fun hHeld => ?_)
        clear hK K
        (try simp only [Act.put, List.setIfInBounds_toArray, List.set_cons_zero, List.set_cons_succ])
        refine tail_k (by kernel_rfl) (by kernel_rfl) (by kernel_rfl) ?_
        clear hHeld
        simp only [List.drop_succ_cons, List.drop_zero]
        go_wp2_with (at_builtin; refine wpList_app _ rfl (.tmp 26) (.tmp 29) 26 rfl (T + 3) 52 (.agg #[.string ⟨#[]⟩, .bool false, .int .i64 0, .slice none 0 0, .int .i64 0, .slice none 0 0, .slice none 0 0, .slice none 0 0, .bool false, .string ⟨#[]⟩, .string ⟨#[]⟩, .int .i64 0, .bool false, .int .i64 0, .int .i64 0]) 15 208 Tryz.underlying26 inf_S rfl (by omega) _ R.length (eS.cells R) rfl HI4.out.s _ _ 1 (eS.c r) rfl HA0.out (eS.one _) ?_ ?_ hBz ?_; (unfold maxLen; omega); omega)
        intro v5 w5 ho5 hg5 _
        have hW5 : Whole w5 (T + 1) 29 [.slice none 0 0, .slice so R.length scp, .slice none 0 0] := HI4.out.W.left (left_of_grown hg5) (fun hm => by have := (HI4.out.s.lt _ (mem_ownL.1 hm)).1; omega)
        have d3 := hW5.cell 1
        have g3 := hW5.free 1
        simp only [List.getElem?_cons_zero, List.getElem?_cons_succ] at d3
        obtain ⟨vo5, vc5, rfl, _, _⟩ := (Rd.of_own ho5).form
        have HI5 := Lib.hid (HI4.out.put_s HSO4.out ho5 hg5)
        clear ho5 hg5 hW5 hcc hff hBz HA0 HI4 HI1 hHeld HSO HSO4
        go_wp2
        go_roundw
        case rel => exact ⟨k - 1, _, _, by go_num, HI5, by simp; omega⟩
        case measure => simp [intOf]; omega
end Go.Proofs.YtlehkaibbkblkaaGreatDoor
