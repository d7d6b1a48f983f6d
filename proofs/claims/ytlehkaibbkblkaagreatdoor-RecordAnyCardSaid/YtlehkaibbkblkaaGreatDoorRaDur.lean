/- The page's own: what lasts of a broker. -/


import Derived.Test.YtlehkaibbkblkaaGreatDoorRaCpS
import Derived.Test.YtlehkaibbkblkaaGreatDoorRcPar
namespace Go.Proofs.YtlehkaibbkblkaaGreatDoor
open Go.RowKit Go.Shelf Go.Proofs
/-- What lasts of a session. -/
def dur1 (s : Se) : Se := ⟨s.c, s.cl, 0, s.S, s.o, s.I, wl0, 0, 0⟩
/-- What lasts of a broker. -/
def durL (S : List Se) : List Se := (S.filter (fun s => !s.cl)).map dur1
def durB (b : Br) : Br := ⟨[], durL b.S, b.K⟩
theorem durL_skip {S : List Se} {k : Nat} {s : Se} (h : S[k]? = some s) (hc : s.cl = true) : durL (S.take (k + 1)) = durL (S.take k) := by
  unfold durL
  rw [List.take_add_one, h, List.filter_append]
  simp [hc]
theorem durL_one {S : List Se} {k : Nat} {s : Se} (h : S[k]? = some s) (hc : s.cl = false) : durL (S.take (k + 1)) = durL (S.take k) ++ [dur1 s] := by
  unfold durL
  rw [List.take_add_one, h, List.filter_append]
  simp [hc]
theorem dur1_same {s : Se} (hs : sesOk s) (h0 : s.ln = 0 ∧ s.cl = false) : dur1 s = s := by
  obtain ⟨_, _, _, _, _, _, hwl, hwn, _, _, hlk⟩ := hs
  have hwi : s.wl.is = false := by
    cases hi : s.wl.is
    · rfl
    · exact absurd h0.1 (hwn hi).1
  have h1 := hwl.1 hwi
  have h2 : s.keep = 0 ∧ s.idle = 0 := by
    rcases hlk with h | h
    · have := h0.1; omega
    · exact h
  obtain ⟨c, cl, ln, S, o, I, wl, keep, idle⟩ := s
  simp only at h0 h1 h2
  unfold dur1
  simp only
  rw [h0.1, h1, h2.1, h2.2]
/-- What lasts lasts as it is. -/
theorem durB_same {b : Br} (h : rmOk b) : durB b = b := by
  obtain ⟨L, S, K⟩ := b
  obtain ⟨⟨_, _, _, h4, _⟩, h5, h6⟩ := h
  simp only at h4 h5 h6
  subst h5
  unfold durB durL
  simp only
  congr 1
  rw [List.filter_eq_self.2 (fun s hs => by rw [(h6 s hs).2]; rfl)]
  refine (List.map_congr_left fun s hs => ?_).trans (List.map_id S)
  obtain ⟨i, hi⟩ := List.getElem?_of_mem hs
  exact dur1_same (h4 i s hi).1 (h6 s hs)
/-- A broker on its way. -/
structure DI (w wr : World) (T : Nat) (ar : List Value) (sv : Value) (R : List Rs) (kv : Value) (K : List Msg) : Prop where
  A : Whole wr w.heap.size 29 ar
  Z : Whole wr (w.heap.size + 1) 29 [.slice none 0 0, .slice none 0 0, .slice none 0 0]
  W : Whole wr T 29 [.slice none 0 0, sv, kv]
  s : wr.ownsRow (T + 1) 52 15 sv R.length (eS.cells R)
  e : ∀ x ∈ R, SOwn wr (T + 1) 0 x
  k : wr.ownsRow (w.heap.size + 2) 64 4 kv K.length (eM.cells K)
  l : Below w.heap.size w wr
  o : w.heap.size + 2 ≤ T ∧ T + 1 ≤ wr.heap.size
section
variable {w wr w' : World} {T : Nat} {ar : List Value} {sv v' kv : Value} {R : List Rs} {K : List Msg}
theorem DI.below (h : DI w wr T ar sv R kv K) (hb : Below wr.heap.size wr w') : DI w w' T ar sv R kv K := by
  have hl := Left.of_below hb []
  have ho := h.o
  have hz := hb.size
  exact ⟨h.A.belowH hb, h.Z.belowH hb, h.W.belowH hb, own_below h.s hb, fun x hx => (h.e x hx).left hl (by simp), own_below h.k hb, b_tr h.l hb, by omega⟩
theorem DI.put_s {x : Rs} (h : DI w wr T ar sv R kv K) (hx : SOwn wr (T + 1) 0 x) (ho : w'.ownsRow (T + 1) 52 15 v' (R.length + 1) (eS.cells R ++ eS.c x)) (hg : wr.grownBy w' sv.ownBlock) :
    DI w (w'.setCell ⟨T, 1, none⟩ v') T ar v' (R ++ [x]) kv K := by
  have hoo := h.o
  have hl := left_of_grown hg
  have hne : ∀ k ∈ Value.ownL sv, T + 1 ≤ k := fun k hk => (h.s.lt k (mem_ownL.1 hk)).1
  have hty : ∀ k ∈ Value.ownL sv, Ty wr k 52 := fun k hk => own_ty h.s (mem_ownL.1 hk)
  have hsT : Left [T] w' (w'.setCell ⟨T, 1, none⟩ v') := set1 w' T 1 v'
  have hT : ∀ k ∈ [T], k < T + 1 := fun k hk => by rw [List.mem_singleton.1 hk]; omega
  have hzz := hl.size
  have hz2 := hsT.size
  have hk1 := own_leftB h.k hl (fun k hk e => (own_ty h.k e).ne (hty k hk) (by decide) rfl)
  have hW1 : Whole w' T 29 [.slice none 0 0, sv, kv] := h.W.left hl (fun hm => by have := hne _ hm; omega)
  refine ⟨(h.A.left hl (fun hm => by have := hne _ hm; omega)).other (by simp only; omega) v', (h.Z.left hl (fun hm => by have := hne _ hm; omega)).other (by simp only; omega) v', hW1.put 1 v', ?_, ?_,
    own_leftB hk1 hsT (fun k hk e => by rw [List.mem_singleton.1 hk] at e; exact (own_ty hk1 e).ne ⟨_, _, hW1⟩ (by decide) rfl), ?_, ⟨hoo.1, by omega⟩⟩
  · rw [eS.cells_app, eS.cells_one, List.length_append]
    exact own_left ho hsT hT
  · intro z hz
    rcases List.mem_append.1 hz with hz | hz
    · exact ((h.e z hz).ty hl hty).left hsT hT
    · rw [List.mem_singleton.1 hz]
      exact (hx.ty hl hty).left hsT hT
  · exact (h.l.trans (hl.belowB (by omega) (fun k hk => by have := hne k hk; omega))).trans (hsT.belowB (by omega) (fun k hk => by rw [List.mem_singleton.1 hk]; omega))
/-- The answer laid where it is told. -/
theorem DI.res (h : DI w wr T ar sv R kv K) (hl : Left [w.heap.size + 1] wr w') : Below w.heap.size w w' ∧ BRd w' w'.heap.size (.slice none 0 0) sv kv R ⟨[], R.map (·.s), K⟩ := by
  have hoo := h.o
  have hT : ∀ k ∈ [w.heap.size + 1], k < T + 1 := fun k hk => by rw [List.mem_singleton.1 hk]; omega
  exact ⟨h.l.trans (hl.belowB (by omega) (fun k hk => by rw [List.mem_singleton.1 hk]; omega)), ⟨rfl, Rd.nil_ _ _ _, Rd.of_own (own_left h.s hl hT), fun x hx => ((h.e x hx).left hl hT).rd, Rd.of_own (own_left h.k hl (fun k hk => by rw [List.mem_singleton.1 hk]; omega))⟩⟩
end
set_option maxRecDepth 20000 in
set_option maxHeartbeats 8000000 in
theorem Dur_any (w : World) (lv sv kv : Value) (R : List Rs) (b : Br) (h : BRd w w.heap.size lv sv kv R b) (hk : broOk b) :
    Calls Tryz.prog 23 #[.agg #[lv, sv, kv]] w fun e w' => ∃ sv' kv', e = .returned (.agg #[.slice none 0 0, sv', kv']) ∧ (∃ R', BRd w' w'.heap.size (.slice none 0 0) sv' kv' R' (durB b)) ∧ Below w.heap.size w w' := by
  obtain ⟨L, S, K⟩ := b
  obtain ⟨hRe, hRl, hRs, hRr, hRk⟩ := h
  obtain ⟨hk1, hk2, _, hk4, _⟩ := hk
  simp only at hRe hRl hRk hk1 hk2 hk4
  subst hRe
  obtain ⟨la, lc, rfl, _, hlm⟩ := hRl.form
  obtain ⟨sa, sc, rfl, _, hsm⟩ := hRs.form
  obtain ⟨ka, kc, rfl, _, _⟩ := hRk.form
  have hsc : sc ≤ 9223372036854775807 := by unfold maxLen at hsm; omega
  have hrl : R.length ≤ 8 := by simpa using hk1
  have hkl : K.length ≤ 16 := (kept_f hk2).1
  obtain ⟨B, hB⟩ : ∃ B, w.heap.size = B := ⟨_, rfl⟩
  obtain ⟨w1, hw1⟩ : ∃ w1, (w.alloc (.cells #[.slice la L.length lc, .slice sa R.length sc, .slice ka K.length kc] 29)).alloc (.cells #[.slice none 0 0, .slice none 0 0, .slice none 0 0] 29) = w1 := ⟨_, rfl⟩
  have hb1 : Below w.heap.size w w1 := by rw [← hw1]; go_grown
  have hz1 : w1.heap.size = B + 2 := by rw [← hw1]; simp [hB]
  have hA1 : Whole w1 B 29 [.slice la L.length lc, .slice sa R.length sc, .slice ka K.length kc] := by rw [← hw1, ← hB]; exact (Whole.new w 29 _).alloc _
  have hR1 : Whole w1 (B + 1) 29 [.slice none 0 0, .slice none 0 0, .slice none 0 0] := by
    rw [← hw1, ← hB]
    have := Whole.new (w.alloc (.cells #[.slice la L.length lc, .slice sa R.length sc, .slice ka K.length kc] 29)) 29 [.slice none 0 0, .slice none 0 0, .slice none 0 0]
    simpa using this
  have HCM := Lib.hid (cpM_any w1 _ K _ (hRk.below hb1) hb1.size (by omega))
  have HRS := Lib.hid (fun wx (hx : Below w.heap.size w wx) => hRs.below hx)
  have HRR := Lib.hid (fun x (hm : x ∈ R) wx (hx : Below w.heap.size w wx) => ((hRr x hm).below hx).more hx.size)
  have HSZ : Hid (∀ x ∈ R, x.s.S.length ≤ 1000000 ∧ x.s.o.F.length ≤ 1000000 ∧ x.s.o.Q.length ≤ 1000000 ∧ x.s.I.length ≤ 1000000) := Lib.hid (fun x hx => by
    obtain ⟨i, hi⟩ := List.getElem?_of_mem hx
    obtain ⟨_, _, _, h4, h5, h6, _⟩ := (hk4 i x.s (by rw [List.getElem?_map, hi]; rfl)).1
    have g1 := (subs_f h4).1
    have g2 := h6.1
    obtain ⟨_, _, o3, o4, _⟩ := h5
    omega)
  have HW1 := Lib.hid hw1
  have HBB := Lib.hid hB
  obtain ⟨a0, a1, a2, _, _, _⟩ := hA1.three
  clear hRl hRs hRr hRk hk2 hk4 hlm hsm hk1 hw1
  go_enter Tryz.func23, Tryz.ntmps23
  go_upto_region 1 with fail
  rw [HW1.out]
  go_upto_region 2 with (go_at_call 40; refine HCM.out.mono ?_; rintro e w2 ⟨v2, rfl, ho2, hb2⟩; obtain ⟨k2, kc2, rfl, _, _⟩ := (Rd.of_own ho2).form)
  clear a0 a1 a2
  obtain ⟨T, hT⟩ : ∃ T, w2.heap.size = T := ⟨_, rfl⟩
  obtain ⟨w3, hw3⟩ : ∃ w3, w2.alloc (.cells #[.slice none 0 0, .slice none 0 0, .slice k2 K.length kc2] 29) = w3 := ⟨_, rfl⟩
  have hb3 : Below w2.heap.size w2 w3 := by rw [← hw3]; exact (Below.refl _ _).alloc (Nat.le_refl _) _
  have hz2 := hb2.size
  have hz3 : w3.heap.size = T + 1 := by rw [← hw3, ← hT]; simp
  have HI0 : Hid (DI w w3 T [.slice la L.length lc, .slice sa R.length sc, .slice ka K.length kc] (.slice none 0 0) [] (.slice k2 K.length kc2) K) := Lib.hid
    ⟨by rw [hB]; exact (hA1.belowH hb2).belowH hb3, by rw [hB]; exact (hR1.belowH hb2).belowH hb3, by rw [← hw3, ← hT]; exact Whole.new w2 29 _, World.ownsRow_nil _ _ _ _, by simp, own_below (own_base ho2 (by omega)) hb3, b_tr (b_tr hb1 hb2) hb3, by omega⟩
  rw [hw3]
  have HTT := Lib.hid hT
  clear hA1 hR1 hb1 hb2 ho2 hb3 hw3 hz1 hz2 hz3 hT hB
  rw [HTT.out]
  go_wp2
  go_loopw [4] (fun i wr => ∃ (k : Nat) (sv : Value) (R2 : List Rs), i = .int .i64 k ∧ k ≤ R.length ∧ Hid (DI w wr T [.slice la L.length lc, .slice sa R.length sc, .slice ka K.length kc] sv R2 (.slice k2 K.length kc2) K) ∧ Hid (R2.map (·.s) = durL ((R.map (·.s)).take k)) ∧ R2.length ≤ k) (fun i _ => R.length - (intOf i).toNat)
  case atStart => exact ⟨0, _, [], rfl, by omega, HI0, Lib.hid rfl, by simp⟩
  case round =>
    clear HI0
    obtain ⟨k, sv, R2, rfl, hkl2, HI, HR2, hr2⟩ := hrel
    have hA := HI.out.A
    rw [HBB.out] at hA
    obtain ⟨a0, a1, a2, _, _, _⟩ := hA.three
    clear hA
    obtain ⟨so, scp, rfl, _, _⟩ := (Rd.of_own HI.out.s).form
    by_cases hlt : k < R.length
    · have hlt' : (k : Int) < (R.length : Int) := by omega
      obtain ⟨x, hx⟩ : ∃ x, R[k]? = some x := ⟨_, List.getElem?_eq_getElem hlt⟩
      obtain ⟨b, o, rfl, _, hcs⟩ := Enc.rd_cell (E := eS) (HRS.out _ HI.out.l) rfl hx
      obtain ⟨x0, x1, x2, x3, x4, x5, x6, x7, x8, x9, x10, x11, x12, x13, x14⟩ := ses_cells (show World.rangeAt _ b (o + k * 15) (eS.c x) from hcs)
      have hxm := List.mem_of_getElem? hx
      have HCS := Lib.hid (cpS_any wr x (HRR.out x hxm _ HI.out.l) (HSZ.out x hxm))
      have HXS : Hid ((R.map (·.s))[k]? = some x.s) := Lib.hid (by rw [List.getElem?_map, hx]; rfl)
      clear hx hcs hxm
      unfold seV at HCS
      go_upto_region 6 with (go_at_call 41; refine HCS.out.mono ?_; rintro e wz ⟨⟨rs, rsa, rsc, rfa, rfc, rqa, rqc, ria, ric⟩, hrs, rfl, hso, hbz⟩; obtain rfl : rs = x.s := hrs)
      clear x0 x1 x2 x3 x4 x5 x6 x7 x8 x9 x10 x11 x12 x13 x14 a0 a1 a2 HCS
      obtain ⟨w5, hw5⟩ : ∃ w5, wz.alloc (.cells (seC ⟨x.s, rsa, rsc, rfa, rfc, rqa, rqc, ria, ric⟩).toArray 52) = w5 := ⟨_, rfl⟩
      have hb5 : Below wz.heap.size wz w5 := by rw [← hw5]; exact (Below.refl _ _).alloc (Nat.le_refl _) _
      have hW5 : Whole w5 wz.heap.size 52 (seC ⟨x.s, rsa, rsc, rfa, rfc, rqa, rqc, ria, ric⟩) := by rw [← hw5]; exact Whole.new wz 52 _
      obtain ⟨T5, hT5⟩ : ∃ T5, wz.heap.size = T5 := ⟨_, rfl⟩
      simp only [seC] at hw5
      rw [hw5]
      rw [hT5] at hW5 ⊢
      have HT5 := Lib.hid hT5
      clear hw5 hT5
      obtain ⟨y0, y1, y2, y3, y4, y5, y6, y7, y8, y9, y10, y11, y12, y13, y14⟩ := ses_whole hW5
      dsimp only at y0 y1 y2 y3 y4 y5 y6 y7 y8 y9 y10 y11 y12 y13 y14
      cases hcl : x.s.cl
      · rw [hcl] at y1
        simp only [seC] at hW5
        rw [hcl] at hW5
        have HCL := Lib.hid hcl
        clear hcl
        have f2 := hW5.free 2
        have f8 := hW5.free 8
        have f9 := hW5.free 9
        have f10 := hW5.free 10
        have f11 := hW5.free 11
        have f12 := hW5.free 12
        have f13 := hW5.free 13
        have f14 := hW5.free 14
        go_upto_region 8 with fail
        clear f2 f8 f9 f10 f11 f12 f13 f14 y0 y1 y2 y3 y4 y5 y6 y7 y8 y9 y10 y11 y12 y13 y14
        obtain ⟨w6, hw6⟩ : ∃ w6, ((((((((w5.setCell ⟨T5, 2, none⟩ (.int .i64 0)).setCell ⟨T5, 13, none⟩ (.int .i64 0)).setCell ⟨T5, 14, none⟩ (.int .i64 0)).setCell ⟨T5, 8, none⟩ (.bool false)).setCell ⟨T5, 9, none⟩ (.string ⟨#[]⟩)).setCell ⟨T5, 10, none⟩ (.string ⟨#[]⟩)).setCell ⟨T5, 11, none⟩ (.int .i64 0)).setCell ⟨T5, 12, none⟩ (.bool false)) = w6 := ⟨_, rfl⟩
        have hle : wz.heap.size ≤ T5 := Nat.le_of_eq HT5.out
        have hb6 : Below wz.heap.size wz w6 := by
          rw [← hw6]
          exact (((((((hb5.setCell hle _).setCell hle _).setCell hle _).setCell hle _).setCell hle _).setCell hle _).setCell hle _).setCell hle _
        have hW6 : Whole w6 T5 52 (seC ⟨⟨x.s.c, false, 0, x.s.S, x.s.o, x.s.I, wl0, 0, 0⟩, rsa, rsc, rfa, rfc, rqa, rqc, ria, ric⟩) := by
          rw [← hw6]
          exact ((((((((hW5.put 2 _).put 13 _).put 14 _).put 8 _).put 9 _).put 10 _).put 11 _).put 12 _)
        rw [hw6]
        have hdi := HI.out.below (b_tr hbz hb6)
        have hoo := HI.out.o
        have HSO : Hid (SOwn w6 (T + 1) 0 ⟨⟨x.s.c, false, 0, x.s.S, x.s.o, x.s.I, wl0, 0, 0⟩, rsa, rsc, rfa, rfc, rqa, rqc, ria, ric⟩) := Lib.hid (by
          have h := (hso.base hoo.2).left (Left.of_below hb6 []) (by simp)
          exact ⟨h.s, h.f, h.q, h.i⟩)
        have hba : Below w6.heap.size w6 (w6.alloc (.cells (seC ⟨⟨x.s.c, false, 0, x.s.S, x.s.o, x.s.I, wl0, 0, 0⟩, rsa, rsc, rfa, rfc, rqa, rqc, ria, ric⟩).toArray 52)) := (Below.refl _ _).alloc (Nat.le_refl _) _
        have HI7 := Lib.hid (hdi.below hba)
        have HSO7 := Lib.hid (HSO.out.left (Left.of_below hba []) (by simp))
        have HA := Lib.hid (enc_new eS w6 52 ⟨⟨x.s.c, false, 0, x.s.S, x.s.o, x.s.I, wl0, 0, 0⟩, rsa, rsc, rfa, rfc, rqa, rqc, ria, ric⟩)
        obtain ⟨y0, y1, y2, y3, y4, y5, y6, y7, y8, y9, y10, y11, y12, y13, y14⟩ := ses_whole hW6
        dsimp only [wl0] at y0 y1 y2 y3 y4 y5 y6 y7 y8 y9 y10 y11 y12 y13 y14
        obtain ⟨d0, d1, d2, _, _, _⟩ := hdi.W.three
        have hT6 : T + 1 ≤ w6.heap.size := hdi.o.2
        simp only [eS, seC, wl0] at HA
        simp only [seC, wl0] at HI7
        clear hw6 hle hb6 hW6 hdi hso hba hb5 hW5 HSO
        go_wp2_with (at_builtin; refine wpList_app _ rfl (.tmp 31) (.tmp 33) _ rfl (T + 1) 52 (.agg #[.string ⟨#[]⟩, .bool false, .int .i64 0, .slice none 0 0, .int .i64 0, .slice none 0 0, .slice none 0 0, .slice none 0 0, .bool false, .string ⟨#[]⟩, .string ⟨#[]⟩, .int .i64 0, .bool false, .int .i64 0, .int .i64 0]) 15 208 Tryz.underlying26 inf_S rfl (by omega) _ R2.length (eS.cells R2) rfl HI7.out.s _ _ 1 (eS.c ⟨⟨x.s.c, false, 0, x.s.S, x.s.o, x.s.I, wl0, 0, 0⟩, rsa, rsc, rfa, rfc, rqa, rqc, ria, ric⟩) rfl HA.out (eS.one _) ?_ ?_ ?_ ?_)
        · unfold maxLen; omega
        · omega
        · simp; omega
        intro v5 w7 ho7 hg7 _
        have hW7 : Whole w7 T 29 [.slice none 0 0, .slice so R2.length scp, .slice k2 K.length kc2] := HI7.out.W.left (left_of_grown hg7) (fun hm => by have := (HI7.out.s.lt _ (mem_ownL.1 hm)).1; omega)
        obtain ⟨g0, g1, g2, q0, q1, q2⟩ := hW7.three
        obtain ⟨vo5, vc5, rfl, _, _⟩ := (Rd.of_own ho7).form
        have HI8 := Lib.hid (HI7.out.put_s HSO7.out ho7 hg7)
        have HR3 : Hid ((R2 ++ [(⟨⟨x.s.c, false, 0, x.s.S, x.s.o, x.s.I, wl0, 0, 0⟩, rsa, rsc, rfa, rfc, rqa, rqc, ria, ric⟩ : Rs)]).map (·.s) = durL ((R.map (·.s)).take (k + 1))) := Lib.hid (by
          rw [durL_one HXS.out HCL.out, List.map_append, HR2.out]
          unfold dur1
          rw [HCL.out]
          rfl)
        clear ho7 hg7 hW7
        go_wp2
        go_roundw
        case rel => exact ⟨k + 1, _, _, by go_num, by omega, HI8, HR3, by simp; omega⟩
        case measure => simp [intOf]; omega
      · rw [hcl] at y1
        have HI5 := Lib.hid (HI.out.below (b_tr hbz hb5))
        have HR3 : Hid (R2.map (·.s) = durL ((R.map (·.s)).take (k + 1))) := Lib.hid (by rw [durL_skip HXS.out hcl, HR2.out])
        clear hcl hso hbz hb5 hW5
        go_wp2
        go_roundw
        case rel => exact ⟨k + 1, _, R2, by go_num, by omega, HI5, HR3, by omega⟩
        case measure => simp [intOf]; omega
    · have hlt' : ¬ ((k : Int) < (R.length : Int)) := by omega
      obtain rfl : k = R.length := by omega
      obtain ⟨d0, d1, d2, _, _, _⟩ := HI.out.W.three
      have hZ := HI.out.Z
      rw [HBB.out] at hZ
      obtain ⟨z0, z1, z2, q0, q1, q2⟩ := hZ.three
      have HZ := Lib.hid hZ
      have HB2 := Lib.hid (HI.out.res (w' := ((wr.setCell ⟨B + 1, 0, none⟩ (.slice none 0 0)).setCell ⟨B + 1, 1, none⟩ (.slice so R2.length scp)).setCell ⟨B + 1, 2, none⟩ (.slice k2 K.length kc2)) (by rw [HBB.out]; exact (((Left.refl _ wr).setCell (Or.inl (by simp)) _).setCell (Or.inl (by simp)) _).setCell (Or.inl (by simp)) _))
      have HE : Hid (R2.map (·.s) = durL (R.map (·.s))) := Lib.hid (by rw [HR2.out, List.take_of_length_le (by simp)])
      clear hZ
      go_wp2
      (try simp only [Exit.inBlock, Exit.then])
      refine bodyPost_ret (results_cell_row (P := Tryz.prog) (p := 2) (ty := 29) rfl _ _ (B + 1) 29 _ (0, 0) _ rfl (((HZ.out.put 0 _).put 1 _).put 2 _) Tryz.underlying29 rfl (by kernel_rfl)) rfl ?_
      refine ⟨_, _, rfl, ⟨R2, ?_⟩, HB2.out.1⟩
      have := HB2.out.2
      rw [HE.out] at this
      exact this
end Go.Proofs.YtlehkaibbkblkaaGreatDoor
