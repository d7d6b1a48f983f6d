/- A broker that lasts; its bytes. A broker that lasts is not long; its bytes, or a refusal. Parse: any bytes are a broker that lasts, told by just these bytes, or none. Sessions, a broker copied: of any. A broker copied: of any. -/
import Derived.Test.YtknnaeejkmlnbaaGreatDoorRcMay3
import Derived.Test.YtknnaeejkmlnbaaGreatDoorGc
import Derived.Test.YtknnaeejkmlnbaaGreatDoorGe
namespace Go.Proofs.YtknnaeejkmlnbaaGreatDoor
open Go.RowKit Go.Shelf Go.Proofs
/-- A broker that lasts as it is. -/
def rmOk (b : Br) : Prop := broOk b ∧ b.L = [] ∧ ∀ s ∈ b.S, s.ln = 0 ∧ s.cl = false
end Go.Proofs.YtknnaeejkmlnbaaGreatDoor
namespace Go.Proofs.YtknnaeejkmlnbaaGreatDoor
open Go.RowKit Go.Shelf Go.Proofs
theorem subs_f {L : List Wish1} (h : subsB L = true) : L.length ≤ 16 ∧ ∀ x ∈ L, x.f.size ≤ 64 := by
  unfold subsB at h
  simp only [Bool.and_eq_true, decide_eq_true_eq] at h
  refine ⟨h.1, fun x hx => ?_⟩
  obtain ⟨i, hi⟩ := List.getElem?_of_mem hx
  have h2 := List.all_eq_true.1 h.2 i (List.mem_range.2 (List.getElem?_eq_some_iff.1 hi).1)
  rw [hi] at h2
  simp only [wOk, mayW, Bool.and_eq_true] at h2
  have h3 := h2.1.1
  unfold ft at h3
  simp only [Bool.and_eq_true] at h3
  exact (tx_le h3.1).2
theorem kept_f {K : List Msg} (h : Kq.subsB (K.map k1) = true) : K.length ≤ 16 ∧ ∀ m ∈ K, m.t.size ≤ 64 ∧ m.p.size ≤ 128 := by
  unfold Kq.subsB at h
  simp only [Bool.and_eq_true, decide_eq_true_eq, List.length_map] at h
  refine ⟨h.1, fun m hm => ?_⟩
  obtain ⟨i, hi⟩ := List.getElem?_of_mem hm
  have hi2 : (K.map k1)[i]? = some (k1 m) := by rw [List.getElem?_map, hi]; rfl
  have h2 := List.all_eq_true.1 h.2 i (List.mem_range.2 (by rw [List.length_map]; exact (List.getElem?_eq_some_iff.1 hi).1))
  rw [hi2] at h2
  simp only [Kq.wOk, Kq.mayK, Kq.mayW, Bool.and_eq_true, decide_eq_true_eq] at h2
  have h3 := h2.1.1.1.1.1
  have h4 := h2.1.1.1.1.2
  unfold nm at h3
  simp only [Bool.and_eq_true] at h3
  exact ⟨(tx_le h3.1).2, h4⟩
end Go.Proofs.YtknnaeejkmlnbaaGreatDoor
namespace Go.Proofs.YtknnaeejkmlnbaaGreatDoor
open Go.RowKit Go.Shelf Go.Proofs
theorem inf_S : (Tryz.prog.info? 61).map (fun i => (i.zero, i.size, i.bytes)) = some (some (.agg #[.string ⟨#[]⟩, .bool false, .int .i64 0, .slice none 0 0, .int .i64 0, .slice none 0 0, .slice none 0 0, .slice none 0 0, .bool false, .string ⟨#[]⟩, .string ⟨#[]⟩, .int .i64 0, .bool false, .int .i64 0, .int .i64 0]), 15, 208) := by kernel_rfl
section
variable {w w' : World} {B B' N : Nat} {r : Rs} {S : List Nat}
theorem SOwn.left (h : SOwn w B N r) (hl : Left S w w') (hS : ∀ k ∈ S, k < B) : SOwn w' B N r := ⟨own_left h.s hl hS, own_left h.f hl hS, own_left h.q hl hS, own_left h.i hl hS⟩
theorem SOwn.base (h : SOwn w B N r) (hB : B' ≤ B) : SOwn w B' N r := ⟨own_base h.s hB, own_base h.f hB, own_base h.q hB, own_base h.i hB⟩
theorem SOwn.ty (h : SOwn w B N r) (hl : Left S w w') (hS : ∀ k ∈ S, Ty w k 61) : SOwn w' B N r :=
  ⟨own_leftB h.s hl (fun k hk e => (own_ty h.s e).ne (hS k hk) (by decide) rfl), own_leftB h.f hl (fun k hk e => (own_ty h.f e).ne (hS k hk) (by decide) rfl),
    own_leftB h.q hl (fun k hk e => (own_ty h.q e).ne (hS k hk) (by decide) rfl), own_leftB h.i hl (fun k hk e => (own_ty h.i e).ne (hS k hk) (by decide) rfl)⟩
theorem SOwn.rd (h : SOwn w B N r) : SRd w w.heap.size r := ⟨Rd.of_own h.s, Rd.of_own h.f, Rd.of_own h.q, Rd.of_own h.i⟩
end
section
variable {w wr w' : World} {Bd RB N B T : Nat} {sv v' kv : Value} {R : List Rs} {K : List Msg}
end
end Go.Proofs.YtknnaeejkmlnbaaGreatDoor
namespace Go.Proofs.YtknnaeejkmlnbaaGreatDoor
open Go.RowKit Go.Shelf Go.Proofs
def Szs (R : List Rs) : Prop := ∀ x ∈ R, x.s.S.length ≤ 1000000 ∧ x.s.o.F.length ≤ 1000000 ∧ x.s.o.Q.length ≤ 1000000 ∧ x.s.I.length ≤ 1000000
set_option maxRecDepth 20000 in
set_option maxHeartbeats 4000000 in
theorem cpSs_any (w : World) (v : Value) (R : List Rs) (Bd : Nat) (h : Rd w Bd 15 v R.length (eS.cells R)) (hr : ∀ x ∈ R, SRd w Bd x) (hBd : Bd ≤ w.heap.size) (hn : R.length ≤ 1000000) (hs : Szs R) :
    Calls Tryz.prog 17 #[v] w fun e w' => ∃ v', e = .returned v' ∧ (∃ R2 : List Rs, R2.map (·.s) = R.map (·.s) ∧ w'.ownsRow w.heap.size 61 15 v' R2.length (eS.cells R2) ∧ ∀ x ∈ R2, SOwn w' w.heap.size 0 x) ∧ Below w.heap.size w w' := by
  obtain ⟨ao, cap, rfl, hc, hm⟩ := h.form
  have hm' : cap ≤ 9223372036854775807 := by unfold maxLen at hm; omega
  have H := Lib.hid h
  have HR := Lib.hid hr
  have HS := Lib.hid hs
  clear h hm hr hs
  go_enter Tryz.func17, Tryz.ntmps17
  go_wp2
  go_loopw [3, 4] (fun v i wr => ∃ (k : Nat) (R2 : List Rs) (so : Option Addr) (sc : Nat), k ≤ R.length ∧ v = .slice so R2.length sc ∧ i = .int .i64 k ∧ Below w.heap.size w wr ∧ Hid (R2.map (·.s) = (R.map (·.s)).take k ∧ R2.length = k) ∧ Hid (wr.ownsRow w.heap.size 61 15 (.slice so R2.length sc) R2.length (eS.cells R2) ∧ ∀ x ∈ R2, SOwn wr w.heap.size 0 x)) (fun _ i _ => R.length - (intOf i).toNat)
  case atStart => exact ⟨0, [], none, 0, by omega, rfl, rfl, Below.refl _ _, Lib.hid ⟨rfl, rfl⟩, Lib.hid ⟨World.ownsRow_nil _ _ _ _, by simp⟩⟩
  case round =>
    obtain ⟨k, R2, so, sc, hk, rfl, rfl, hb, HM, HO⟩ := hrel
    have hzs := hb.size
    by_cases hlt : k < R.length
    · have hlt' : (k : Int) < (R.length : Int) := by omega
      obtain ⟨x, hx⟩ : ∃ x, R[k]? = some x := ⟨_, List.getElem?_eq_getElem hlt⟩
      obtain ⟨b, o, rfl, _, hcs⟩ := Enc.rd_cell (E := eS) (H.out.below (hb.mono hBd)) rfl hx
      obtain ⟨x0, x1, x2, x3, x4, x5, x6, x7, x8, x9, x10, x11, x12, x13, x14⟩ := ses_cells (show World.rangeAt _ b (o + k * 15) (eS.c x) from hcs)
      have hxm := List.mem_of_getElem? hx
      have HCS := Lib.hid (cpS_any wr x (((HR.out x hxm).below (hb.mono hBd)).more (Nat.le_trans hBd hzs)) (HS.out x hxm))
      have HXS : Hid ((R.map (·.s))[k]? = some x.s) := Lib.hid (by rw [List.getElem?_map, hx]; rfl)
      have hR2 : R2.length ≤ 1000000 := by have := HM.out.2; omega
      clear hx hcs hxm
      unfold seV at HCS
      go_wp2_with first
        | (go_at_call 31; refine HCS.out.mono ?_; rintro e wz ⟨⟨rs, rsa, rsc, rfa, rfc, rqa, rqc, ria, ric⟩, hrs, rfl, hso, hbz⟩; obtain rfl : rs = x.s := hrs
           have hba : Below wz.heap.size wz (wz.alloc (.cells (seC ⟨x.s, rsa, rsc, rfa, rfc, rqa, rqc, ria, ric⟩).toArray 61)) := (Below.refl _ _).alloc (Nat.le_refl _) _
           have hA := enc_new eS wz 61 ⟨x.s, rsa, rsc, rfa, rfc, rqa, rqc, ria, ric⟩
           have ho7 := own_below (own_below HO.out.1 hbz) hba
           have HO7 : Hid (wz.alloc (.cells (seC ⟨x.s, rsa, rsc, rfa, rfc, rqa, rqc, ria, ric⟩).toArray 61) |>.ownsRow w.heap.size 61 15 (.slice so R2.length sc) R2.length (eS.cells R2)) := Lib.hid ho7
           have HR7 := Lib.hid (fun y (hy : y ∈ R2) => ((HO.out.2 y hy).left (Left.of_below hbz []) (by simp)).left (Left.of_below hba []) (by simp))
           have HS7 := Lib.hid ((hso.base hzs).left (Left.of_below hba []) (by simp))
           have HBZ := Lib.hid ((b_tr hb hbz).trans (hba.mono (Nat.le_trans hzs hbz.size)))
           simp only [eS, seC] at hA
           have HA := Lib.hid hA
           simp only [seC] at HO7 HR7 HS7 HBZ
           clear hba hA ho7 hso hbz)
        | (at_builtin; refine wpList_app _ rfl (.tmp 11) (.tmp 17) _ rfl w.heap.size 61 (.agg #[.string ⟨#[]⟩, .bool false, .int .i64 0, .slice none 0 0, .int .i64 0, .slice none 0 0, .slice none 0 0, .slice none 0 0, .bool false, .string ⟨#[]⟩, .string ⟨#[]⟩, .int .i64 0, .bool false, .int .i64 0, .int .i64 0]) 15 208 Tryz.underlying23 inf_S rfl (by omega) _ R2.length (eS.cells R2) rfl HO7.out _ _ 1 (eS.c ⟨x.s, rsa, rsc, rfa, rfc, rqa, rqc, ria, ric⟩) rfl HA.out (eS.one _) ?_ ?_ ?_ ?_)
      · unfold maxLen; omega
      · omega
      · have := HBZ.out.size; omega
      intro v5 w7 ho7 hg7 _
      obtain ⟨vo5, vc5, rfl, _, _⟩ := (Rd.of_own ho7).form
      have hl := left_of_grown hg7
      have hty : ∀ k ∈ Value.ownL (.slice so R2.length sc), Ty _ k 61 := fun k hk => own_ty HO7.out (mem_ownL.1 hk)
      have HO8 : Hid (w7.ownsRow w.heap.size 61 15 (.slice vo5 (R2.length + 1) vc5) (R2.length + 1) (eS.cells (R2 ++ [(⟨x.s, rsa, rsc, rfa, rfc, rqa, rqc, ria, ric⟩ : Rs)])) ∧ ∀ y ∈ R2 ++ [(⟨x.s, rsa, rsc, rfa, rfc, rqa, rqc, ria, ric⟩ : Rs)], SOwn w7 w.heap.size 0 y) := Lib.hid ⟨by rw [eS.cells_app, eS.cells_one]; exact ho7, fun y hy => by
        rcases List.mem_append.1 hy with hy | hy
        · exact (HR7.out y hy).ty hl hty
        · rw [List.mem_singleton.1 hy]
          exact HS7.out.ty hl hty⟩
      have hb8 : Below w.heap.size w w7 := HBZ.out.trans (hl.belowB HBZ.out.size (fun k hk => (HO7.out.lt k (mem_ownL.1 hk)).1))
      have HM8 : Hid ((R2 ++ [(⟨x.s, rsa, rsc, rfa, rfc, rqa, rqc, ria, ric⟩ : Rs)]).map (·.s) = (R.map (·.s)).take (k + 1) ∧ (R2 ++ [(⟨x.s, rsa, rsc, rfa, rfc, rqa, rqc, ria, ric⟩ : Rs)]).length = k + 1) := Lib.hid ⟨by rw [List.map_append, HM.out.1, List.take_add_one, HXS.out]; rfl, by rw [List.length_append, HM.out.2]; rfl⟩
      clear ho7 hg7 hl hty
      go_wp2
      go_roundw
      case rel => exact ⟨k + 1, R2 ++ [⟨x.s, rsa, rsc, rfa, rfc, rqa, rqc, ria, ric⟩], vo5, vc5, by omega, by simp, by go_num, hb8, HM8, by simpa using HO8⟩
      case measure => simp [intOf]; omega
    · have hlt' : ¬ ((k : Int) < (R.length : Int)) := by omega
      obtain rfl : k = R.length := by omega
      have HE : Hid (∃ R2' : List Rs, R2'.map (·.s) = R.map (·.s) ∧ wr.ownsRow w.heap.size 61 15 (.slice so R2.length sc) R2'.length (eS.cells R2') ∧ ∀ x ∈ R2', SOwn wr w.heap.size 0 x) := Lib.hid ⟨R2, by rw [HM.out.1, List.take_of_length_le (by simp)], HO.out.1, HO.out.2⟩
      go_wp2
      go_ret
      exact ⟨_, rfl, HE.out, hb⟩
end Go.Proofs.YtknnaeejkmlnbaaGreatDoor
namespace Go.Proofs.YtknnaeejkmlnbaaGreatDoor
open Go.RowKit Go.Shelf Go.Proofs
set_option maxRecDepth 20000 in
set_option maxHeartbeats 4000000 in
theorem cpB_any (w : World) (lv sv kv : Value) (R : List Rs) (b : Br) (h : BRd w w.heap.size lv sv kv R b) (hn : b.L.length ≤ 1000000 ∧ R.length ≤ 1000000 ∧ b.K.length ≤ 1000000) (hs : Szs R) :
    Calls Tryz.prog 5 #[.agg #[lv, sv, kv]] w fun e w' => ∃ lv' sv' kv', e = .returned (.agg #[lv', sv', kv']) ∧ (∃ R', BRd w' w'.heap.size lv' sv' kv' R' b) ∧ Below w.heap.size w w' := by
  obtain ⟨L, S, K⟩ := b
  obtain ⟨hRe, hRl, hRs, hRr, hRk⟩ := h
  obtain ⟨hn1, hn2, hn3⟩ := hn
  simp only at hRe hRl hRk hn1 hn3
  subst hRe
  obtain ⟨la, lc, rfl, _, _⟩ := hRl.form
  obtain ⟨sa, sc, rfl, _, _⟩ := hRs.form
  obtain ⟨ka, kc, rfl, _, _⟩ := hRk.form
  have HCL := Lib.hid (fun (wx : World) (hx : Below w.heap.size w wx) => cpI_any wx _ L _ (hRl.below hx) hx.size (by omega))
  have HCK := Lib.hid (fun (wx : World) (hx : Below w.heap.size w wx) => cpM_any wx _ K _ (hRk.below hx) hx.size (by omega))
  have HCS := Lib.hid (fun (wx : World) (hx : Below w.heap.size w wx) => cpSs_any wx _ R _ (hRs.below hx) (fun x hm => (hRr x hm).below hx) hx.size hn2 hs)
  obtain ⟨B, hB⟩ : ∃ B, w.heap.size = B := ⟨_, rfl⟩
  obtain ⟨w1, hw1⟩ : ∃ w1, ((w.alloc (.cells #[.slice la L.length lc, .slice sa R.length sc, .slice ka K.length kc] 26)).alloc (.cells #[.slice none 0 0, .slice none 0 0, .slice none 0 0] 26)) = w1 := ⟨_, rfl⟩
  have hb1 : Below w.heap.size w w1 := by rw [← hw1]; go_grown
  have hz1 : w1.heap.size = B + 2 := by rw [← hw1]; simp [hB]
  have hA1 : Whole w1 B 26 [.slice la L.length lc, .slice sa R.length sc, .slice ka K.length kc] := by rw [← hw1, ← hB]; exact (Whole.new w 26 _).alloc _
  have hR1 : Whole w1 (B + 1) 26 [.slice none 0 0, .slice none 0 0, .slice none 0 0] := by
    rw [← hw1, ← hB]
    have := Whole.new (w.alloc (.cells #[.slice la L.length lc, .slice sa R.length sc, .slice ka K.length kc] 26)) 26 [.slice none 0 0, .slice none 0 0, .slice none 0 0]
    simpa using this
  obtain ⟨w2, hw2⟩ : ∃ w2, w1.alloc (.cells #[.slice la L.length lc, .slice sa R.length sc, .slice ka K.length kc] 26) = w2 := ⟨_, rfl⟩
  have hb2 : Below w.heap.size w w2 := by rw [← hw2]; exact hb1.alloc (by omega) _
  have hz2 : w2.heap.size = B + 3 := by rw [← hw2]; simp [hz1]
  have hA2 : Whole w2 B 26 [.slice la L.length lc, .slice sa R.length sc, .slice ka K.length kc] := by rw [← hw2]; exact hA1.alloc _
  have hR2 : Whole w2 (B + 1) 26 [.slice none 0 0, .slice none 0 0, .slice none 0 0] := by rw [← hw2]; exact hR1.alloc _
  have hX2 : Whole w2 (B + 2) 26 [.slice la L.length lc, .slice sa R.length sc, .slice ka K.length kc] := by
    rw [← hw2, ← hz1]
    exact Whole.new w1 26 _
  obtain ⟨a0, a1, a2, _, _, _⟩ := hA1.three
  have HW1 := Lib.hid hw1
  have HW2 := Lib.hid hw2
  have HZ2 := Lib.hid hz2
  have HBB := Lib.hid hB
  clear hRl hRs hRr hRk hw1 hw2 hb1 hA1 hR1 hs
  go_enter Tryz.func5, Tryz.ntmps5
  go_upto_region 1 with fail
  rw [HW1.out]
  go_upto_region 2 with fail
  rw [HW2.out]
  clear a0 a1 a2 hz1 hz2 hB
  obtain ⟨a0, a1, a2, _, _, _⟩ := hA2.three
  obtain ⟨x0, x1, x2, q0, q1, q2⟩ := hX2.three
  go_upto_region 3 with (go_at_call 16; refine (HCL.out _ hb2).mono ?_; rintro e wf ⟨vf, rfl, hf, hbf⟩; obtain ⟨vfo, vfc, rfl, _, _⟩ := (Rd.of_own hf).form; replace x0 := b_cell hbf x0; replace q0 := (hX2.belowH hbf).free 0)
  clear a0 a1 a2 x0 x1 x2 q0 q1 q2
  obtain ⟨w3, hw3⟩ : ∃ w3, wf.setCell ⟨B + 2, 0, none⟩ (.slice vfo L.length vfc) = w3 := ⟨_, rfl⟩
  have hl3 : Left [B + 2] wf w3 := by rw [← hw3]; exact (Left.refl _ wf).setCell (Or.inl (by simp)) _
  have hA3 : Whole w3 B 26 [.slice la L.length lc, .slice sa R.length sc, .slice ka K.length kc] := by rw [← hw3]; exact (hA2.belowH hbf).other (by simp) _
  have hR3 : Whole w3 (B + 1) 26 [.slice none 0 0, .slice none 0 0, .slice none 0 0] := by rw [← hw3]; exact (hR2.belowH hbf).other (by simp) _
  have hX3 : Whole w3 (B + 2) 26 [.slice vfo L.length vfc, .slice sa R.length sc, .slice ka K.length kc] := by rw [← hw3]; exact (hX2.belowH hbf).put 0 _
  have hz3 := hbf.size
  have hb3 : Below w.heap.size w w3 := (b_tr hb2 hbf).trans (hl3.belowB (B := w.heap.size) (Nat.le_trans hb2.size hz3) (by simp; have := HBB.out; omega))
  have hf3 := own_left (own_base (base' := B + 3) hf (by have := HZ2.out; omega)) hl3 (by simp)
  rw [hw3]
  clear hw3 hA2 hR2 hX2 hf hbf hb2
  have HF3 := Lib.hid hf3
  have HL3 := Lib.hid hl3.size
  clear hf3 hl3
  obtain ⟨a0, a1, a2, _, _, _⟩ := hA3.three
  obtain ⟨x0, x1, x2, q0, q1, q2⟩ := hX3.three
  go_upto_region 4 with (go_at_call 17; refine (HCS.out _ hb3).mono ?_; rintro e wq ⟨vq, rfl, ⟨R2, hm2, hq, hr2⟩, hbq⟩; obtain ⟨vqo, vqc, rfl, _, _⟩ := (Rd.of_own hq).form; replace x1 := b_cell hbq x1; replace q1 := (hX3.belowH hbq).free 1)
  clear a0 a1 a2 x0 x1 x2 q0 q1 q2
  obtain ⟨w4, hw4⟩ : ∃ w4, wq.setCell ⟨B + 2, 1, none⟩ (.slice vqo R2.length vqc) = w4 := ⟨_, rfl⟩
  have hl4 : Left [B + 2] wq w4 := by rw [← hw4]; exact (Left.refl _ wq).setCell (Or.inl (by simp)) _
  have hA4 : Whole w4 B 26 [.slice la L.length lc, .slice sa R.length sc, .slice ka K.length kc] := by rw [← hw4]; exact (hA3.belowH hbq).other (by simp) _
  have hR4 : Whole w4 (B + 1) 26 [.slice none 0 0, .slice none 0 0, .slice none 0 0] := by rw [← hw4]; exact (hR3.belowH hbq).other (by simp) _
  have hX4 : Whole w4 (B + 2) 26 [.slice vfo L.length vfc, .slice vqo R2.length vqc, .slice ka K.length kc] := by rw [← hw4]; exact (hX3.belowH hbq).put 1 _
  have hz4 := hbq.size
  have hb4 : Below w.heap.size w w4 := (b_tr hb3 hbq).trans (hl4.belowB (B := w.heap.size) (Nat.le_trans hb3.size hz4) (by simp; have := HBB.out; omega))
  have hf4 := own_left (own_below HF3.out hbq) hl4 (by simp)
  have hz3' : Hid (B + 3 ≤ w3.heap.size) := Lib.hid (by have := HL3.out; have := HZ2.out; omega)
  have hq4 := own_left (own_base (base' := B + 3) hq hz3'.out) hl4 (by simp)
  have hr4 : ∀ x ∈ R2, SOwn w4 (B + 3) 0 x := fun x hx => ((hr2 x hx).base hz3'.out).left hl4 (by simp)
  rw [hw4]
  clear hw4 hA3 hR3 hX3 hq hbq hb3 hr2
  have HF4 := Lib.hid hf4
  have HQ4 := Lib.hid hq4
  have HRR := Lib.hid hr4
  have HM2 := Lib.hid hm2
  have HL4 := Lib.hid hl4.size
  clear hf4 hq4 hr4 hm2 hl4
  obtain ⟨a0, a1, a2, _, _, _⟩ := hA4.three
  obtain ⟨x0, x1, x2, q0, q1, q2⟩ := hX4.three
  go_upto_region 5 with (go_at_call 18; refine (HCK.out _ hb4).mono ?_; rintro e wk ⟨vk, rfl, hk, hbk⟩; obtain ⟨vko, vkc, rfl, _, _⟩ := (Rd.of_own hk).form; replace x2 := b_cell hbk x2; replace q2 := (hX4.belowH hbk).free 2)
  clear a0 a1 a2 x0 x1 x2 q0 q1 q2
  obtain ⟨w5, hw5⟩ : ∃ w5, wk.setCell ⟨B + 2, 2, none⟩ (.slice vko K.length vkc) = w5 := ⟨_, rfl⟩
  have hl5 : Left [B + 2] wk w5 := by rw [← hw5]; exact (Left.refl _ wk).setCell (Or.inl (by simp)) _
  have hR5 : Whole w5 (B + 1) 26 [.slice none 0 0, .slice none 0 0, .slice none 0 0] := by rw [← hw5]; exact (hR4.belowH hbk).other (by simp) _
  have hX5 : Whole w5 (B + 2) 26 [.slice vfo L.length vfc, .slice vqo R2.length vqc, .slice vko K.length vkc] := by rw [← hw5]; exact (hX4.belowH hbk).put 2 _
  have hz5 := hbk.size
  have hb5 : Below w.heap.size w w5 := (b_tr hb4 hbk).trans (hl5.belowB (B := w.heap.size) (Nat.le_trans hb4.size hz5) (by simp; have := HBB.out; omega))
  have HF5 := Lib.hid (own_left (own_below HF4.out hbk) hl5 (by simp))
  have HQ5 := Lib.hid (own_left (own_below HQ4.out hbk) hl5 (by simp))
  have HR5 := Lib.hid (fun x (hx : x ∈ R2) => ((HRR.out x hx).left (Left.of_below hbk []) (by simp)).left hl5 (by simp))
  have hz4' : Hid (B + 3 ≤ w4.heap.size) := Lib.hid (by have := HL4.out; have := hz3'.out; omega)
  have HK5 := Lib.hid (own_left (own_base (base' := B + 3) hk hz4'.out) hl5 (by simp))
  rw [hw5]
  clear hw5 hA4 hR4 hX4 hk hbk hb4 hl5
  have HRW := Lib.hid hR5
  have HB5 := Lib.hid hb5
  obtain ⟨x0, x1, x2, _, _, _⟩ := hX5.three
  obtain ⟨r0, r1, r2, s0, s1, s2⟩ := hR5.three
  have HL6 : Hid (Left [B + 1] w5 (((w5.setCell ⟨B + 1, 0, none⟩ (.slice vfo L.length vfc)).setCell ⟨B + 1, 1, none⟩ (.slice vqo R2.length vqc)).setCell ⟨B + 1, 2, none⟩ (.slice vko K.length vkc))) := Lib.hid ((((Left.refl _ w5).setCell (Or.inl (by simp)) _).setCell (Or.inl (by simp)) _).setCell (Or.inl (by simp)) _)
  clear hR5 hX5 hb5
  go_wp2
  (try simp only [Exit.inBlock, Exit.then])
  refine bodyPost_ret (results_cell_row (P := Tryz.prog) (p := 2) (ty := 26) rfl _ _ (B + 1) 26 _ (0, 0) _ rfl (((HRW.out.put 0 _).put 1 _).put 2 _) Tryz.underlying26 rfl (by kernel_rfl)) rfl ?_
  have hbb := HBB.out
  exact ⟨_, _, _, rfl, ⟨R2, HM2.out, Rd.of_own (own_left HF5.out HL6.out (by simp)), Rd.of_own (own_left HQ5.out HL6.out (by simp)), fun x hx => ((HR5.out x hx).left HL6.out (by simp)).rd, Rd.of_own (own_left HK5.out HL6.out (by simp))⟩, HB5.out.trans (HL6.out.belowB (B := w.heap.size) HB5.out.size (by simp; omega))⟩
end Go.Proofs.YtknnaeejkmlnbaaGreatDoor
