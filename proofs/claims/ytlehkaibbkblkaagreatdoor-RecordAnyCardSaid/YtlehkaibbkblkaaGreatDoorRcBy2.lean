/- A broker that lasts is not long; its bytes, or a refusal. -/


import Derived.Test.YtlehkaibbkblkaaGreatDoorRcBy
import Derived.Test.YtlehkaibbkblkaaGreatDoorRcLay
namespace Go.Proofs.YtlehkaibbkblkaaGreatDoor
open Go.RowKit Go.Shelf Go.Proofs
theorem fm_bound {α : Type} {f : α → List UInt8} {c : Nat} : ∀ {L : List α}, (∀ x ∈ L, (f x).length ≤ c) → (L.flatMap f).length ≤ L.length * c
  | [], _ => by simp
  | x :: r, h => by
    rw [List.flatMap_cons, List.length_append, List.length_cons, Nat.succ_mul]
    have := h x (by simp)
    have := fm_bound (L := r) (fun y hy => h y (by simp [hy]))
    omega
theorem subs_f {L : List Wish1} (h : subsB L = true) : L.length ≤ 16 ∧ ∀ x ∈ L, x.f.size ≤ 64 := by
  unfold subsB at h
  simp only [Bool.and_eq_true, decide_eq_true_eq] at h
  refine ⟨h.1, fun x hx => ?_⟩
  obtain ⟨i, hi⟩ := List.getElem?_of_mem hx
  have h2 := List.all_eq_true.1 h.2 i (List.mem_range.2 (List.getElem?_eq_some_iff.1 hi).1)
  rw [hi] at h2
  simp only [wOk, mayW, Bool.and_eq_true] at h2
  have h3 := h2.1.1
  unfold ft at h3
  simp only [Bool.and_eq_true] at h3
  exact (tx_le h3.1).2
theorem kept_f {K : List Msg} (h : Kq.subsB (K.map k1) = true) : K.length ≤ 16 ∧ ∀ m ∈ K, m.t.size ≤ 64 ∧ m.p.size ≤ 128 := by
  unfold Kq.subsB at h
  simp only [Bool.and_eq_true, decide_eq_true_eq, List.length_map] at h
  refine ⟨h.1, fun m hm => ?_⟩
  obtain ⟨i, hi⟩ := List.getElem?_of_mem hm
  have hi2 : (K.map k1)[i]? = some (k1 m) := by rw [List.getElem?_map, hi]; rfl
  have h2 := List.all_eq_true.1 h.2 i (List.mem_range.2 (by rw [List.length_map]; exact (List.getElem?_eq_some_iff.1 hi).1))
  rw [hi2] at h2
  simp only [Kq.wOk, Kq.mayK, Kq.mayW, Bool.and_eq_true, decide_eq_true_eq] at h2
  have h3 := h2.1.1.1.1.1
  have h4 := h2.1.1.1.1.2
  unfold nm at h3
  simp only [Bool.and_eq_true] at h3
  exact ⟨(tx_le h3.1).2, h4⟩
theorem okM_f {m : Msg} (h : okM m = true) : m.t.size ≤ 64 ∧ m.p.size ≤ 128 := by
  unfold okM at h
  simp only [Bool.and_eq_true, decide_eq_true_eq] at h
  omega
theorem m3_len {m : Msg} (h : m.t.size ≤ 64 ∧ m.p.size ≤ 128) : (m3 m).length ≤ 204 := by
  simp only [m3, List.length_append, t3_len, n3_len]
  omega
theorem s3_bound {s : Se} (h : sesOk s) : (s3 s).length ≤ 4000 := by
  obtain ⟨h1, _, _, h4, h5, h6, _⟩ := h
  obtain ⟨w1, w2⟩ := subs_f h4
  obtain ⟨_, _, o3, o4, o5, _, o7⟩ := h5
  have b1 := fm_bound (f := w3) (c := 70) (L := s.S) (fun x hx => by have := w2 x hx; simp only [w3, List.length_append, t3_len, n3_len]; omega)
  have b2 := fm_bound (f := f3) (c := 210) (L := s.o.F) (fun x hx => by
    have h := o5 x hx
    unfold okF at h
    simp only [Bool.and_eq_true] at h
    have := m3_len (okM_f h.1.2)
    simp only [f3, List.length_append, n3_len]
    omega)
  have b3 := fm_bound (f := m3) (c := 204) (L := s.o.Q) (fun x hx => m3_len (okM_f (o7 x hx)))
  have b4 := fm_bound (f := n3) (c := 3) (L := s.I) (fun x _ => by rw [n3_len]; exact Nat.le_refl _)
  have := h6.1
  simp only [s3, List.length_append, t3_len, n3_len]
  omega
theorem l3_bound {b : Br} (h : broOk b) : (l3 b).length ≤ 40000 := by
  obtain ⟨h1, h2, _, h4, _⟩ := h
  obtain ⟨k1', k2'⟩ := kept_f h2
  have b1 := fm_bound (f := s3) (c := 4000) (L := b.S) (fun x hx => by
    obtain ⟨i, hi⟩ := List.getElem?_of_mem hx
    exact s3_bound (h4 i x hi).1)
  have b2 := fm_bound (f := m3) (c := 204) (L := b.K) (fun x hx => m3_len (k2' x hx))
  simp only [l3, k3, List.length_append, n3_len]
  omega
/-- All its bytes. -/
def all3 (b : Br) : List UInt8 := l3 b ++ sum4 (l3 b)
set_option maxRecDepth 20000 in
set_option maxHeartbeats 2000000 in
theorem Bytes_put (w : World) (lv sv kv : Value) (R : List Rs) (b : Br) (h : BRd w w.heap.size lv sv kv R b) (hs : ShB b) (hE : Env w) :
    Calls Tryz.prog 9 #[.agg #[lv, sv, kv]] w fun e w' => ∃ v x n, e = .returned (.tuple #[v, .int .i64 n]) ∧ OwnU w' w.heap.size v x ∧ Below w.heap.size w w' ∧ ((rmOk b ∧ n = 0 ∧ x = all3 b) ∨ (¬ rmOk b ∧ n = 1 ∧ x = [])) := by
  obtain ⟨wa, hwa⟩ : ∃ wa, w.alloc (.cells #[lv, sv, kv] 29) = wa := ⟨_, rfl⟩
  obtain ⟨la, lc, rfl, _, _⟩ := h.l.form
  obtain ⟨sa, sc, rfl, _, _⟩ := h.s.form
  obtain ⟨ka, kc, rfl, _, _⟩ := h.k.form
  have hb0 : Below w.heap.size w wa := by rw [← hwa]; exact (Below.refl _ _).alloc (Nat.le_refl _) _
  have hW : Whole wa w.heap.size 29 [.slice la b.L.length lc, .slice sa R.length sc, .slice ka b.K.length kc] := by rw [← hwa]; exact Whole.new w 29 _
  have HRM := Lib.hid (rMay_any wa _ _ _ R b ((h.below hb0).more hb0.size) hs (hE.below hb0))
  have HLY := Lib.hid (fun wx (hx : Below wa.heap.size wa wx) (hk : rmOk b) => lay_put wx _ _ _ R b (((h.below hb0).below (hx.mono hb0.size)).more (Nat.le_trans hb0.size hx.size)) (by have := l3_bound hk.1; omega))
  have HCL := Lib.hid (fun wx (hx : Below wa.heap.size wa wx) => (hW.belowH hx).three)
  have HWA := Lib.hid hwa
  have HB0 := Lib.hid hb0
  obtain ⟨c0, c1, c2, _, _, _⟩ := hW.three
  clear h hs hE hwa hb0 hW
  go_enter Tryz.func9, Tryz.ntmps9
  go_upto_region 1 with fail
  rw [HWA.out]
  cases hv : yes (rmOk b)
  · have HNO := Lib.hid (yes_not.1 hv)
    rw [hv] at HRM
    clear hv
    go_wp2_with (go_at_call 19; refine HRM.out.mono ?_; rintro e w1 ⟨rfl, hb1⟩)
    go_ret2
    have hbb := b_tr HB0.out hb1
    exact ⟨.slice none 0 0, [], 1, rfl, OwnU.nil _ _, hbb, .inr ⟨HNO.out, rfl, rfl⟩⟩
  · have HOK := Lib.hid (yes_iff.1 hv)
    have HLN : Hid ((l3 b).length ≤ 40000) := Lib.hid (l3_bound (yes_iff.1 hv).1)
    rw [hv] at HRM
    clear hv
    go_wp2_with first
      | (go_at_call 19; refine HRM.out.mono ?_; rintro e w1 ⟨rfl, hb1⟩; have d0 := b_cell hb1 c0; have d1 := b_cell hb1 c1; have d2 := b_cell hb1 c2)
      | (go_at_call 20; refine (HLY.out _ hb1 HOK.out).mono ?_; rintro e w2 ⟨v2, rfl, ho2, hb2⟩; have HS := Lib.hid (sum_any w2 v2 (l3 b) ho2.rd))
      | (go_at_call 21; refine HS.out.mono ?_; rintro e w3 ⟨v3, rfl, hr3, hb3⟩; have ho3 := ho2.keep hb3)
      | (at_builtin; refine wpList_appb rfl (.tmp 10) (.tmp 12) 23 rfl w1.heap.size Tryz.underlying23 inf_u8 _ (l3 b) rfl ho3 _ _ (sum4 (l3 b)) rfl hr3 ?_ ?_ ?_; (have := HLN.out; have h4 : (sum4 (l3 b)).length = 4 := rfl; omega); exact Nat.le_trans hb2.size hb3.size; intro v4 w4 ho4 hl4)
    go_ret2
    have hz1 : w.heap.size ≤ w1.heap.size := Nat.le_trans HB0.out.size hb1.size
    have hbb : Below w.heap.size w w4 := (b_tr (b_tr (b_tr HB0.out hb1) (hb2.mono (Nat.le_refl _))) hb3).trans (hl4.below hz1 (Nat.le_trans hz1 (Nat.le_trans hb2.size hb3.size)))
    exact ⟨v4, all3 b, 0, rfl, ho4.base hz1, hbb, .inl ⟨HOK.out, rfl, rfl⟩⟩
end Go.Proofs.YtlehkaibbkblkaaGreatDoor
