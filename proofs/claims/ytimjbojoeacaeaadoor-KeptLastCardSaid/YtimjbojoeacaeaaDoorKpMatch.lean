/- Kept messages that a filter matches, by the program and by the page; what a law spoils; Within. -/


import Derived.Test.YtimjbojoeacaeaaDoorKpRefPut
namespace Go.Proofs.YtimjbojoeacaeaaDoor
open Go.RowKit Go.Shelf Go.Proofs

/-- Those that a filter matches. -/
def hits (f : ByteArray) (L : List Msg1) : List Msg1 := L.filter fun x => fitB f x.f
theorem hits_snoc (f : ByteArray) (L : List Msg1) (k : Nat) (x : Msg1) (h : L[k]? = some x) : hits f (L.take (k + 1)) = hits f (L.take k) ++ (if fitB f x.f then [x] else []) := by
  rw [wtake_snoc L k x h]
  unfold hits
  rw [List.filter_append]
  congr 1
  cases e : fitB f x.f <;> simp [e]
theorem hits_le (f : ByteArray) (L : List Msg1) (k : Nat) : (hits f (L.take k)).length ≤ k := by
  refine Nat.le_trans (List.length_filter_le _ _) ?_
  rw [List.length_take]
  omega
/-- What Match answers: the list, the error. -/
def matchM (L : List Msg1) (f : ByteArray) : List Msg1 × Int := if subsB L && ft f then (hits f L, 0) else ([], 1)

set_option maxRecDepth 100000 in
set_option maxHeartbeats 1000000 in
theorem Find_any (w : World) (v : Value) (L : List Msg1) (f : ByteArray) (Bd : Nat) (h : Rd w Bd 4 v L.length (wCells L)) (hBd : Bd ≤ w.heap.size) (hn : L.length ≤ 1000000) (hf : ft f = true) (hs : Short L) (hs1 : ∀ (i : Nat) (x : Msg1), L[i]? = some x → 1 ≤ x.f.size) :
    Calls Tryd.prog 34 #[v, .string f] w fun e w' => ∃ v', e = .returned v' ∧ w'.ownsRow w.heap.size 55 4 v' (hits f L).length (wCells (hits f L)) ∧ Below w.heap.size w w' := by
  obtain ⟨ao, cap, rfl, hc, hm⟩ := h.form
  have hm' : cap ≤ 9223372036854775807 := by unfold maxLen at hm; omega
  have hf1 := (ft_len hf).1
  have hf2 := (ft_len hf).2
  have H := Lib.hid h
  have HS := Lib.hid hs
  have HS1 := Lib.hid hs1
  have HF := Lib.hid hf
  clear h hm hs hs1 hf
  go_enter Tryd.func34, Tryd.ntmps34
  go_wp2
  go_loopw [5, 6] (fun v i wr => ∃ k : Nat, k ≤ L.length ∧ i = .int .i64 k ∧ wr.ownsRow w.heap.size 55 4 v (hits f (L.take k)).length (wCells (hits f (L.take k))) ∧ Below w.heap.size w wr) (fun _ i _ => L.length - (intOf i).toNat)
  case atStart => exact ⟨0, by omega, rfl, by simpa [wCells, hits] using World.ownsRow_nil _ _ _ _, Below.refl _ _⟩
  case round =>
    obtain ⟨k, hk, rfl, hown, hb⟩ := hrel
    have HO := Lib.hid hown
    have hzs := hb.size
    have hwl := hits_le f L k
    clear hown
    by_cases hlt : k < L.length
    · obtain ⟨x, hx⟩ : ∃ x, L[k]? = some x := ⟨_, List.getElem?_eq_getElem hlt⟩
      obtain ⟨b, o, rfl, hbl, c0, c1, c2, c3⟩ := wish_cell (H.out.below (hb.mono hBd)) rfl hx
      have hsx := (HS.out k x hx).1
      have hsx1 := HS1.out k x hx
      have HN := Lib.hid (hits_snoc f L k x hx)
      have HRF := Lib.hid (ref_fit (t := x.f) HF.out)
      clear hx
      go_wp2_with fail
      refine (rMatch_any _ f x.f (by omega) hsx hf1 hsx1).mono ?_
      rintro e w1 ⟨rfl, hb1⟩
      rw [HRF.out]
      have hbb := hb.trans (hb1.mono hzs)
      have HO' := Lib.hid (own_below HO.out hb1)
      have d0 := cell_bel c0 hb1
      have d1 := cell_bel c1 hb1
      have d2 := cell_bel c2 hb1
      have d3 := cell_bel c3 hb1
      have hz1 := hbb.size
      cases hft : fitB f x.f
      · have HE : Hid (hits f (L.take (k + 1)) = hits f (L.take k)) := Lib.hid (by rw [HN.out, hft]; simp)
        clear hft
        go_wp2
        go_roundw
        case rel => exact ⟨k + 1, by omega, by go_num, by rw [HE.out]; exact HO'.out, hbb⟩
        case measure => simp [intOf]; omega
      · have e1 : hits f (L.take (k + 1)) = hits f (L.take k) ++ [x] := by rw [HN.out, hft]; simp
        have HE : Hid (wCells (hits f (L.take k)) ++ wC x = wCells (hits f (L.take (k + 1))) ∧ (hits f (L.take k)).length + 1 = (hits f (L.take (k + 1))).length) := Lib.hid ⟨by rw [e1, wCells_snoc], by rw [e1, List.length_append]; rfl⟩
        clear hft e1
        go_wp2_with (at_builtin; refine wpList_app _ rfl (.tmp 20) (.tmp 25) _ rfl w.heap.size 55 wZ 4 48 Tryd.underlying49 inf_w rfl (by omega) _ (hits f (L.take k)).length (wCells (hits f (L.take k))) rfl (HO'.out.alloc _) _ _ 1 (wC x) rfl (one_newW _ _) (wC_one x) ?_ ?_ ?_ ?_)
        · unfold maxLen; omega
        · omega
        · first | (simp; omega) | omega
        intro v2 w2 ho2 hg2 _
        have hb2 := (hbb.alloc hz1 (.cells #[.string x.f, .string x.p, .int .i64 x.q, .bool x.r] 55)).grown hg2 (by simp; omega) (fun q hq => (HO'.out.lt q hq).1)
        rw [HE.out.1, HE.out.2] at ho2
        have HO2 := Lib.hid ho2
        clear ho2 hg2
        go_wp2
        go_roundw
        case rel => exact ⟨k + 1, by omega, by go_num, HO2.out, hb2⟩
        case measure => simp [intOf]; omega
    · have : k = L.length := by omega
      subst this
      rw [List.take_length] at HO
      go_wp2
      go_ret
      exact ⟨_, rfl, HO.out, hb⟩

set_option maxRecDepth 100000 in
set_option maxHeartbeats 1000000 in
theorem Match_any (w : World) (v : Value) (L : List Msg1) (f : ByteArray) (h : Rd w w.heap.size 4 v L.length (wCells L)) (hs : Short L) (hfs : f.size ≤ 100000) (hE : Env w) :
    Calls Tryd.prog 29 #[v, .string f] w fun e w' => ∃ v', e = .returned (.tuple #[v', .int .i64 (matchM L f).2]) ∧ w'.ownsRow w.heap.size 55 4 v' (matchM L f).1.length (wCells (matchM L f).1) ∧ Below w.heap.size w w' := by
  obtain ⟨ao, cap, rfl, hc, hm⟩ := h.form
  have hm' : cap ≤ 9223372036854775807 := by unfold maxLen at hm; omega
  have H := Lib.hid h
  have HS := Lib.hid hs
  clear h hm hs
  cases h1 : subsB L
  · have HT : Hid (matchM L f = ([], 1)) := Lib.hid (by unfold matchM; rw [h1]; rfl)
    have H1 := Lib.hid h1
    clear h1
    go_enter Tryd.func29, Tryd.ntmps29
    go_wp2_with fail
    refine (pMay_any _ _ L H.out HS.out hE).mono ?_
    rintro e w1 ⟨rfl, hb1⟩
    rw [H1.out]
    go_wp2
    go_ret2
    rw [HT.out]
    exact ⟨_, rfl, World.ownsRow_nil _ _ _ _, hb1⟩
  · have hl16 := subsB_len h1
    have H1 := Lib.hid h1
    cases h2 : ft f
    · have HT : Hid (matchM L f = ([], 1)) := Lib.hid (by unfold matchM; rw [h1, h2]; rfl)
      have H2 := Lib.hid h2
      clear h1 h2
      go_enter Tryd.func29, Tryd.ntmps29
      go_wp2_with fail
      refine (pMay_any _ _ L H.out HS.out hE).mono ?_
      rintro e w1 ⟨rfl, hb1⟩
      rw [H1.out]
      go_wp2_with fail
      refine (IsFilter_any _ f hfs (hE.below hb1)).mono ?_
      rintro e w2 ⟨rfl, hb2⟩
      rw [H2.out]
      go_wp2
      go_ret2
      rw [HT.out]
      exact ⟨_, rfl, World.ownsRow_nil _ _ _ _, bel_tr hb1 hb2⟩
    · have HT : Hid (matchM L f = (hits f L, 0)) := Lib.hid (by unfold matchM; rw [h1, h2]; rfl)
      have HS1 : Hid (∀ (i : Nat) (x : Msg1), L[i]? = some x → 1 ≤ x.f.size) := Lib.hid (fun i x hx => (nm_len (mayW_nm (mayK_may (subsB_q h1 i x hx)).1)).1)
      have H2 := Lib.hid h2
      clear h1 h2
      go_enter Tryd.func29, Tryd.ntmps29
      go_wp2_with fail
      refine (pMay_any _ _ L H.out HS.out hE).mono ?_
      rintro e w1 ⟨rfl, hb1⟩
      rw [H1.out]
      go_wp2_with fail
      refine (IsFilter_any _ f hfs (hE.below hb1)).mono ?_
      rintro e w2 ⟨rfl, hb2⟩
      rw [H2.out]
      have hb02 := bel_tr hb1 hb2
      have HD := Lib.hid (H.out.below hb02)
      have hEw := hE.below hb02
      go_wp2
      go_loopw [4, 7, 18] (fun v _ i wr => ∃ k : Nat, k ≤ L.length ∧ i = .int .i64 k ∧ wr.ownsRow w.heap.size 55 4 v (hits f (L.take k)).length (wCells (hits f (L.take k))) ∧ Below w.heap.size w wr) (fun _ _ i _ => L.length - (intOf i).toNat)
      case atStart => exact ⟨0, by omega, rfl, by simpa [wCells, hits] using World.ownsRow_nil _ _ _ _, hb02⟩
      case round =>
        obtain ⟨k, hk, rfl, hown, hb⟩ := hrel
        have HO := Lib.hid hown
        have hzs := hb.size
        have hwl := hits_le f L k
        clear hown
        by_cases hlt : k < L.length
        · obtain ⟨x, hx⟩ : ∃ x, L[k]? = some x := ⟨_, List.getElem?_eq_getElem hlt⟩
          obtain ⟨b, o, rfl, hbl, c0, c1, c2, c3⟩ := wish_cell (H.out.below hb) rfl hx
          have hsx := (HS.out k x hx).1
          have hsx1 := HS1.out k x hx
          have HN := Lib.hid (hits_snoc f L k x hx)
          clear hx
          have hba := (Below.refl wr.heap.size wr).alloc (Nat.le_refl _) (.cells #[.string x.f, .string x.p, .int .i64 x.q, .bool x.r] 55)
          have hbb0 := hb.trans (hba.mono hzs)
          go_wp2_with fail
          refine (Fits_any _ f x.f hfs hsx hsx1 (hE.below hbb0)).mono ?_
          rintro e w3 ⟨rfl, hb3⟩
          have hbb := hbb0.trans (hb3.mono hbb0.size)
          have HO' := Lib.hid (own_below (HO.out.alloc (.cells #[.string x.f, .string x.p, .int .i64 x.q, .bool x.r] 55)) hb3)
          have d0 : w3.cell? ⟨wr.heap.size, 0, none⟩ = some (.string x.f) := cell_bel (by simp) hb3
          have d1 : w3.cell? ⟨wr.heap.size, 1, none⟩ = some (.string x.p) := cell_bel (by simp) hb3
          have d2 : w3.cell? ⟨wr.heap.size, 2, none⟩ = some (.int .i64 x.q) := cell_bel (by simp) hb3
          have d3 : w3.cell? ⟨wr.heap.size, 3, none⟩ = some (.bool x.r) := cell_bel (by simp) hb3
          have hz1 := hbb.size
          cases hft : fitB f x.f
          · have HE : Hid (hits f (L.take (k + 1)) = hits f (L.take k)) := Lib.hid (by rw [HN.out, hft]; simp)
            clear hft
            go_wp2
            go_roundw
            case rel => exact ⟨k + 1, by omega, by go_num, by rw [HE.out]; exact HO'.out, hbb⟩
            case measure => simp [intOf]; omega
          · have e1 : hits f (L.take (k + 1)) = hits f (L.take k) ++ [x] := by rw [HN.out, hft]; simp
            have HE : Hid (wCells (hits f (L.take k)) ++ wC x = wCells (hits f (L.take (k + 1))) ∧ (hits f (L.take k)).length + 1 = (hits f (L.take (k + 1))).length) := Lib.hid ⟨by rw [e1, wCells_snoc], by rw [e1, List.length_append]; rfl⟩
            clear hft e1
            go_wp2_with (at_builtin; refine wpList_app _ rfl (.tmp 26) (.tmp 28) _ rfl w.heap.size 55 wZ 4 48 Tryd.underlying49 inf_w rfl (by omega) _ (hits f (L.take k)).length (wCells (hits f (L.take k))) rfl (HO'.out.alloc _) _ _ 1 (wC x) rfl (one_newW _ _) (wC_one x) ?_ ?_ ?_ ?_)
            · unfold maxLen; omega
            · omega
            · first | (simp; omega) | omega
            intro v4 w4 ho4 hg4 _
            have hb4 := (hbb.alloc hz1 (.cells #[.string x.f, .string x.p, .int .i64 x.q, .bool x.r] 55)).grown hg4 (by simp; omega) (fun q hq => (HO'.out.lt q hq).1)
            rw [HE.out.1, HE.out.2] at ho4
            have HO4 := Lib.hid ho4
            clear ho4 hg4
            go_wp2
            go_roundw
            case rel => exact ⟨k + 1, by omega, by go_num, HO4.out, hb4⟩
            case measure => simp [intOf]; omega
        · have : k = L.length := by omega
          subst this
          rw [List.take_length] at HO
          go_wp2
          go_ret2
          rw [HT.out]
          exact ⟨_, rfl, HO.out, hb⟩
set_option maxHeartbeats 1000000 in
theorem Spoil_any (w : World) (B : Nat) (v : Value) (n : Nat) (xs : List Value) (h : w.ownsRow B 55 4 v n xs) (hB : B ≤ w.heap.size) (hn : n ≤ 1000000000) :
    Calls Tryd.prog 36 #[v] w fun e w' => e = .returned (.tuple #[]) ∧ Below B w w' := by
  have hf : ∃ ao cap, v = .slice ao n cap ∧ cap ≤ 9223372036854775807 := by
    obtain ⟨ao, cap, h1, _, h2⟩ := (Rd.of_own h).form
    exact ⟨ao, cap, h1, by unfold maxLen at h2; omega⟩
  obtain ⟨ao, cap, rfl, hcap⟩ := hf
  have H := Lib.hid h
  clear h
  go_enter Tryd.func36, Tryd.ntmps36
  go_wp2
  go_loopw [2] (fun i wr => ∃ k : Nat, k ≤ n ∧ i = .int .i64 k ∧ Below B w wr ∧ Hid (∃ ys, wr.ownsRow B 55 4 (.slice ao n cap) n ys)) (fun i _ => n - (intOf i).toNat)
  case atStart => exact ⟨0, by omega, rfl, Below.refl _ _, Lib.hid ⟨xs, H.out⟩⟩
  case round =>
    obtain ⟨k, hk, rfl, hb, HX⟩ := hrel
    obtain ⟨ys, ho⟩ := HX.out
    clear HX
    by_cases hlt : k < n
    · obtain ⟨g, cap', e, hBg, hgl, hnc, hcm⟩ := own_form ho (by omega)
      injection e with e1 e2 e3
      subst e1 e3
      obtain ⟨u0, g0⟩ : ∃ u0, wr.cell? ⟨g, k * 4, none⟩ = some u0 := ⟨_, (ho.cellAt _ (by omega)).trans (List.getElem?_eq_getElem (by rw [ho.1]; omega))⟩
      obtain ⟨u1, g1⟩ : ∃ u1, wr.cell? ⟨g, k * 4 + 1, none⟩ = some u1 := ⟨_, (ho.cellAt _ (by omega)).trans (List.getElem?_eq_getElem (by rw [ho.1]; omega))⟩
      obtain ⟨u2, g2⟩ : ∃ u2, wr.cell? ⟨g, k * 4 + 2, none⟩ = some u2 := ⟨_, (ho.cellAt _ (by omega)).trans (List.getElem?_eq_getElem (by rw [ho.1]; omega))⟩
      obtain ⟨u3, g3⟩ : ∃ u3, wr.cell? ⟨g, k * 4 + 3, none⟩ = some u3 := ⟨_, (ho.cellAt _ (by omega)).trans (List.getElem?_eq_getElem (by rw [ho.1]; omega))⟩
      have z0 : wr.frozen? ⟨g, k * 4, none⟩ = false := ho.frozenAt _
      have z1 : wr.frozen? ⟨g, k * 4 + 1, none⟩ = false := ho.frozenAt _
      have z2 : wr.frozen? ⟨g, k * 4 + 2, none⟩ = false := ho.frozenAt _
      have z3 : wr.frozen? ⟨g, k * 4 + 3, none⟩ = false := ho.frozenAt _
      obtain ⟨o5, g5⟩ := own_setCells [.string ⟨#[63]⟩, .string ⟨#[]⟩, .int .i64 0, .bool false] (k * 4) ys wr ho
      have hb5 : Below B w (wr.setCells g (k * 4) [.string ⟨#[63]⟩, .string ⟨#[]⟩, .int .i64 0, .bool false]) := hb.grown g5 (Nat.le_trans hB hb.size) (fun k hk => by injection hk with hk; omega)
      have HO5 : Hid (∃ ys, (wr.setCells g (k * 4) [.string ⟨#[63]⟩, .string ⟨#[]⟩, .int .i64 0, .bool false]).ownsRow B 55 4 (.slice (some ⟨g, 0, none⟩) n cap) n ys) := Lib.hid ⟨_, o5⟩
      have HB5 := Lib.hid hb5
      clear o5 g5 hb5 ho
      go_wp2
      go_roundw
      case rel => exact ⟨k + 1, by omega, by go_num, HB5.out, HO5⟩
      case measure => simp [intOf]; omega
    · have : k = n := by omega
      subst this
      have HO := Lib.hid ho
      have hzs := hb.size
      clear ho
      go_wp2_with (at_builtin; refine wpList_app _ rfl (.tmp 13) (.tmp 15) _ rfl B 55 wZ 4 48 Tryd.underlying49 inf_w rfl (by omega) _ k ys rfl (HO.out.alloc _) _ _ 1 (wC ⟨⟨#[]⟩, ⟨#[]⟩, 0, false⟩) rfl (one_newW wr ⟨⟨#[]⟩, ⟨#[]⟩, 0, false⟩) (wC_one ⟨⟨#[]⟩, ⟨#[]⟩, 0, false⟩) ?_ ?_ ?_ ?_)
      · unfold maxLen; omega
      · omega
      · simp; omega
      intro v1 w1 hown1 hg1 _
      have hb1 := (hb.alloc (by omega) (.cells #[.string ⟨#[]⟩, .string ⟨#[]⟩, .int .i64 0, .bool false] 55)).grown hg1 (by simp; omega) (fun g hg => (HO.out.lt g hg).1)
      clear hown1 hg1
      go_wp2
      go_end0
      exact ⟨rfl, hb1⟩
def within (i n : Int) : Int := i % 18446744073709551616 % n
theorem within_nn (i n : Int) (h : 1 ≤ n) : 0 ≤ within i n := Int.emod_nonneg _ (by omega)
theorem within_lt (i n : Int) (h : 1 ≤ n) : within i n < n := Int.emod_lt_of_pos _ (by omega)
theorem within_eq (i n : Int) (h : 1 ≤ n) (h2 : n ≤ 65536) : wrap64 ((IntKind.u64.wrap i).tmod n) = within i n := by
  have h0 : 0 ≤ IntKind.u64.wrap i := by rw [IntKind.wrap_u64]; omega
  rw [Int.tmod_eq_emod_of_nonneg h0, IntKind.wrap_u64]
  have a := within_nn i n h
  have b := within_lt i n h
  unfold within at a b ⊢
  exact IntWalk.wrap64_in _ ⟨by omega, by omega⟩
set_option maxHeartbeats 400000 in
theorem Within_any (w : World) (i n : Int) (h : 1 ≤ n) (h2 : n ≤ 65536) :
    Calls Tryd.prog 24 #[.int .i64 i, .int .i64 n] w fun e w' => e = .returned (.int .i64 (within i n)) ∧ w = w' := by
  go_enter Tryd.func24, Tryd.ntmps24
  go_wp2
  rw [within_eq i n h h2]
  go_ret
  exact ⟨rfl, rfl⟩


end Go.Proofs.YtimjbojoeacaeaaDoor
