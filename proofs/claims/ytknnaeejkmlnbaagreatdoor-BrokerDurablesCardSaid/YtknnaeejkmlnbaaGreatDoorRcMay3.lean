/- A broker may be: of any. -/


import Derived.Test.YtknnaeejkmlnbaaGreatDoorRcMay2
import Derived.Test.YtknnaeejkmlnbaaGreatDoorRcScope
import Derived.Test.YtknnaeejkmlnbaaGreatDoorKqMay
namespace Go.Proofs.YtknnaeejkmlnbaaGreatDoor
open Go.RowKit Go.Shelf Go.Proofs
/-- A message, as kept's laws have it. -/
def k1 (m : Msg) : Kq.Msg1 := ⟨m.t, m.p, m.q, m.r⟩
theorem k1_cells (K : List Msg) : Kq.wCells (K.map k1) = eM.cells K := by
  induction K with
  | nil => rfl
  | cons m r ih => rw [List.map_cons, eM.cells_cons, ← ih]; rfl
def linkOk (L : List Int) (k : Nat) (x : Int) : Prop := 1 ≤ x ∧ x ≤ 1099511627776 ∧ ∀ j y, j + 1 = k → L[j]? = some y → y < x
/-- The links that are known ahead of session k. -/
def seenK (L : List Int) (S : List Se) (k : Nat) : List Int := L ++ ((S.take k).map (·.ln)).filter (fun x => decide (0 < x))
def sesAt (L : List Int) (S : List Se) (k : Nat) (s : Se) : Prop := sesOk s ∧ (∀ j y, j + 1 = k → S[j]? = some y → lessB y.c s.c = true) ∧ s.ln ∉ seenK L S k
/-- A broker may be. -/
def broOk (b : Br) : Prop := b.S.length ≤ 8 ∧ Kq.subsB (b.K.map k1) = true ∧ (∀ k x, b.L[k]? = some x → linkOk b.L k x) ∧ (∀ k s, b.S[k]? = some s → sesAt b.L b.S k s) ∧ (seenK b.L b.S b.S.length).length ≤ 8
/-- Nothing is too long to be looked at. -/
structure ShB (b : Br) : Prop where
  l : b.L.length ≤ 1000000
  s : b.S.length ≤ 1000000 ∧ ∀ x ∈ b.S, ShS x
  k : ∀ m ∈ b.K, m.t.size ≤ 100000 ∧ m.p.size ≤ 100000
def mapL (ks : List Int) : List (Int × Value) := ks.map fun x => (x, .bool true)
theorem mapL_old {ks : List Int} {i : Int} (h : i ∈ ks) : look (mapL ks) i = some (.bool true) := by
  unfold look mapL
  have : (ks.map fun x => (x, Value.bool true)).find? (fun p => p.1 == i) ≠ none := by
    intro hn
    rw [List.find?_eq_none] at hn
    exact hn (i, .bool true) (List.mem_map.2 ⟨i, h, rfl⟩) (by simp)
  obtain ⟨p, hp⟩ := Option.ne_none_iff_exists'.1 this
  have hm := List.mem_of_find?_eq_some hp
  obtain ⟨g, _, rfl⟩ := List.mem_map.1 hm
  rw [hp]
  rfl
theorem mapL_not {ks : List Int} {i : Int} (h : i ∉ ks) : look (mapL ks) i = none := by
  unfold look mapL
  rw [Option.map_eq_none_iff, List.find?_eq_none]
  intro p hp
  obtain ⟨g, hg, rfl⟩ := List.mem_map.1 hp
  simp only [beq_iff_eq]
  intro e
  exact h (e ▸ hg)
theorem mapL_app (ks : List Int) (i : Int) : mapL ks ++ [(i, .bool true)] = mapL (ks ++ [i]) := by simp [mapL]
theorem seenK_succ {L : List Int} {S : List Se} {i : Nat} {s : Se} (h : S[i]? = some s) : seenK L S (i + 1) = seenK L S i ++ (if 0 < s.ln then [s.ln] else []) := by
  unfold seenK
  rw [List.take_add_one, h, List.map_append, List.filter_append, List.append_assoc]
  by_cases hl : 0 < s.ln
  · simp [hl]
  · simp [hl]
theorem links_lt {L : List Int} {n : Nat} (h : ∀ k y, k < n → L[k]? = some y → linkOk L k y) : ∀ (i j : Nat) (x y : Int), j < i → i < n → L[j]? = some x → L[i]? = some y → x < y
  | 0, j, x, y, hj, _, _, _ => by omega
  | i + 1, j, x, y, hj, hi, hx, hy => by
    obtain ⟨z, hz⟩ : ∃ z, L[i]? = some z := ⟨_, List.getElem?_eq_getElem (by have := (List.getElem?_eq_some_iff.1 hy).1; omega)⟩
    have h1 := (h (i + 1) y hi hy).2.2 i z rfl hz
    by_cases e : j = i
    · subst e
      rw [hx] at hz
      injection hz with hz
      omega
    · have := links_lt h i j x z (by omega) (by omega) hx hz
      omega
/-- What always holds while a broker is looked at. -/
structure BM (w wx : World) (B M : Nat) (lv sv kv : Value) : Prop where
  b : Below B w wx
  W : Whole wx B 26 [lv, sv, kv]
  m : B + 1 = M
def J1 (w : World) (B M : Nat) (lv sv kv : Value) (L : List Int) (S : List Se) (K : List Msg) (a' : Act) (w' : World) : Prop :=
  ∃ i : Nat, i ≤ L.length ∧ BM w w' B M lv sv kv ∧ IMap w' M (mapL (L.take i)) ∧ Hid (S.length ≤ 8 ∧ Kq.subsB (K.map k1) = true ∧ ∀ k x, k < i → L[k]? = some x → linkOk L k x) ∧ ∃ u : Nat → Value,
    a' = { tmps := #[.agg #[lv, sv, kv], .pointer (some ⟨B, 0, none⟩), .bool false, .map (some M), .int .i64 i, .int .i64 0, u 6, u 7, u 8, u 9, u 10, u 11, u 12, u 13, u 14, u 15, u 16, u 17, u 18, u 19, u 20, u 21, u 22, u 23, u 24, u 25, u 26, u 27, u 28, u 29, u 30, u 31, u 32, u 33, u 34, u 35, u 36, u 37, u 38, u 39, u 40, u 41, u 42, u 43, u 44, u 45, u 46, u 47, u 48, u 49, u 50, u 51, u 52, u 53, u 54, u 55, u 56, u 57, u 58, u 59, u 60, u 61, u 62, u 63, u 64, u 65, u 66, u 67, u 68, u 69, u 70, u 71, u 72, u 73, u 74, u 75, u 76, u 77, u 78, u 79, u 80, u 81, u 82, u 83, u 84, u 85, u 86, u 87, u 88, u 89, u 90, u 91, u 92, u 93, u 94, u 95, u 96, u 97, u 98, u 99, u 100, u 101], defers := [] }
def J2 (w : World) (B M : Nat) (lv sv kv : Value) (L : List Int) (S : List Se) (K : List Msg) (a' : Act) (w' : World) : Prop :=
  ∃ i : Nat, i ≤ S.length ∧ BM w w' B M lv sv kv ∧ IMap w' M (mapL (seenK L S i)) ∧ Hid (S.length ≤ 8 ∧ Kq.subsB (K.map k1) = true ∧ (∀ k x, L[k]? = some x → linkOk L k x) ∧ ∀ k s, k < i → S[k]? = some s → sesAt L S k s) ∧ ∃ u : Nat → Value,
    a' = { tmps := #[.agg #[lv, sv, kv], .pointer (some ⟨B, 0, none⟩), .bool false, .map (some M), .int .i64 L.length, .int .i64 i, u 6, u 7, u 8, u 9, u 10, u 11, u 12, u 13, u 14, u 15, u 16, u 17, u 18, u 19, u 20, u 21, u 22, u 23, u 24, u 25, u 26, u 27, u 28, u 29, u 30, u 31, u 32, u 33, u 34, u 35, u 36, u 37, u 38, u 39, u 40, u 41, u 42, u 43, u 44, u 45, u 46, u 47, u 48, u 49, u 50, u 51, u 52, u 53, u 54, u 55, u 56, u 57, u 58, u 59, u 60, u 61, u 62, u 63, u 64, u 65, u 66, u 67, u 68, u 69, u 70, u 71, u 72, u 73, u 74, u 75, u 76, u 77, u 78, u 79, u 80, u 81, u 82, u 83, u 84, u 85, u 86, u 87, u 88, u 89, u 90, u 91, u 92, u 93, u 94, u 95, u 96, u 97, u 98, u 99, u 100, u 101], defers := [] }
def J0 (w : World) (B : Nat) (L : List Int) (S : List Se) (K : List Msg) (a' : Act) (w' : World) : Prop :=
  Below B w w' ∧ Hid (yes (broOk ⟨L, S, K⟩) = false) ∧ ∃ u : Nat → Value, a' = { tmps := #[u 0, u 1, u 2, u 3, u 4, u 5, u 6, u 7, u 8, u 9, u 10, u 11, u 12, u 13, u 14, u 15, u 16, u 17, u 18, u 19, u 20, u 21, u 22, u 23, u 24, u 25, u 26, u 27, u 28, u 29, u 30, u 31, u 32, u 33, u 34, u 35, u 36, u 37, u 38, u 39, u 40, u 41, u 42, u 43, u 44, u 45, u 46, u 47, u 48, u 49, u 50, u 51, u 52, u 53, u 54, u 55, u 56, u 57, u 58, u 59, u 60, u 61, u 62, u 63, u 64, u 65, u 66, u 67, u 68, u 69, u 70, u 71, u 72, u 73, u 74, u 75, u 76, u 77, u 78, u 79, u 80, u 81, u 82, u 83, u 84, u 85, u 86, u 87, u 88, u 89, u 90, u 91, u 92, u 93, u 94, u 95, u 96, u 97, u 98, u 99, u 100, u 101], defers := [] }
set_option maxRecDepth 20000 in
set_option maxHeartbeats 8000000 in
theorem bMay_any (w : World) (lv sv kv : Value) (R : List Rs) (b : Br) (h : BRd w w.heap.size lv sv kv R b) (hs : ShB b) (hE : Env w) :
    Calls Tryz.prog 19 #[.agg #[lv, sv, kv]] w fun e w' => e = .returned (.bool (yes (broOk b))) ∧ Below w.heap.size w w' := by
  obtain ⟨L, S, K⟩ := b
  obtain ⟨hRe, hRl, hRs, hRr, hRk⟩ := h
  obtain ⟨hsl, ⟨hss1, hss2⟩, hsk⟩ := hs
  simp only at hRe hRl hRk hsl hss1 hss2 hsk
  subst hRe
  obtain ⟨la, lc, rfl, _, hlm⟩ := hRl.form
  obtain ⟨sa, sc, rfl, _, hsm⟩ := hRs.form
  obtain ⟨ka, kc, rfl, _, _⟩ := hRk.form
  obtain ⟨B, hB⟩ : ∃ B, w.heap.size = B := ⟨_, rfl⟩
  rw [hB] at hRl hRs hRr hRk ⊢
  have HL := Lib.hid hRl
  have HS := Lib.hid hRs
  have HRR := Lib.hid hRr
  have HK := Lib.hid hRk
  have HSS := Lib.hid hss2
  have HSK := Lib.hid hsk
  have HE := Lib.hid hE
  have HB := Lib.hid hB
  have hrl : R.length ≤ 1000000 := by simpa using hss1
  clear hRl hRs hRr hRk hsk hss2 hE hss1
  go_enter Tryz.func19, Tryz.ntmps19
  go_wp2
  refine wp_scope_falls3 1 (fun l a' w' => (l = 1 ∧ J1 w B (B + 1) (.slice la L.length lc) (.slice sa R.length sc) (.slice ka K.length kc) L (R.map (·.s)) K a' w') ∨ (l = 2 ∧ J2 w B (B + 1) (.slice la L.length lc) (.slice sa R.length sc) (.slice ka K.length kc) L (R.map (·.s)) K a' w') ∨ (l = 0 ∧ J0 w B L (R.map (·.s)) K a' w'))
    (fun l a' _ => if l = 1 then R.length + 2 + (L.length + 1 - (intOf (a'.tmps.getD 4 undef)).toNat) else if l = 2 then R.length + 1 - (intOf (a'.tmps.getD 5 undef)).toNat else 0) ?_ ?_
  · rintro l a' w' (⟨rfl, i, hi, hBM, hM, HP, u, rfl⟩ | ⟨rfl, i, hi, hBM, hM, HP, u, rfl⟩ | ⟨rfl, hb, HX, u, rfl⟩) hfall
    · as_aux_lemma =>
      refine ⟨_, rfl, ?_⟩
      have HF := Lib.hid hfall
      clear hfall
      obtain ⟨hbb, hW, _⟩ := hBM
      obtain ⟨c0, c1, c2, _, _, _⟩ := hW.three
      have HBB := Lib.hid hbb
      have HW := Lib.hid hW
      have HM := Lib.hid hM
      clear hbb hW hM
      by_cases hlt : i < L.length
      · have hlt' : (i : Int) < (L.length : Int) := by omega
        obtain ⟨x, hx⟩ : ∃ x, L[i]? = some x := ⟨_, List.getElem?_eq_getElem hlt⟩
        obtain ⟨b, o, rfl, hbl, hcs⟩ := Enc.rd_cell (E := eI) (HL.out.below HBB.out) rfl hx
        have x0 : w'.cell? ⟨b, o + i, none⟩ = some (.int .i64 x) := by simpa [eI] using hcs 0 _ rfl
        have HXX := Lib.hid hx
        clear hx hcs
        obtain ⟨z, hz⟩ : ∃ z : Bool, z = !yes (linkOk L i x) := ⟨_, rfl⟩
        have HZ := Lib.hid hz
        clear hz
        have HN := Lib.hid (fun (h : ¬ linkOk L i x) => show z = true by rw [HZ.out, yes_false h]; rfl)
        have HY := Lib.hid (fun (h : linkOk L i x) => show z = false by rw [HZ.out, yes_true h]; rfl)
        go_upto_region 5 with fail
        go_cut [47] (fun s wx => s = .bool z ∧ wx = w'.drew)
        case first =>
          have hwi := fun w => bwithin_any w x 1 1099511627776
          cases hva : (decide (1 ≤ x) && decide (x ≤ 1099511627776))
          · have HWI := Lib.hid hwi
            rw [hva] at HWI
            have HZZ := Lib.hid (HN.out (fun h => by have h1 := h.1; have h2 := h.2.1; simp at hva; omega))
            clear hwi hva
            refine wp_region_held_drew (S := fun wx => wx.cell? ⟨B, 0, none⟩ = some (.slice (some ⟨b, o, none⟩) L.length lc) ∧ wx.cell? ⟨b, o + i, none⟩ = some (.int .i64 x)) (by kernel_rfl) ⟨c0, x0⟩ (fun hHeld => ?_)
            refine tk 0 (by assumption) ?_
            (try simp only [aPt])
            refine tk 1 (by assumption) ?_
            (try simp only [aPt])
            refine tk 2 (by assumption) ?_
            (try simp only [aPt])
            refine tk 3 (by assumption) ?_
            (try simp only [aPt])
            refine tk 4 (by assumption) ?_
            (try simp only [aPt])
            refine wpAnyH_ready (rs := [5]) (by kernel_rfl) (by simp) ?_
            refine call_h 5 ⟨?_, ?_, fun K hK => ?_⟩
            rotate_left 1
            · (simp only [List.getElem?_toArray, List.getElem?_cons_succ, List.getElem?_cons_zero]; exact rfl)
            go_simp
            (go_at_call 41; refine (HWI.out _).mono ?_; rintro e w' ⟨rfl, rfl⟩)
            go_wp2_with fail
            refine hK.out _ _ hHeld (fun hHeld => ?_)
            clear hK K
            (try simp only [aPt])
            refine tk 6 (by assumption) ?_
            (try simp only [aPt])
            refine tk 7 (by assumption) ?_
            (try simp only [aPt])
            refine tk 8 (by assumption) ?_
            (try simp only [aPt])
            refine tk 9 (by assumption) ?_
            (try simp only [aPt])
            refine tk 10 (by assumption) ?_
            (try simp only [aPt])
            refine tk 11 (by assumption) ?_
            (try simp only [aPt])
            refine tk 12 (by assumption) ?_
            (try simp only [aPt])
            refine tk 13 (by assumption) ?_
            (try simp only [aPt])
            refine tk 14 (by assumption) ?_
            (try simp only [aPt])
            refine tk 15 (by assumption) ?_
            (try simp only [aPt])
            refine tk 16 (by assumption) ?_
            (try simp only [aPt])
            refine tk 17 (by assumption) ?_
            (try simp only [aPt])
            refine tk 18 (by assumption) ?_
            (try simp only [aPt])
            refine tk 19 (by assumption) ?_
            (try simp only [aPt])
            refine tk 20 (by assumption) ?_
            (try simp only [aPt])
            refine tk 21 (by assumption) ?_
            (try simp only [aPt])
            refine tk 22 (by assumption) ?_
            (try simp only [aPt])
            refine tk 23 (by assumption) ?_
            (try simp only [aPt])
            refine tk 24 (by assumption) ?_
            (try simp only [aPt])
            refine wpAnyH_done (by kernel_rfl) ?_ _
            clear hHeld
            go_wp2
            go_meet
            exact ⟨by rw [HZZ.out], rfl⟩
          · have HWI := Lib.hid hwi
            rw [hva] at HWI
            have hin : 1 ≤ x ∧ x ≤ 1099511627776 := by simp at hva; omega
            clear hwi hva
            by_cases hk0 : i = 0
            · have HZZ := Lib.hid (HY.out ⟨hin.1, hin.2, fun j y hj => by omega⟩)
              have hi0 : decide ((0 : Int) < (i : Int)) = false := decide_eq_false (by omega)
              have hi0' : ¬ (0 < i) := by omega
              have hi0'' : decide (0 < i) = false := decide_eq_false hi0'
              clear hin hk0
              refine wp_region_held_drew (S := fun wx => wx.cell? ⟨B, 0, none⟩ = some (.slice (some ⟨b, o, none⟩) L.length lc) ∧ wx.cell? ⟨b, o + i, none⟩ = some (.int .i64 x)) (by kernel_rfl) ⟨c0, x0⟩ (fun hHeld => ?_)
              refine tk 0 (by assumption) ?_
              (try simp only [aPt])
              refine tk 1 (by assumption) ?_
              (try simp only [aPt])
              refine tk 2 (by assumption) ?_
              (try simp only [aPt])
              refine tk 3 (by assumption) ?_
              (try simp only [aPt])
              refine tk 4 (by assumption) ?_
              (try simp only [aPt])
              refine wpAnyH_ready (rs := [5]) (by kernel_rfl) (by simp) ?_
              refine call_h 5 ⟨?_, ?_, fun K hK => ?_⟩
              rotate_left 1
              · (simp only [List.getElem?_toArray, List.getElem?_cons_succ, List.getElem?_cons_zero]; exact rfl)
              go_simp
              (go_at_call 41; refine (HWI.out _).mono ?_; rintro e w' ⟨rfl, rfl⟩)
              go_wp2_with fail
              refine hK.out _ _ hHeld (fun hHeld => ?_)
              clear hK K
              (try simp only [aPt])
              refine tk 6 (by assumption) ?_
              (try simp only [aPt])
              refine tk 7 (by assumption) ?_
              (try simp only [aPt])
              refine tk 8 (by assumption) ?_
              (try simp only [aPt])
              refine tk 9 (by assumption) ?_
              (try simp only [aPt])
              refine tk 10 (by assumption) ?_
              (try simp only [aPt])
              refine tk 11 (by assumption) ?_
              (try simp only [aPt])
              refine tk 12 (by assumption) ?_
              (try simp only [aPt])
              refine tk 13 (by assumption) ?_
              (try simp only [aPt])
              refine tk 14 (by assumption) ?_
              (try simp only [aPt])
              refine tk 15 (by assumption) ?_
              (try simp only [aPt])
              refine tk 16 (by assumption) ?_
              (try simp only [aPt])
              refine tk 17 (by assumption) ?_
              (try simp only [aPt])
              refine tk 18 (by assumption) ?_
              (try simp only [aPt])
              refine tk 19 (by assumption) ?_
              (try simp only [aPt])
              refine tk 20 (by assumption) ?_
              (try simp only [aPt])
              refine tk 21 (by assumption) ?_
              (try simp only [aPt])
              refine tk 22 (by assumption) ?_
              (try simp only [aPt])
              refine tk 23 (by assumption) ?_
              (try simp only [aPt])
              refine tk 24 (by assumption) ?_
              (try simp only [aPt])
              refine wpAnyH_done (by kernel_rfl) ?_ _
              clear hHeld
              go_wp2
              go_meet
              exact ⟨by rw [HZZ.out], rfl⟩
            · obtain ⟨j, hj⟩ : ∃ j, i = j + 1 := ⟨i - 1, by omega⟩
              obtain ⟨y, hy⟩ : ∃ y, L[j]? = some y := ⟨_, List.getElem?_eq_getElem (by omega)⟩
              obtain ⟨b', o', he, _, hcs⟩ := Enc.rd_cell (E := eI) (HL.out.below HBB.out) rfl hy
              injection he with he
              injection he with he1 he2
              subst he1 he2
              have y0 : w'.cell? ⟨b, o + j, none⟩ = some (.int .i64 y) := by simpa [eI] using hcs 0 _ rfl
              have hi0 : decide ((0 : Int) < (i : Int)) = true := decide_eq_true (by omega)
              have hi0' : 0 < i := by omega
              have hi0'' : decide (0 < i) = true := decide_eq_true hi0'
              have hj0 : (0 : Int) ≤ (j : Int) := by omega
              have hjl : (j : Int) < (L.length : Int) := by omega
              have hw1 : IntKind.i64.wrap ((i : Int) - 1) = (j : Int) := by
                have : (i : Int) - 1 = j := by omega
                rw [this]; exact IntWalk.i64_in _ ⟨by omega, by omega⟩
              have HZZ : Hid (z = decide (x ≤ y)) := Lib.hid (by
                by_cases hxy : x ≤ y
                · rw [decide_eq_true hxy]
                  exact HN.out (fun h => by have := h.2.2 j y hj.symm hy; omega)
                · rw [decide_eq_false hxy]
                  exact HY.out ⟨hin.1, hin.2, fun j' y' hj' hy' => by
                    obtain rfl : j' = j := by omega
                    rw [hy] at hy'
                    injection hy' with hy'
                    omega⟩)
              clear hin hk0 hcs hy hj
              refine wp_region_held_drew (S := fun wx => wx.cell? ⟨B, 0, none⟩ = some (.slice (some ⟨b, o, none⟩) L.length lc) ∧ wx.cell? ⟨b, o + i, none⟩ = some (.int .i64 x) ∧ wx.cell? ⟨b, o + j, none⟩ = some (.int .i64 y)) (by kernel_rfl) ⟨c0, x0, y0⟩ (fun hHeld => ?_)
              refine tk 0 (by assumption) ?_
              (try simp only [aPt])
              refine tk 1 (by assumption) ?_
              (try simp only [aPt])
              refine tk 2 (by assumption) ?_
              (try simp only [aPt])
              refine tk 3 (by assumption) ?_
              (try simp only [aPt])
              refine tk 4 (by assumption) ?_
              (try simp only [aPt])
              refine wpAnyH_ready (rs := [5]) (by kernel_rfl) (by simp) ?_
              refine call_h 5 ⟨?_, ?_, fun K hK => ?_⟩
              rotate_left 1
              · (simp only [List.getElem?_toArray, List.getElem?_cons_succ, List.getElem?_cons_zero]; exact rfl)
              go_simp
              (go_at_call 41; refine (HWI.out _).mono ?_; rintro e w' ⟨rfl, rfl⟩)
              go_wp2_with fail
              refine hK.out _ _ hHeld (fun hHeld => ?_)
              clear hK K
              (try simp only [aPt])
              refine tk 6 (by assumption) ?_
              (try simp only [aPt])
              refine tk 7 (by assumption) ?_
              (try simp only [aPt])
              refine tk 8 (by assumption) ?_
              (try simp only [aPt])
              refine tk 9 (by assumption) ?_
              (try simp only [aPt])
              refine tk 10 (by assumption) ?_
              (try simp only [aPt])
              refine tk 11 (by assumption) ?_
              (try simp only [aPt])
              refine tk 12 (by assumption) ?_
              (try simp only [aPt])
              refine tk 13 (by assumption) ?_
              (try simp only [aPt])
              refine tk 14 (by assumption) ?_
              (try simp only [aPt])
              refine tk 15 (by assumption) ?_
              (try simp only [aPt])
              refine tk 16 (by assumption) ?_
              (try simp only [aPt])
              refine tk 17 (by assumption) ?_
              (try simp only [aPt])
              refine tk 18 (by assumption) ?_
              (try simp only [aPt])
              refine tk 19 (by assumption) ?_
              (try simp only [aPt])
              refine tk 20 (by assumption) ?_
              (try simp only [aPt])
              refine tk 21 (by assumption) ?_
              (try simp only [aPt])
              refine tk 22 (by assumption) ?_
              (try simp only [aPt])
              refine tk 23 (by assumption) ?_
              (try simp only [aPt])
              refine tk 24 (by assumption) ?_
              (try simp only [aPt])
              refine wpAnyH_done (by kernel_rfl) ?_ _
              clear hHeld
              go_wp2
              go_meet
              exact ⟨by rw [HZZ.out], rfl⟩
        case rest =>
          obtain ⟨rfl, hcw⟩ := hcut
          subst hcw
          have hbw : Below B w w'.drew := HBB.out.drew
          cases z
          · have hlk : linkOk L i x := yes_iff.1 (by have := HZ.out; cases h : yes (linkOk L i x) <;> simp [h] at this ⊢)
            have HPR : Hid (∀ k y, k < i + 1 → L[k]? = some y → linkOk L k y) := Lib.hid (fun k y hk hy => by
              by_cases e : k = i
              · subst e
                rw [HXX.out] at hy
                injection hy with hy
                subst hy
                exact hlk
              · exact HP.out.2.2 k y (by omega) hy)
            have hni : x ∉ L.take i := fun hm => by
              obtain ⟨j, hj⟩ := List.getElem?_of_mem hm
              rw [List.getElem?_take] at hj
              split at hj
              · rename_i hji
                have := links_lt HPR.out i j x x hji (by omega) hj HXX.out
                omega
              · cases hj
            obtain ⟨w2, hrun2, hl2, hc2⟩ := run_update_imap (P := Tryz.prog) (w := w'.drew) (t := 84) (show IMap w'.drew (B + 1) (mapL (L.take i)) from HM.out.keep rfl) Tryz.underlying84 Tryz.underlying3 x (.bool true)
            have HM2 : Hid (IMap w2 (B + 1) (mapL (L.take (i + 1)))) := Lib.hid (by
              rcases hc2 with ⟨_, hc⟩ | ⟨j, v0, hj, _⟩
              · rw [List.take_add_one, HXX.out]
                rw [mapL_app] at hc
                exact hc
              · exact absurd rfl (look_none (mapL_not hni) _ (List.mem_of_getElem? hj)))
            have HW2 : Hid (BM w w2 B (B + 1) (.slice (some ⟨b, o, none⟩) L.length lc) (.slice sa R.length sc) (.slice ka K.length kc)) := Lib.hid ⟨hbw.trans (hl2.belowB (by have := HW.out.lt; simp; omega) (by simp)), HW.out.drew.left hl2 (by simp), rfl⟩
            have d0 : w'.drew.cell? ⟨B, 0, none⟩ = some (.slice (some ⟨b, o, none⟩) L.length lc) := c0
            have d1 : w'.drew.cell? ⟨b, o + i, none⟩ = some (.int .i64 x) := x0
            clear c0 c1 c2 x0 hlk hni hl2 hc2
            go_wp2
            go_step3
            exact ⟨Or.inl ⟨rfl, i + 1, by omega, HW2.out, HM2.out, Lib.hid ⟨HP.out.1, HP.out.2.1, HPR.out⟩, frm_any (by go_num)⟩, by simp [intOf]; omega⟩
          · have HX : Hid (yes (broOk ⟨L, R.map (·.s), K⟩) = false) := Lib.hid (yes_false (fun h => by
              have h1 := HZ.out
              rw [yes_true (h.2.2.1 i x HXX.out)] at h1
              cases h1))
            clear c0 c1 c2 x0
            go_wp2
            go_step3
            exact ⟨Or.inr (Or.inr ⟨rfl, hbw, HX, frm_any rfl⟩), by simp; omega⟩
      · obtain rfl : i = L.length := by omega
        clear hlt
        go_wp2
        go_step3
        refine (by assumption : ∀ (a : Act) (w : World), Code.wp _ _ _ a w → _) _ _ ?_
        refine HF.out 2 _ _ _ rfl (Or.inr (Or.inl ⟨by trivial, 0, by omega, ⟨HBB.out, HW.out, rfl⟩, ?_, Lib.hid ⟨HP.out.1, HP.out.2.1, fun k x hx => HP.out.2.2 k x (List.getElem?_eq_some_iff.1 hx).1 hx, fun k s hk => by omega⟩, frm_any rfl⟩)) (by simp [intOf])
        have := HM.out
        rw [List.take_length] at this
        simpa [seenK] using this
    · as_aux_lemma =>
      refine ⟨_, rfl, ?_⟩
      clear hfall
      obtain ⟨hbb, hW, _⟩ := hBM
      obtain ⟨c0, c1, c2, _, _, _⟩ := hW.three
      have HBB := Lib.hid hbb
      have HW := Lib.hid hW
      have HM := Lib.hid hM
      clear hbb hW hM
      by_cases hlt : i < R.length
      · have hlt' : (i : Int) < (R.length : Int) := by omega
        obtain ⟨x, hx⟩ : ∃ x, R[i]? = some x := ⟨_, List.getElem?_eq_getElem hlt⟩
        obtain ⟨b, o, rfl, hbl, hcs⟩ := Enc.rd_cell (E := eS) (HS.out.below HBB.out) rfl hx
        obtain ⟨x0, x1, x2, x3, x4, x5, x6, x7, x8, x9, x10, x11, x12, x13, x14⟩ := ses_cells (show World.rangeAt _ b (o + i * 15) (eS.c x) from hcs)
        have HXX := Lib.hid hx
        have HXS : Hid ((R.map (·.s))[i]? = some x.s) := Lib.hid (by rw [List.getElem?_map, hx]; rfl)
        clear hx hcs
        go_upto_region 10 with fail
        clear x0 x1 x2 x3 x4 x5 x6 x7 x8 x9 x10 x11 x12 x13 x14
        obtain ⟨wb, hwb⟩ : ∃ wb, w'.alloc (.cells (seC x).toArray 61) = wb := ⟨_, rfl⟩
        have hbb2 : Below w'.heap.size w' wb := by rw [← hwb]; exact (Below.refl _ _).alloc (Nat.le_refl _) _
        have hWb : Whole wb w'.heap.size 61 (seC x) := by rw [← hwb]; exact Whole.new w' 61 _
        have hwb' := hwb
        simp only [seC] at hwb'
        rw [hwb']
        have hzB : B ≤ w'.heap.size := Nat.le_of_lt HW.out.lt
        have hBwb : Below B w wb := HBB.out.trans (hbb2.mono hzB)
        have HSA := Lib.hid (fun wx (hx : Below wb.heap.size wb wx) => session_any wx x (((HRR.out x (List.mem_of_getElem? HXX.out)).below (hBwb.trans (hx.mono (Nat.le_trans hzB hbb2.size)))).more (Nat.le_trans (Nat.le_trans hzB hbb2.size) hx.size)) (HSS.out x.s (List.mem_of_getElem? HXS.out)) (HE.out.below (by rw [HB.out]; exact hBwb.trans (hx.mono (Nat.le_trans hzB hbb2.size)))))
        obtain ⟨x0, x1, x2, x3, x4, x5, x6, x7, x8, x9, x10, x11, x12, x13, x14⟩ := ses_whole hWb
        have d1 := b_cell hbb2 c1
        have hMb : IMap wb (B + 1) (mapL (seenK L (R.map (·.s)) i)) := HM.out.keep (hbb2.block _ HM.out.lt)
        obtain ⟨z, hz⟩ : ∃ z : Bool, z = !yes (sesAt L (R.map (·.s)) i x.s) := ⟨_, rfl⟩
        have HZ := Lib.hid hz
        clear hz
        have HN := Lib.hid (fun (h : ¬ sesAt L (R.map (·.s)) i x.s) => show z = true by rw [HZ.out, yes_false h]; rfl)
        have HY := Lib.hid (fun (h : sesAt L (R.map (·.s)) i x.s) => show z = false by rw [HZ.out, yes_true h]; rfl)
        have HWB := Lib.hid hWb
        have HMB := Lib.hid hMb
        have HBW := Lib.hid hBwb
        have HB2 := Lib.hid hbb2
        clear hWb hMb hBwb hbb2 hwb hwb'
        obtain ⟨q, hq⟩ : ∃ q : Bool, q = yes (x.s.ln ∈ seenK L (R.map (·.s)) i) := ⟨_, rfl⟩
        have HLK := Lib.hid (fun (wx : World) (hx : Below wb.heap.size wb wx) => show (Instr.lookup 84 (.map (some (B + 1))) (.int .i64 x.s.ln) false).run Tryz.prog wx = .ok (.bool q) wx from (by
          have := run_look (P := Tryz.prog) (w := wx) (t := 84) (HMB.out.keep (hx.block _ HMB.out.lt)) Tryz.underlying84 Tryz.underlying3 (zero_bool wx) x.s.ln
          by_cases hin : x.s.ln ∈ seenK L (R.map (·.s)) i
          · rw [mapL_old hin] at this
            rw [hq, yes_true hin]
            exact this
          · rw [mapL_not hin] at this
            rw [hq, yes_false hin]
            exact this))
        have HQ := Lib.hid hq
        clear hq
        go_cut [90] (fun s wx => s = .bool z ∧ Below wb.heap.size wb wx)
        case first =>
          cases hva : yes (sesOk x.s)
          · rw [hva] at HSA
            have HZZ := Lib.hid (HN.out (fun h => yes_not.1 hva h.1))
            clear hva
            as_aux_lemma =>
              have HSC := Lib.hid (fun (wx : World) (hx : Below wb.heap.size wb wx) => show (fun wx => wx.cell? ⟨w'.heap.size, 0, none⟩ = some (.string x.s.c) ∧ wx.cell? ⟨w'.heap.size, 1, none⟩ = some (.bool x.s.cl) ∧ wx.cell? ⟨w'.heap.size, 2, none⟩ = some (.int .i64 x.s.ln) ∧ wx.cell? ⟨w'.heap.size, 3, none⟩ = some (.slice x.sa x.s.S.length x.sc) ∧ wx.cell? ⟨w'.heap.size, 4, none⟩ = some (.int .i64 x.s.o.last) ∧ wx.cell? ⟨w'.heap.size, 5, none⟩ = some (.slice x.fa x.s.o.F.length x.fc) ∧ wx.cell? ⟨w'.heap.size, 6, none⟩ = some (.slice x.qa x.s.o.Q.length x.qc) ∧ wx.cell? ⟨w'.heap.size, 7, none⟩ = some (.slice x.ia x.s.I.length x.ic) ∧ wx.cell? ⟨w'.heap.size, 8, none⟩ = some (.bool x.s.wl.is) ∧ wx.cell? ⟨w'.heap.size, 9, none⟩ = some (.string x.s.wl.t) ∧ wx.cell? ⟨w'.heap.size, 10, none⟩ = some (.string x.s.wl.p) ∧ wx.cell? ⟨w'.heap.size, 11, none⟩ = some (.int .i64 x.s.wl.q) ∧ wx.cell? ⟨w'.heap.size, 12, none⟩ = some (.bool x.s.wl.r) ∧ wx.cell? ⟨w'.heap.size, 13, none⟩ = some (.int .i64 x.s.keep) ∧ wx.cell? ⟨w'.heap.size, 14, none⟩ = some (.int .i64 x.s.idle) ∧ wx.cell? ⟨B, 1, none⟩ = some (.slice (some ⟨b, o, none⟩) R.length sc) ∧ (Instr.lookup 84 (.map (some (B + 1))) (.int .i64 x.s.ln) false).run Tryz.prog wx =   .ok (.bool q) wx ∧ Below wb.heap.size wb wx) wx from (by
                obtain ⟨y0, y1, y2, y3, y4, y5, y6, y7, y8, y9, y10, y11, y12, y13, y14⟩ := ses_whole (HWB.out.belowH hx)
                refine ⟨y0, y1, y2, y3, y4, y5, y6, y7, y8, y9, y10, y11, y12, y13, y14, b_cell hx d1, ?_, hx⟩
                exact HLK.out wx hx))
              refine wp_region_held_drew (S := fun wx => wx.cell? ⟨w'.heap.size, 0, none⟩ = some (.string x.s.c) ∧ wx.cell? ⟨w'.heap.size, 1, none⟩ = some (.bool x.s.cl) ∧ wx.cell? ⟨w'.heap.size, 2, none⟩ = some (.int .i64 x.s.ln) ∧ wx.cell? ⟨w'.heap.size, 3, none⟩ = some (.slice x.sa x.s.S.length x.sc) ∧ wx.cell? ⟨w'.heap.size, 4, none⟩ = some (.int .i64 x.s.o.last) ∧ wx.cell? ⟨w'.heap.size, 5, none⟩ = some (.slice x.fa x.s.o.F.length x.fc) ∧ wx.cell? ⟨w'.heap.size, 6, none⟩ = some (.slice x.qa x.s.o.Q.length x.qc) ∧ wx.cell? ⟨w'.heap.size, 7, none⟩ = some (.slice x.ia x.s.I.length x.ic) ∧ wx.cell? ⟨w'.heap.size, 8, none⟩ = some (.bool x.s.wl.is) ∧ wx.cell? ⟨w'.heap.size, 9, none⟩ = some (.string x.s.wl.t) ∧ wx.cell? ⟨w'.heap.size, 10, none⟩ = some (.string x.s.wl.p) ∧ wx.cell? ⟨w'.heap.size, 11, none⟩ = some (.int .i64 x.s.wl.q) ∧ wx.cell? ⟨w'.heap.size, 12, none⟩ = some (.bool x.s.wl.r) ∧ wx.cell? ⟨w'.heap.size, 13, none⟩ = some (.int .i64 x.s.keep) ∧ wx.cell? ⟨w'.heap.size, 14, none⟩ = some (.int .i64 x.s.idle) ∧ wx.cell? ⟨B, 1, none⟩ = some (.slice (some ⟨b, o, none⟩) R.length sc) ∧ (Instr.lookup 84 (.map (some (B + 1))) (.int .i64 x.s.ln) false).run Tryz.prog wx =   .ok (.bool q) wx ∧ Below wb.heap.size wb wx) (by kernel_rfl) (HSC.out _ (Below.refl wb.heap.size wb).drew) (fun hHeld => ?_)
              refine tk 0 (by assumption) ?_
              (try simp only [aPt])
              refine wpAnyH_ready (rs := [1]) (by kernel_rfl) (by simp) ?_
              refine call_h 1 ⟨?_, ?_, fun K hK => ?_⟩
              rotate_left 1
              · (simp only [List.getElem?_toArray, List.getElem?_cons_succ, List.getElem?_cons_zero]; exact rfl)
              go_simp
              (go_at_call 42; refine (HSA.out _ (Below.refl wb.heap.size wb).drew).mono ?_; rintro e wz ⟨rfl, hbz⟩)
              go_wp2_with fail
              refine hK.out _ _ (HSC.out _ (b_tr (Below.refl wb.heap.size wb).drew hbz)) (fun hHeld => ?_)
              clear hK K
              (try simp only [aPt])
              refine tk 2 (by assumption) ?_
              (try simp only [aPt])
              refine tk 3 (by assumption) ?_
              (try simp only [aPt])
              refine tk 4 (by assumption) ?_
              (try simp only [aPt])
              refine tk 5 (by assumption) ?_
              (try simp only [aPt])
              refine tk 6 (by assumption) ?_
              (try simp only [aPt])
              refine tk 7 (by assumption) ?_
              (try simp only [aPt])
              refine tk 8 (by assumption) ?_
              (try simp only [aPt])
              refine tk 9 (by assumption) ?_
              (try simp only [aPt])
              refine tk 10 (by assumption) ?_
              (try simp only [aPt])
              refine tk 11 (by assumption) ?_
              (try simp only [aPt])
              refine tk 12 (by assumption) ?_
              (try simp only [aPt])
              refine tk 13 (by assumption) ?_
              (try simp only [aPt])
              refine tk 14 (by assumption) ?_
              (try simp only [aPt])
              refine tk 15 (by assumption) ?_
              (try simp only [aPt])
              refine tk 16 (by assumption) ?_
              (try simp only [aPt])
              refine tk 17 (by assumption) ?_
              (try simp only [aPt])
              refine tk 18 (by assumption) ?_
              (try simp only [aPt])
              refine tk 19 (by assumption) ?_
              (try simp only [aPt])
              refine tk 20 (by assumption) ?_
              (try simp only [aPt])
              refine tk 21 (by assumption) ?_
              (try simp only [aPt])
              refine tk 22 (by assumption) ?_
              (try simp only [aPt])
              refine tk 23 (by assumption) ?_
              (try simp only [aPt])
              refine tk 24 (by assumption) ?_
              (try simp only [aPt])
              refine wpAnyH_done (by kernel_rfl) ?_ _
              have hbzz := b_tr (Below.refl wb.heap.size wb).drew hbz
              clear hHeld
              go_wp2
              go_meet
              exact ⟨by rw [HZZ.out], hbzz⟩
          · rw [hva] at HSA
            have hso := yes_iff.1 hva
            clear hva
            cases q
            rotate_left 1
            · have hin : x.s.ln ∈ seenK L (R.map (·.s)) i := yes_iff.1 HQ.out.symm
              have HZZ := Lib.hid (HN.out (fun h => h.2.2 hin))
              by_cases hk0 : i = 0
              · have hi0 : decide ((0 : Int) < (i : Int)) = false := decide_eq_false (by omega)
                have hi0' : ¬ (0 < i) := by omega
                have hi0'' : decide (0 < i) = false := decide_eq_false hi0'
                clear hk0 hin hso
                as_aux_lemma =>
                  have HSC := Lib.hid (fun (wx : World) (hx : Below wb.heap.size wb wx) => show (fun wx => wx.cell? ⟨w'.heap.size, 0, none⟩ = some (.string x.s.c) ∧ wx.cell? ⟨w'.heap.size, 1, none⟩ = some (.bool x.s.cl) ∧ wx.cell? ⟨w'.heap.size, 2, none⟩ = some (.int .i64 x.s.ln) ∧ wx.cell? ⟨w'.heap.size, 3, none⟩ = some (.slice x.sa x.s.S.length x.sc) ∧ wx.cell? ⟨w'.heap.size, 4, none⟩ = some (.int .i64 x.s.o.last) ∧ wx.cell? ⟨w'.heap.size, 5, none⟩ = some (.slice x.fa x.s.o.F.length x.fc) ∧ wx.cell? ⟨w'.heap.size, 6, none⟩ = some (.slice x.qa x.s.o.Q.length x.qc) ∧ wx.cell? ⟨w'.heap.size, 7, none⟩ = some (.slice x.ia x.s.I.length x.ic) ∧ wx.cell? ⟨w'.heap.size, 8, none⟩ = some (.bool x.s.wl.is) ∧ wx.cell? ⟨w'.heap.size, 9, none⟩ = some (.string x.s.wl.t) ∧ wx.cell? ⟨w'.heap.size, 10, none⟩ = some (.string x.s.wl.p) ∧ wx.cell? ⟨w'.heap.size, 11, none⟩ = some (.int .i64 x.s.wl.q) ∧ wx.cell? ⟨w'.heap.size, 12, none⟩ = some (.bool x.s.wl.r) ∧ wx.cell? ⟨w'.heap.size, 13, none⟩ = some (.int .i64 x.s.keep) ∧ wx.cell? ⟨w'.heap.size, 14, none⟩ = some (.int .i64 x.s.idle) ∧ wx.cell? ⟨B, 1, none⟩ = some (.slice (some ⟨b, o, none⟩) R.length sc) ∧ (Instr.lookup 84 (.map (some (B + 1))) (.int .i64 x.s.ln) false).run Tryz.prog wx =   .ok (.bool true) wx ∧ Below wb.heap.size wb wx) wx from (by
                    obtain ⟨y0, y1, y2, y3, y4, y5, y6, y7, y8, y9, y10, y11, y12, y13, y14⟩ := ses_whole (HWB.out.belowH hx)
                    refine ⟨y0, y1, y2, y3, y4, y5, y6, y7, y8, y9, y10, y11, y12, y13, y14, b_cell hx d1, ?_, hx⟩
                    exact HLK.out wx hx))
                  refine wp_region_held_drew (S := fun wx => wx.cell? ⟨w'.heap.size, 0, none⟩ = some (.string x.s.c) ∧ wx.cell? ⟨w'.heap.size, 1, none⟩ = some (.bool x.s.cl) ∧ wx.cell? ⟨w'.heap.size, 2, none⟩ = some (.int .i64 x.s.ln) ∧ wx.cell? ⟨w'.heap.size, 3, none⟩ = some (.slice x.sa x.s.S.length x.sc) ∧ wx.cell? ⟨w'.heap.size, 4, none⟩ = some (.int .i64 x.s.o.last) ∧ wx.cell? ⟨w'.heap.size, 5, none⟩ = some (.slice x.fa x.s.o.F.length x.fc) ∧ wx.cell? ⟨w'.heap.size, 6, none⟩ = some (.slice x.qa x.s.o.Q.length x.qc) ∧ wx.cell? ⟨w'.heap.size, 7, none⟩ = some (.slice x.ia x.s.I.length x.ic) ∧ wx.cell? ⟨w'.heap.size, 8, none⟩ = some (.bool x.s.wl.is) ∧ wx.cell? ⟨w'.heap.size, 9, none⟩ = some (.string x.s.wl.t) ∧ wx.cell? ⟨w'.heap.size, 10, none⟩ = some (.string x.s.wl.p) ∧ wx.cell? ⟨w'.heap.size, 11, none⟩ = some (.int .i64 x.s.wl.q) ∧ wx.cell? ⟨w'.heap.size, 12, none⟩ = some (.bool x.s.wl.r) ∧ wx.cell? ⟨w'.heap.size, 13, none⟩ = some (.int .i64 x.s.keep) ∧ wx.cell? ⟨w'.heap.size, 14, none⟩ = some (.int .i64 x.s.idle) ∧ wx.cell? ⟨B, 1, none⟩ = some (.slice (some ⟨b, o, none⟩) R.length sc) ∧ (Instr.lookup 84 (.map (some (B + 1))) (.int .i64 x.s.ln) false).run Tryz.prog wx =   .ok (.bool true) wx ∧ Below wb.heap.size wb wx) (by kernel_rfl) (HSC.out _ (Below.refl wb.heap.size wb).drew) (fun hHeld => ?_)
                  refine tk 0 (by assumption) ?_
                  (try simp only [aPt])
                  refine wpAnyH_ready (rs := [1]) (by kernel_rfl) (by simp) ?_
                  refine call_h 1 ⟨?_, ?_, fun K hK => ?_⟩
                  rotate_left 1
                  · (simp only [List.getElem?_toArray, List.getElem?_cons_succ, List.getElem?_cons_zero]; exact rfl)
                  go_simp
                  (go_at_call 42; refine (HSA.out _ (Below.refl wb.heap.size wb).drew).mono ?_; rintro e wz ⟨rfl, hbz⟩)
                  go_wp2_with fail
                  refine hK.out _ _ (HSC.out _ (b_tr (Below.refl wb.heap.size wb).drew hbz)) (fun hHeld => ?_)
                  clear hK K
                  (try simp only [aPt])
                  refine tk 2 (by assumption) ?_
                  (try simp only [aPt])
                  refine tk 3 (by assumption) ?_
                  (try simp only [aPt])
                  refine tk 4 (by assumption) ?_
                  (try simp only [aPt])
                  refine tk 5 (by assumption) ?_
                  (try simp only [aPt])
                  refine tk 6 (by assumption) ?_
                  (try simp only [aPt])
                  refine tk 7 (by assumption) ?_
                  (try simp only [aPt])
                  refine tk 8 (by assumption) ?_
                  (try simp only [aPt])
                  refine tk 9 (by assumption) ?_
                  (try simp only [aPt])
                  refine tk 10 (by assumption) ?_
                  (try simp only [aPt])
                  refine tk 11 (by assumption) ?_
                  (try simp only [aPt])
                  refine tk 12 (by assumption) ?_
                  (try simp only [aPt])
                  refine tk 13 (by assumption) ?_
                  (try simp only [aPt])
                  refine tk 14 (by assumption) ?_
                  (try simp only [aPt])
                  refine tk 15 (by assumption) ?_
                  (try simp only [aPt])
                  refine tk 16 (by assumption) ?_
                  (try simp only [aPt])
                  refine tk 17 (by assumption) ?_
                  (try simp only [aPt])
                  refine tk 18 (by assumption) ?_
                  (try simp only [aPt])
                  refine tk 19 (by assumption) ?_
                  (try simp only [aPt])
                  refine tk 20 (by assumption) ?_
                  (try simp only [aPt])
                  refine tk 21 (by assumption) ?_
                  (try simp only [aPt])
                  refine tk 22 (by assumption) ?_
                  (try simp only [aPt])
                  refine tk 23 (by assumption) ?_
                  (try simp only [aPt])
                  refine tk 24 (by assumption) ?_
                  (try simp only [aPt])
                  refine wpAnyH_done (by kernel_rfl) ?_ _
                  have hbzz := b_tr (Below.refl wb.heap.size wb).drew hbz
                  clear hHeld
                  go_wp2
                  go_meet
                  exact ⟨by rw [HZZ.out], hbzz⟩
              · obtain ⟨j, hj⟩ : ∃ j, i = j + 1 := ⟨i - 1, by omega⟩
                obtain ⟨y, hy⟩ : ∃ y, R[j]? = some y := ⟨_, List.getElem?_eq_getElem (by omega)⟩
                obtain ⟨b', o', he, hblj, hcs⟩ := Enc.rd_cell (E := eS) (HS.out.below HBW.out) rfl hy
                injection he with he
                injection he with he1 he2
                subst he1 he2
                have HYC := Lib.hid (fun (wx : World) (hx : Below wb.heap.size wb wx) => show wx.cell? ⟨b, o + j * 15, none⟩ = some (.string y.s.c) from b_cell hx (ses_cells (show World.rangeAt _ b (o + j * 15) (eS.c y) from hcs)).1)
                have HYS : Hid ((R.map (·.s))[j]? = some y.s) := Lib.hid (by rw [List.getElem?_map, hy]; rfl)
                have hi0 : decide ((0 : Int) < (i : Int)) = true := decide_eq_true (by omega)
                have hi0' : 0 < i := by omega
                have hi0'' : decide (0 < i) = true := decide_eq_true hi0'
                have hj0 : (0 : Int) ≤ (j : Int) := by omega
                have hjl : (j : Int) < (R.length : Int) := by omega
                have hw1 : IntKind.i64.wrap ((i : Int) - 1) = (j : Int) := by
                  have : (i : Int) - 1 = j := by omega
                  rw [this]; exact IntWalk.i64_in _ ⟨by omega, by omega⟩
                have HJ := Lib.hid hj
                clear hk0 hcs hy hj
                cases hls : lessB y.s.c x.s.c
                all_goals
                  have hl2 : Op.bytesLess y.s.c.toList x.s.c.toList = _ := hls
                  clear hls hin hso
                  as_aux_lemma =>
                    have HSC := Lib.hid (fun (wx : World) (hx : Below wb.heap.size wb wx) => show (fun wx => wx.cell? ⟨w'.heap.size, 0, none⟩ = some (.string x.s.c) ∧ wx.cell? ⟨w'.heap.size, 1, none⟩ = some (.bool x.s.cl) ∧ wx.cell? ⟨w'.heap.size, 2, none⟩ = some (.int .i64 x.s.ln) ∧ wx.cell? ⟨w'.heap.size, 3, none⟩ = some (.slice x.sa x.s.S.length x.sc) ∧ wx.cell? ⟨w'.heap.size, 4, none⟩ = some (.int .i64 x.s.o.last) ∧ wx.cell? ⟨w'.heap.size, 5, none⟩ = some (.slice x.fa x.s.o.F.length x.fc) ∧ wx.cell? ⟨w'.heap.size, 6, none⟩ = some (.slice x.qa x.s.o.Q.length x.qc) ∧ wx.cell? ⟨w'.heap.size, 7, none⟩ = some (.slice x.ia x.s.I.length x.ic) ∧ wx.cell? ⟨w'.heap.size, 8, none⟩ = some (.bool x.s.wl.is) ∧ wx.cell? ⟨w'.heap.size, 9, none⟩ = some (.string x.s.wl.t) ∧ wx.cell? ⟨w'.heap.size, 10, none⟩ = some (.string x.s.wl.p) ∧ wx.cell? ⟨w'.heap.size, 11, none⟩ = some (.int .i64 x.s.wl.q) ∧ wx.cell? ⟨w'.heap.size, 12, none⟩ = some (.bool x.s.wl.r) ∧ wx.cell? ⟨w'.heap.size, 13, none⟩ = some (.int .i64 x.s.keep) ∧ wx.cell? ⟨w'.heap.size, 14, none⟩ = some (.int .i64 x.s.idle) ∧ wx.cell? ⟨B, 1, none⟩ = some (.slice (some ⟨b, o, none⟩) R.length sc) ∧ wx.cell? ⟨b, o + j * 15, none⟩ = some (.string y.s.c) ∧ (Instr.lookup 84 (.map (some (B + 1))) (.int .i64 x.s.ln) false).run Tryz.prog wx =   .ok (.bool true) wx ∧ Below wb.heap.size wb wx) wx from (by
                      obtain ⟨y0, y1, y2, y3, y4, y5, y6, y7, y8, y9, y10, y11, y12, y13, y14⟩ := ses_whole (HWB.out.belowH hx)
                      refine ⟨y0, y1, y2, y3, y4, y5, y6, y7, y8, y9, y10, y11, y12, y13, y14, b_cell hx d1, HYC.out wx hx, ?_, hx⟩
                      exact HLK.out wx hx))
                    refine wp_region_held_drew (S := fun wx => wx.cell? ⟨w'.heap.size, 0, none⟩ = some (.string x.s.c) ∧ wx.cell? ⟨w'.heap.size, 1, none⟩ = some (.bool x.s.cl) ∧ wx.cell? ⟨w'.heap.size, 2, none⟩ = some (.int .i64 x.s.ln) ∧ wx.cell? ⟨w'.heap.size, 3, none⟩ = some (.slice x.sa x.s.S.length x.sc) ∧ wx.cell? ⟨w'.heap.size, 4, none⟩ = some (.int .i64 x.s.o.last) ∧ wx.cell? ⟨w'.heap.size, 5, none⟩ = some (.slice x.fa x.s.o.F.length x.fc) ∧ wx.cell? ⟨w'.heap.size, 6, none⟩ = some (.slice x.qa x.s.o.Q.length x.qc) ∧ wx.cell? ⟨w'.heap.size, 7, none⟩ = some (.slice x.ia x.s.I.length x.ic) ∧ wx.cell? ⟨w'.heap.size, 8, none⟩ = some (.bool x.s.wl.is) ∧ wx.cell? ⟨w'.heap.size, 9, none⟩ = some (.string x.s.wl.t) ∧ wx.cell? ⟨w'.heap.size, 10, none⟩ = some (.string x.s.wl.p) ∧ wx.cell? ⟨w'.heap.size, 11, none⟩ = some (.int .i64 x.s.wl.q) ∧ wx.cell? ⟨w'.heap.size, 12, none⟩ = some (.bool x.s.wl.r) ∧ wx.cell? ⟨w'.heap.size, 13, none⟩ = some (.int .i64 x.s.keep) ∧ wx.cell? ⟨w'.heap.size, 14, none⟩ = some (.int .i64 x.s.idle) ∧ wx.cell? ⟨B, 1, none⟩ = some (.slice (some ⟨b, o, none⟩) R.length sc) ∧ wx.cell? ⟨b, o + j * 15, none⟩ = some (.string y.s.c) ∧ (Instr.lookup 84 (.map (some (B + 1))) (.int .i64 x.s.ln) false).run Tryz.prog wx =   .ok (.bool true) wx ∧ Below wb.heap.size wb wx) (by kernel_rfl) (HSC.out _ (Below.refl wb.heap.size wb).drew) (fun hHeld => ?_)
                    refine tk 0 (by assumption) ?_
                    (try simp only [aPt])
                    refine wpAnyH_ready (rs := [1]) (by kernel_rfl) (by simp) ?_
                    refine call_h 1 ⟨?_, ?_, fun K hK => ?_⟩
                    rotate_left 1
                    · (simp only [List.getElem?_toArray, List.getElem?_cons_succ, List.getElem?_cons_zero]; exact rfl)
                    go_simp
                    (go_at_call 42; refine (HSA.out _ (Below.refl wb.heap.size wb).drew).mono ?_; rintro e wz ⟨rfl, hbz⟩)
                    go_wp2_with fail
                    refine hK.out _ _ (HSC.out _ (b_tr (Below.refl wb.heap.size wb).drew hbz)) (fun hHeld => ?_)
                    clear hK K
                    (try simp only [aPt])
                    refine tk 2 (by assumption) ?_
                    (try simp only [aPt])
                    refine tk 3 (by assumption) ?_
                    (try simp only [aPt])
                    refine tk 4 (by assumption) ?_
                    (try simp only [aPt])
                    refine tk 5 (by assumption) ?_
                    (try simp only [aPt])
                    refine tk 6 (by assumption) ?_
                    (try simp only [aPt])
                    refine tk 7 (by assumption) ?_
                    (try simp only [aPt])
                    refine tk 8 (by assumption) ?_
                    (try simp only [aPt])
                    refine tk 9 (by assumption) ?_
                    (try simp only [aPt])
                    refine tk 10 (by assumption) ?_
                    (try simp only [aPt])
                    refine tk 11 (by assumption) ?_
                    (try simp only [aPt])
                    refine tk 12 (by assumption) ?_
                    (try simp only [aPt])
                    refine tk 13 (by assumption) ?_
                    (try simp only [aPt])
                    refine tk 14 (by assumption) ?_
                    (try simp only [aPt])
                    refine tk 15 (by assumption) ?_
                    (try simp only [aPt])
                    refine tk 16 (by assumption) ?_
                    (try simp only [aPt])
                    refine tk 17 (by assumption) ?_
                    (try simp only [aPt])
                    refine tk 18 (by assumption) ?_
                    (try simp only [aPt])
                    refine tk 19 (by assumption) ?_
                    (try simp only [aPt])
                    refine tk 20 (by assumption) ?_
                    (try simp only [aPt])
                    refine tk 21 (by assumption) ?_
                    (try simp only [aPt])
                    refine tk 22 (by assumption) ?_
                    (try simp only [aPt])
                    refine tk 23 (by assumption) ?_
                    (try simp only [aPt])
                    refine tk 24 (by assumption) ?_
                    (try simp only [aPt])
                    refine wpAnyH_done (by kernel_rfl) ?_ _
                    have hbzz := b_tr (Below.refl wb.heap.size wb).drew hbz
                    clear hHeld
                    go_wp2
                    go_meet
                    exact ⟨by rw [HZZ.out], hbzz⟩
            · have hin : x.s.ln ∉ seenK L (R.map (·.s)) i := yes_not.1 HQ.out.symm
              by_cases hk0 : i = 0
              · have HZZ := Lib.hid (HY.out ⟨hso, fun j y hj => by omega, hin⟩)
                have hi0 : decide ((0 : Int) < (i : Int)) = false := decide_eq_false (by omega)
                have hi0' : ¬ (0 < i) := by omega
                have hi0'' : decide (0 < i) = false := decide_eq_false hi0'
                clear hk0 hin hso
                as_aux_lemma =>
                  have HSC := Lib.hid (fun (wx : World) (hx : Below wb.heap.size wb wx) => show (fun wx => wx.cell? ⟨w'.heap.size, 0, none⟩ = some (.string x.s.c) ∧ wx.cell? ⟨w'.heap.size, 1, none⟩ = some (.bool x.s.cl) ∧ wx.cell? ⟨w'.heap.size, 2, none⟩ = some (.int .i64 x.s.ln) ∧ wx.cell? ⟨w'.heap.size, 3, none⟩ = some (.slice x.sa x.s.S.length x.sc) ∧ wx.cell? ⟨w'.heap.size, 4, none⟩ = some (.int .i64 x.s.o.last) ∧ wx.cell? ⟨w'.heap.size, 5, none⟩ = some (.slice x.fa x.s.o.F.length x.fc) ∧ wx.cell? ⟨w'.heap.size, 6, none⟩ = some (.slice x.qa x.s.o.Q.length x.qc) ∧ wx.cell? ⟨w'.heap.size, 7, none⟩ = some (.slice x.ia x.s.I.length x.ic) ∧ wx.cell? ⟨w'.heap.size, 8, none⟩ = some (.bool x.s.wl.is) ∧ wx.cell? ⟨w'.heap.size, 9, none⟩ = some (.string x.s.wl.t) ∧ wx.cell? ⟨w'.heap.size, 10, none⟩ = some (.string x.s.wl.p) ∧ wx.cell? ⟨w'.heap.size, 11, none⟩ = some (.int .i64 x.s.wl.q) ∧ wx.cell? ⟨w'.heap.size, 12, none⟩ = some (.bool x.s.wl.r) ∧ wx.cell? ⟨w'.heap.size, 13, none⟩ = some (.int .i64 x.s.keep) ∧ wx.cell? ⟨w'.heap.size, 14, none⟩ = some (.int .i64 x.s.idle) ∧ wx.cell? ⟨B, 1, none⟩ = some (.slice (some ⟨b, o, none⟩) R.length sc) ∧ (Instr.lookup 84 (.map (some (B + 1))) (.int .i64 x.s.ln) false).run Tryz.prog wx =   .ok (.bool false) wx ∧ Below wb.heap.size wb wx) wx from (by
                    obtain ⟨y0, y1, y2, y3, y4, y5, y6, y7, y8, y9, y10, y11, y12, y13, y14⟩ := ses_whole (HWB.out.belowH hx)
                    refine ⟨y0, y1, y2, y3, y4, y5, y6, y7, y8, y9, y10, y11, y12, y13, y14, b_cell hx d1, ?_, hx⟩
                    exact HLK.out wx hx))
                  refine wp_region_held_drew (S := fun wx => wx.cell? ⟨w'.heap.size, 0, none⟩ = some (.string x.s.c) ∧ wx.cell? ⟨w'.heap.size, 1, none⟩ = some (.bool x.s.cl) ∧ wx.cell? ⟨w'.heap.size, 2, none⟩ = some (.int .i64 x.s.ln) ∧ wx.cell? ⟨w'.heap.size, 3, none⟩ = some (.slice x.sa x.s.S.length x.sc) ∧ wx.cell? ⟨w'.heap.size, 4, none⟩ = some (.int .i64 x.s.o.last) ∧ wx.cell? ⟨w'.heap.size, 5, none⟩ = some (.slice x.fa x.s.o.F.length x.fc) ∧ wx.cell? ⟨w'.heap.size, 6, none⟩ = some (.slice x.qa x.s.o.Q.length x.qc) ∧ wx.cell? ⟨w'.heap.size, 7, none⟩ = some (.slice x.ia x.s.I.length x.ic) ∧ wx.cell? ⟨w'.heap.size, 8, none⟩ = some (.bool x.s.wl.is) ∧ wx.cell? ⟨w'.heap.size, 9, none⟩ = some (.string x.s.wl.t) ∧ wx.cell? ⟨w'.heap.size, 10, none⟩ = some (.string x.s.wl.p) ∧ wx.cell? ⟨w'.heap.size, 11, none⟩ = some (.int .i64 x.s.wl.q) ∧ wx.cell? ⟨w'.heap.size, 12, none⟩ = some (.bool x.s.wl.r) ∧ wx.cell? ⟨w'.heap.size, 13, none⟩ = some (.int .i64 x.s.keep) ∧ wx.cell? ⟨w'.heap.size, 14, none⟩ = some (.int .i64 x.s.idle) ∧ wx.cell? ⟨B, 1, none⟩ = some (.slice (some ⟨b, o, none⟩) R.length sc) ∧ (Instr.lookup 84 (.map (some (B + 1))) (.int .i64 x.s.ln) false).run Tryz.prog wx =   .ok (.bool false) wx ∧ Below wb.heap.size wb wx) (by kernel_rfl) (HSC.out _ (Below.refl wb.heap.size wb).drew) (fun hHeld => ?_)
                  refine tk 0 (by assumption) ?_
                  (try simp only [aPt])
                  refine wpAnyH_ready (rs := [1]) (by kernel_rfl) (by simp) ?_
                  refine call_h 1 ⟨?_, ?_, fun K hK => ?_⟩
                  rotate_left 1
                  · (simp only [List.getElem?_toArray, List.getElem?_cons_succ, List.getElem?_cons_zero]; exact rfl)
                  go_simp
                  (go_at_call 42; refine (HSA.out _ (Below.refl wb.heap.size wb).drew).mono ?_; rintro e wz ⟨rfl, hbz⟩)
                  go_wp2_with fail
                  refine hK.out _ _ (HSC.out _ (b_tr (Below.refl wb.heap.size wb).drew hbz)) (fun hHeld => ?_)
                  clear hK K
                  (try simp only [aPt])
                  refine tk 2 (by assumption) ?_
                  (try simp only [aPt])
                  refine tk 3 (by assumption) ?_
                  (try simp only [aPt])
                  refine tk 4 (by assumption) ?_
                  (try simp only [aPt])
                  refine tk 5 (by assumption) ?_
                  (try simp only [aPt])
                  refine tk 6 (by assumption) ?_
                  (try simp only [aPt])
                  refine tk 7 (by assumption) ?_
                  (try simp only [aPt])
                  refine tk 8 (by assumption) ?_
                  (try simp only [aPt])
                  refine tk 9 (by assumption) ?_
                  (try simp only [aPt])
                  refine tk 10 (by assumption) ?_
                  (try simp only [aPt])
                  refine tk 11 (by assumption) ?_
                  (try simp only [aPt])
                  refine tk 12 (by assumption) ?_
                  (try simp only [aPt])
                  refine tk 13 (by assumption) ?_
                  (try simp only [aPt])
                  refine tk 14 (by assumption) ?_
                  (try simp only [aPt])
                  refine tk 15 (by assumption) ?_
                  (try simp only [aPt])
                  refine tk 16 (by assumption) ?_
                  (try simp only [aPt])
                  refine tk 17 (by assumption) ?_
                  (try simp only [aPt])
                  refine tk 18 (by assumption) ?_
                  (try simp only [aPt])
                  refine tk 19 (by assumption) ?_
                  (try simp only [aPt])
                  refine tk 20 (by assumption) ?_
                  (try simp only [aPt])
                  refine tk 21 (by assumption) ?_
                  (try simp only [aPt])
                  refine tk 22 (by assumption) ?_
                  (try simp only [aPt])
                  refine tk 23 (by assumption) ?_
                  (try simp only [aPt])
                  refine tk 24 (by assumption) ?_
                  (try simp only [aPt])
                  refine wpAnyH_done (by kernel_rfl) ?_ _
                  have hbzz := b_tr (Below.refl wb.heap.size wb).drew hbz
                  clear hHeld
                  go_wp2
                  go_meet
                  exact ⟨by rw [HZZ.out], hbzz⟩
              · obtain ⟨j, hj⟩ : ∃ j, i = j + 1 := ⟨i - 1, by omega⟩
                obtain ⟨y, hy⟩ : ∃ y, R[j]? = some y := ⟨_, List.getElem?_eq_getElem (by omega)⟩
                obtain ⟨b', o', he, hblj, hcs⟩ := Enc.rd_cell (E := eS) (HS.out.below HBW.out) rfl hy
                injection he with he
                injection he with he1 he2
                subst he1 he2
                have HYC := Lib.hid (fun (wx : World) (hx : Below wb.heap.size wb wx) => show wx.cell? ⟨b, o + j * 15, none⟩ = some (.string y.s.c) from b_cell hx (ses_cells (show World.rangeAt _ b (o + j * 15) (eS.c y) from hcs)).1)
                have HYS : Hid ((R.map (·.s))[j]? = some y.s) := Lib.hid (by rw [List.getElem?_map, hy]; rfl)
                have hi0 : decide ((0 : Int) < (i : Int)) = true := decide_eq_true (by omega)
                have hi0' : 0 < i := by omega
                have hi0'' : decide (0 < i) = true := decide_eq_true hi0'
                have hj0 : (0 : Int) ≤ (j : Int) := by omega
                have hjl : (j : Int) < (R.length : Int) := by omega
                have hw1 : IntKind.i64.wrap ((i : Int) - 1) = (j : Int) := by
                  have : (i : Int) - 1 = j := by omega
                  rw [this]; exact IntWalk.i64_in _ ⟨by omega, by omega⟩
                have HJ := Lib.hid hj
                clear hk0 hcs hy hj
                cases hls : lessB y.s.c x.s.c
                · have HZZ := Lib.hid (HN.out (fun h => by have := h.2.1 j y.s HJ.out.symm HYS.out; rw [hls] at this; cases this))
                  have hl2 : Op.bytesLess y.s.c.toList x.s.c.toList = _ := hls
                  clear hls hin hso
                  as_aux_lemma =>
                    have HSC := Lib.hid (fun (wx : World) (hx : Below wb.heap.size wb wx) => show (fun wx => wx.cell? ⟨w'.heap.size, 0, none⟩ = some (.string x.s.c) ∧ wx.cell? ⟨w'.heap.size, 1, none⟩ = some (.bool x.s.cl) ∧ wx.cell? ⟨w'.heap.size, 2, none⟩ = some (.int .i64 x.s.ln) ∧ wx.cell? ⟨w'.heap.size, 3, none⟩ = some (.slice x.sa x.s.S.length x.sc) ∧ wx.cell? ⟨w'.heap.size, 4, none⟩ = some (.int .i64 x.s.o.last) ∧ wx.cell? ⟨w'.heap.size, 5, none⟩ = some (.slice x.fa x.s.o.F.length x.fc) ∧ wx.cell? ⟨w'.heap.size, 6, none⟩ = some (.slice x.qa x.s.o.Q.length x.qc) ∧ wx.cell? ⟨w'.heap.size, 7, none⟩ = some (.slice x.ia x.s.I.length x.ic) ∧ wx.cell? ⟨w'.heap.size, 8, none⟩ = some (.bool x.s.wl.is) ∧ wx.cell? ⟨w'.heap.size, 9, none⟩ = some (.string x.s.wl.t) ∧ wx.cell? ⟨w'.heap.size, 10, none⟩ = some (.string x.s.wl.p) ∧ wx.cell? ⟨w'.heap.size, 11, none⟩ = some (.int .i64 x.s.wl.q) ∧ wx.cell? ⟨w'.heap.size, 12, none⟩ = some (.bool x.s.wl.r) ∧ wx.cell? ⟨w'.heap.size, 13, none⟩ = some (.int .i64 x.s.keep) ∧ wx.cell? ⟨w'.heap.size, 14, none⟩ = some (.int .i64 x.s.idle) ∧ wx.cell? ⟨B, 1, none⟩ = some (.slice (some ⟨b, o, none⟩) R.length sc) ∧ wx.cell? ⟨b, o + j * 15, none⟩ = some (.string y.s.c) ∧ (Instr.lookup 84 (.map (some (B + 1))) (.int .i64 x.s.ln) false).run Tryz.prog wx =   .ok (.bool false) wx ∧ Below wb.heap.size wb wx) wx from (by
                      obtain ⟨y0, y1, y2, y3, y4, y5, y6, y7, y8, y9, y10, y11, y12, y13, y14⟩ := ses_whole (HWB.out.belowH hx)
                      refine ⟨y0, y1, y2, y3, y4, y5, y6, y7, y8, y9, y10, y11, y12, y13, y14, b_cell hx d1, HYC.out wx hx, ?_, hx⟩
                      exact HLK.out wx hx))
                    refine wp_region_held_drew (S := fun wx => wx.cell? ⟨w'.heap.size, 0, none⟩ = some (.string x.s.c) ∧ wx.cell? ⟨w'.heap.size, 1, none⟩ = some (.bool x.s.cl) ∧ wx.cell? ⟨w'.heap.size, 2, none⟩ = some (.int .i64 x.s.ln) ∧ wx.cell? ⟨w'.heap.size, 3, none⟩ = some (.slice x.sa x.s.S.length x.sc) ∧ wx.cell? ⟨w'.heap.size, 4, none⟩ = some (.int .i64 x.s.o.last) ∧ wx.cell? ⟨w'.heap.size, 5, none⟩ = some (.slice x.fa x.s.o.F.length x.fc) ∧ wx.cell? ⟨w'.heap.size, 6, none⟩ = some (.slice x.qa x.s.o.Q.length x.qc) ∧ wx.cell? ⟨w'.heap.size, 7, none⟩ = some (.slice x.ia x.s.I.length x.ic) ∧ wx.cell? ⟨w'.heap.size, 8, none⟩ = some (.bool x.s.wl.is) ∧ wx.cell? ⟨w'.heap.size, 9, none⟩ = some (.string x.s.wl.t) ∧ wx.cell? ⟨w'.heap.size, 10, none⟩ = some (.string x.s.wl.p) ∧ wx.cell? ⟨w'.heap.size, 11, none⟩ = some (.int .i64 x.s.wl.q) ∧ wx.cell? ⟨w'.heap.size, 12, none⟩ = some (.bool x.s.wl.r) ∧ wx.cell? ⟨w'.heap.size, 13, none⟩ = some (.int .i64 x.s.keep) ∧ wx.cell? ⟨w'.heap.size, 14, none⟩ = some (.int .i64 x.s.idle) ∧ wx.cell? ⟨B, 1, none⟩ = some (.slice (some ⟨b, o, none⟩) R.length sc) ∧ wx.cell? ⟨b, o + j * 15, none⟩ = some (.string y.s.c) ∧ (Instr.lookup 84 (.map (some (B + 1))) (.int .i64 x.s.ln) false).run Tryz.prog wx =   .ok (.bool false) wx ∧ Below wb.heap.size wb wx) (by kernel_rfl) (HSC.out _ (Below.refl wb.heap.size wb).drew) (fun hHeld => ?_)
                    refine tk 0 (by assumption) ?_
                    (try simp only [aPt])
                    refine wpAnyH_ready (rs := [1]) (by kernel_rfl) (by simp) ?_
                    refine call_h 1 ⟨?_, ?_, fun K hK => ?_⟩
                    rotate_left 1
                    · (simp only [List.getElem?_toArray, List.getElem?_cons_succ, List.getElem?_cons_zero]; exact rfl)
                    go_simp
                    (go_at_call 42; refine (HSA.out _ (Below.refl wb.heap.size wb).drew).mono ?_; rintro e wz ⟨rfl, hbz⟩)
                    go_wp2_with fail
                    refine hK.out _ _ (HSC.out _ (b_tr (Below.refl wb.heap.size wb).drew hbz)) (fun hHeld => ?_)
                    clear hK K
                    (try simp only [aPt])
                    refine tk 2 (by assumption) ?_
                    (try simp only [aPt])
                    refine tk 3 (by assumption) ?_
                    (try simp only [aPt])
                    refine tk 4 (by assumption) ?_
                    (try simp only [aPt])
                    refine tk 5 (by assumption) ?_
                    (try simp only [aPt])
                    refine tk 6 (by assumption) ?_
                    (try simp only [aPt])
                    refine tk 7 (by assumption) ?_
                    (try simp only [aPt])
                    refine tk 8 (by assumption) ?_
                    (try simp only [aPt])
                    refine tk 9 (by assumption) ?_
                    (try simp only [aPt])
                    refine tk 10 (by assumption) ?_
                    (try simp only [aPt])
                    refine tk 11 (by assumption) ?_
                    (try simp only [aPt])
                    refine tk 12 (by assumption) ?_
                    (try simp only [aPt])
                    refine tk 13 (by assumption) ?_
                    (try simp only [aPt])
                    refine tk 14 (by assumption) ?_
                    (try simp only [aPt])
                    refine tk 15 (by assumption) ?_
                    (try simp only [aPt])
                    refine tk 16 (by assumption) ?_
                    (try simp only [aPt])
                    refine tk 17 (by assumption) ?_
                    (try simp only [aPt])
                    refine tk 18 (by assumption) ?_
                    (try simp only [aPt])
                    refine tk 19 (by assumption) ?_
                    (try simp only [aPt])
                    refine tk 20 (by assumption) ?_
                    (try simp only [aPt])
                    refine tk 21 (by assumption) ?_
                    (try simp only [aPt])
                    refine tk 22 (by assumption) ?_
                    (try simp only [aPt])
                    refine tk 23 (by assumption) ?_
                    (try simp only [aPt])
                    refine tk 24 (by assumption) ?_
                    (try simp only [aPt])
                    refine wpAnyH_done (by kernel_rfl) ?_ _
                    have hbzz := b_tr (Below.refl wb.heap.size wb).drew hbz
                    clear hHeld
                    go_wp2
                    go_meet
                    exact ⟨by rw [HZZ.out], hbzz⟩
                · have HZZ := Lib.hid (HY.out ⟨hso, fun j' y' hj' hy' => by
                    obtain rfl : j' = j := by have := HJ.out; omega
                    rw [HYS.out] at hy'
                    injection hy' with hy'
                    rw [← hy']
                    exact hls, hin⟩)
                  have hl2 : Op.bytesLess y.s.c.toList x.s.c.toList = _ := hls
                  clear hls hin hso
                  as_aux_lemma =>
                    have HSC := Lib.hid (fun (wx : World) (hx : Below wb.heap.size wb wx) => show (fun wx => wx.cell? ⟨w'.heap.size, 0, none⟩ = some (.string x.s.c) ∧ wx.cell? ⟨w'.heap.size, 1, none⟩ = some (.bool x.s.cl) ∧ wx.cell? ⟨w'.heap.size, 2, none⟩ = some (.int .i64 x.s.ln) ∧ wx.cell? ⟨w'.heap.size, 3, none⟩ = some (.slice x.sa x.s.S.length x.sc) ∧ wx.cell? ⟨w'.heap.size, 4, none⟩ = some (.int .i64 x.s.o.last) ∧ wx.cell? ⟨w'.heap.size, 5, none⟩ = some (.slice x.fa x.s.o.F.length x.fc) ∧ wx.cell? ⟨w'.heap.size, 6, none⟩ = some (.slice x.qa x.s.o.Q.length x.qc) ∧ wx.cell? ⟨w'.heap.size, 7, none⟩ = some (.slice x.ia x.s.I.length x.ic) ∧ wx.cell? ⟨w'.heap.size, 8, none⟩ = some (.bool x.s.wl.is) ∧ wx.cell? ⟨w'.heap.size, 9, none⟩ = some (.string x.s.wl.t) ∧ wx.cell? ⟨w'.heap.size, 10, none⟩ = some (.string x.s.wl.p) ∧ wx.cell? ⟨w'.heap.size, 11, none⟩ = some (.int .i64 x.s.wl.q) ∧ wx.cell? ⟨w'.heap.size, 12, none⟩ = some (.bool x.s.wl.r) ∧ wx.cell? ⟨w'.heap.size, 13, none⟩ = some (.int .i64 x.s.keep) ∧ wx.cell? ⟨w'.heap.size, 14, none⟩ = some (.int .i64 x.s.idle) ∧ wx.cell? ⟨B, 1, none⟩ = some (.slice (some ⟨b, o, none⟩) R.length sc) ∧ wx.cell? ⟨b, o + j * 15, none⟩ = some (.string y.s.c) ∧ (Instr.lookup 84 (.map (some (B + 1))) (.int .i64 x.s.ln) false).run Tryz.prog wx =   .ok (.bool false) wx ∧ Below wb.heap.size wb wx) wx from (by
                      obtain ⟨y0, y1, y2, y3, y4, y5, y6, y7, y8, y9, y10, y11, y12, y13, y14⟩ := ses_whole (HWB.out.belowH hx)
                      refine ⟨y0, y1, y2, y3, y4, y5, y6, y7, y8, y9, y10, y11, y12, y13, y14, b_cell hx d1, HYC.out wx hx, ?_, hx⟩
                      exact HLK.out wx hx))
                    refine wp_region_held_drew (S := fun wx => wx.cell? ⟨w'.heap.size, 0, none⟩ = some (.string x.s.c) ∧ wx.cell? ⟨w'.heap.size, 1, none⟩ = some (.bool x.s.cl) ∧ wx.cell? ⟨w'.heap.size, 2, none⟩ = some (.int .i64 x.s.ln) ∧ wx.cell? ⟨w'.heap.size, 3, none⟩ = some (.slice x.sa x.s.S.length x.sc) ∧ wx.cell? ⟨w'.heap.size, 4, none⟩ = some (.int .i64 x.s.o.last) ∧ wx.cell? ⟨w'.heap.size, 5, none⟩ = some (.slice x.fa x.s.o.F.length x.fc) ∧ wx.cell? ⟨w'.heap.size, 6, none⟩ = some (.slice x.qa x.s.o.Q.length x.qc) ∧ wx.cell? ⟨w'.heap.size, 7, none⟩ = some (.slice x.ia x.s.I.length x.ic) ∧ wx.cell? ⟨w'.heap.size, 8, none⟩ = some (.bool x.s.wl.is) ∧ wx.cell? ⟨w'.heap.size, 9, none⟩ = some (.string x.s.wl.t) ∧ wx.cell? ⟨w'.heap.size, 10, none⟩ = some (.string x.s.wl.p) ∧ wx.cell? ⟨w'.heap.size, 11, none⟩ = some (.int .i64 x.s.wl.q) ∧ wx.cell? ⟨w'.heap.size, 12, none⟩ = some (.bool x.s.wl.r) ∧ wx.cell? ⟨w'.heap.size, 13, none⟩ = some (.int .i64 x.s.keep) ∧ wx.cell? ⟨w'.heap.size, 14, none⟩ = some (.int .i64 x.s.idle) ∧ wx.cell? ⟨B, 1, none⟩ = some (.slice (some ⟨b, o, none⟩) R.length sc) ∧ wx.cell? ⟨b, o + j * 15, none⟩ = some (.string y.s.c) ∧ (Instr.lookup 84 (.map (some (B + 1))) (.int .i64 x.s.ln) false).run Tryz.prog wx =   .ok (.bool false) wx ∧ Below wb.heap.size wb wx) (by kernel_rfl) (HSC.out _ (Below.refl wb.heap.size wb).drew) (fun hHeld => ?_)
                    refine tk 0 (by assumption) ?_
                    (try simp only [aPt])
                    refine wpAnyH_ready (rs := [1]) (by kernel_rfl) (by simp) ?_
                    refine call_h 1 ⟨?_, ?_, fun K hK => ?_⟩
                    rotate_left 1
                    · (simp only [List.getElem?_toArray, List.getElem?_cons_succ, List.getElem?_cons_zero]; exact rfl)
                    go_simp
                    (go_at_call 42; refine (HSA.out _ (Below.refl wb.heap.size wb).drew).mono ?_; rintro e wz ⟨rfl, hbz⟩)
                    go_wp2_with fail
                    refine hK.out _ _ (HSC.out _ (b_tr (Below.refl wb.heap.size wb).drew hbz)) (fun hHeld => ?_)
                    clear hK K
                    (try simp only [aPt])
                    refine tk 2 (by assumption) ?_
                    (try simp only [aPt])
                    refine tk 3 (by assumption) ?_
                    (try simp only [aPt])
                    refine tk 4 (by assumption) ?_
                    (try simp only [aPt])
                    refine tk 5 (by assumption) ?_
                    (try simp only [aPt])
                    refine tk 6 (by assumption) ?_
                    (try simp only [aPt])
                    refine tk 7 (by assumption) ?_
                    (try simp only [aPt])
                    refine tk 8 (by assumption) ?_
                    (try simp only [aPt])
                    refine tk 9 (by assumption) ?_
                    (try simp only [aPt])
                    refine tk 10 (by assumption) ?_
                    (try simp only [aPt])
                    refine tk 11 (by assumption) ?_
                    (try simp only [aPt])
                    refine tk 12 (by assumption) ?_
                    (try simp only [aPt])
                    refine tk 13 (by assumption) ?_
                    (try simp only [aPt])
                    refine tk 14 (by assumption) ?_
                    (try simp only [aPt])
                    refine tk 15 (by assumption) ?_
                    (try simp only [aPt])
                    refine tk 16 (by assumption) ?_
                    (try simp only [aPt])
                    refine tk 17 (by assumption) ?_
                    (try simp only [aPt])
                    refine tk 18 (by assumption) ?_
                    (try simp only [aPt])
                    refine tk 19 (by assumption) ?_
                    (try simp only [aPt])
                    refine tk 20 (by assumption) ?_
                    (try simp only [aPt])
                    refine tk 21 (by assumption) ?_
                    (try simp only [aPt])
                    refine tk 22 (by assumption) ?_
                    (try simp only [aPt])
                    refine tk 23 (by assumption) ?_
                    (try simp only [aPt])
                    refine tk 24 (by assumption) ?_
                    (try simp only [aPt])
                    refine wpAnyH_done (by kernel_rfl) ?_ _
                    have hbzz := b_tr (Below.refl wb.heap.size wb).drew hbz
                    clear hHeld
                    go_wp2
                    go_meet
                    exact ⟨by rw [HZZ.out], hbzz⟩
        case rest =>
          obtain ⟨rfl, hcw⟩ := hcut
          clear d1 x0 x1 x2 x3 x4 x5 x6 x7 x8 x9 x10 x11 x12 x13 x14
          have hWc := HWB.out.belowH hcw
          obtain ⟨x0, x1, x2, x3, x4, x5, x6, x7, x8, x9, x10, x11, x12, x13, x14⟩ := ses_whole hWc
          clear x0 x1 x3 x4 x5 x6 x7 x8 x9 x10 x11 x12 x13 x14
          have hbw : Below B w wc := HBW.out.trans (hcw.mono (Nat.le_trans hzB HB2.out.size))
          have HMC : Hid (IMap wc (B + 1) (mapL (seenK L (R.map (·.s)) i))) := Lib.hid (HMB.out.keep (hcw.block _ HMB.out.lt))
          have HWC : Hid (Whole wc B 26 [.slice la L.length lc, .slice (some ⟨b, o, none⟩) R.length sc, .slice ka K.length kc]) := Lib.hid ((HW.out.belowH HB2.out).belowH hcw)
          clear hWc hcw
          cases z
          · have hsa : sesAt L (R.map (·.s)) i x.s := yes_iff.1 (by have := HZ.out; cases h : yes (sesAt L (R.map (·.s)) i x.s) <;> simp [h] at this ⊢)
            have HPR : Hid (∀ k s, k < i + 1 → (R.map (·.s))[k]? = some s → sesAt L (R.map (·.s)) k s) := Lib.hid (fun k s hk hs => by
              by_cases e : k = i
              · subst e
                rw [HXS.out] at hs
                injection hs with hs
                subst hs
                exact hsa
              · exact HP.out.2.2.2 k s (by omega) hs)
            have hnext := seenK_succ (L := L) HXS.out
            by_cases hln : 0 < x.s.ln
            · rw [if_pos hln] at hnext
              obtain ⟨w2, hrun2, hl2, hc2⟩ := run_update_imap (P := Tryz.prog) (w := wc) (t := 84) HMC.out Tryz.underlying84 Tryz.underlying3 x.s.ln (.bool true)
              have HM2 : Hid (IMap w2 (B + 1) (mapL (seenK L (R.map (·.s)) (i + 1)))) := Lib.hid (by
                rcases hc2 with ⟨_, hc⟩ | ⟨j, v0, hj, _⟩
                · rw [hnext]
                  rw [mapL_app] at hc
                  exact hc
                · exact absurd rfl (look_none (mapL_not hsa.2.2) _ (List.mem_of_getElem? hj)))
              have HW2 : Hid (BM w w2 B (B + 1) (.slice la L.length lc) (.slice (some ⟨b, o, none⟩) R.length sc) (.slice ka K.length kc)) := Lib.hid ⟨hbw.trans (hl2.belowB (by have := HWC.out.lt; omega) (by simp)), HWC.out.left hl2 (by simp), rfl⟩
              clear hsa hnext hl2 hc2
              go_wp2
              go_step3
              exact ⟨Or.inr (Or.inl ⟨rfl, i + 1, by simp; omega, HW2.out, HM2.out, Lib.hid ⟨HP.out.1, HP.out.2.1, HP.out.2.2.1, HPR.out⟩, frm_any (by go_num)⟩), by simp [intOf]; omega⟩
            · rw [if_neg hln, List.append_nil] at hnext
              have HM2 : Hid (IMap wc (B + 1) (mapL (seenK L (R.map (·.s)) (i + 1)))) := Lib.hid (by rw [hnext]; exact HMC.out)
              have HW2 : Hid (BM w wc B (B + 1) (.slice la L.length lc) (.slice (some ⟨b, o, none⟩) R.length sc) (.slice ka K.length kc)) := Lib.hid ⟨hbw, HWC.out, rfl⟩
              clear hsa hnext
              go_wp2
              go_step3
              exact ⟨Or.inr (Or.inl ⟨rfl, i + 1, by simp; omega, HW2.out, HM2.out, Lib.hid ⟨HP.out.1, HP.out.2.1, HP.out.2.2.1, HPR.out⟩, frm_any (by go_num)⟩), by simp [intOf]; omega⟩
          · have HX : Hid (yes (broOk ⟨L, R.map (·.s), K⟩) = false) := Lib.hid (yes_false (fun h => by
              have h1 := HZ.out
              rw [yes_true (h.2.2.2.1 i x.s HXS.out)] at h1
              cases h1))
            go_wp2
            go_step3
            exact ⟨Or.inr (Or.inr ⟨rfl, hbw, HX, frm_any rfl⟩), by simp [intOf]; omega⟩
      · have hil : i = R.length := by simp at hi; omega
        have HE1 : Hid (yes (broOk ⟨L, R.map (·.s), K⟩) = decide ((seenK L (R.map (·.s)) i).length ≤ 8)) := Lib.hid (by
          have hlen : i = (R.map (·.s)).length := by simp; omega
          by_cases h8 : (seenK L (R.map (·.s)) i).length ≤ 8
          · rw [decide_eq_true h8]
            exact yes_true ⟨HP.out.1, HP.out.2.1, HP.out.2.2.1, fun k s hs => HP.out.2.2.2 k s (by have h9 := (List.getElem?_eq_some_iff.1 hs).1; simp only at h9; omega) hs, by simp only; rw [← hlen]; exact h8⟩
          · rw [decide_eq_false h8]
            exact yes_false (fun h => h8 (by have := h.2.2.2.2; simp only at this; rw [← hlen] at this; exact this)))
        have hml := run_maplen (P := Tryz.prog) (w := w') (t := 84) HM.out Tryz.underlying84
        have hmll : (mapL (seenK L (R.map (·.s)) i)).length = (seenK L (R.map (·.s)) i).length := by simp [mapL]
        rw [hmll] at hml
        obtain ⟨nn, hnn⟩ : ∃ nn, (seenK L (R.map (·.s)) i).length = nn := ⟨_, rfl⟩
        rw [hnn] at hml HE1
        have hdd : Hid (decide ((nn : Int) ≤ 8) = decide (nn ≤ 8)) := Lib.hid (by rw [Bool.eq_iff_iff]; simp; omega)
        have hlt' : ¬ ((i : Int) < (R.length : Int)) := by omega
        clear hnn hmll hil hlt
        go_wp2
        simp only [exitJumps]
        go_ret
        exact ⟨by rw [HE1.out, ← hdd.out]; rfl, HBB.out⟩
    · refine ⟨_, rfl, ?_⟩
      go_wp2
      simp only [exitJumps]
      go_ret
      exact ⟨by rw [HX.out]; rfl, hb⟩
  · as_aux_lemma =>
    intro hgo
    have HGO := Lib.hid hgo
    clear hgo
    have hrun := @run_makeMap Tryz.prog
    have hba : Below B w ((w.alloc (.cells #[.slice la L.length lc, .slice sa R.length sc, .slice ka K.length kc] 26)).alloc (.map #[] 0)) := by rw [← hB]; go_grown
    have hWa : Whole ((w.alloc (.cells #[.slice la L.length lc, .slice sa R.length sc, .slice ka K.length kc] 26)).alloc (.map #[] 0)) B 26 [.slice la L.length lc, .slice sa R.length sc, .slice ka K.length kc] := by
      have := (Whole.new w 26 [.slice la L.length lc, .slice sa R.length sc, .slice ka K.length kc]).alloc (.map #[] 0)
      rw [hB] at this
      exact this
    have hMa : IMap ((w.alloc (.cells #[.slice la L.length lc, .slice sa R.length sc, .slice ka K.length kc] 26)).alloc (.map #[] 0)) (B + 1) [] := by
      have := IMap.new (w.alloc (.cells #[.slice la L.length lc, .slice sa R.length sc, .slice ka K.length kc] 26))
      simpa [hB] using this
    go_upto_region 3 with fail
    generalize ((w.alloc (.cells #[.slice la L.length lc, .slice sa R.length sc, .slice ka K.length kc] 26)).alloc (.map #[] 0)) = wa at hba hWa hMa ⊢
    obtain ⟨c0, c1, c2, _, _, _⟩ := hWa.three
    have hza := hba.size
    have HKM := Lib.hid (Kq.pMay_any wa (.slice ka K.length kc) (K.map k1) (by rw [k1_cells, List.length_map]; exact (HK.out.below hba).more (by rw [hB] at hza; exact hza)) (fun i x hi => by
      rw [List.getElem?_map] at hi
      obtain ⟨m, hm, rfl⟩ := Option.map_eq_some_iff.1 hi
      exact HSK.out m (List.mem_of_getElem? hm)) (HE.out.below (by rw [hB]; exact hba)))
    have HBA := Lib.hid hba
    have HWA := Lib.hid hWa
    have HMA := Lib.hid hMa
    clear hba hWa hMa hza
    by_cases h8 : 8 < R.length
    · have h8' : (8 : Int) < (R.length : Int) := by omega
      have HX : Hid (yes (broOk ⟨L, R.map (·.s), K⟩) = false) := Lib.hid (yes_false (fun h => by have := h.1; simp at this; omega))
      clear h8
      go_wp2
      go_step3
      exact Or.inr (Or.inr ⟨rfl, HBA.out, HX, frm_any rfl⟩)
    · have h8' : ¬ ((8 : Int) < (R.length : Int)) := by omega
      have H8 : Hid ((R.map (·.s)).length ≤ 8) := Lib.hid (by simp; omega)
      clear h8
      cases hk : Kq.subsB (K.map k1)
      · rw [hk] at HKM
        have HX : Hid (yes (broOk ⟨L, R.map (·.s), K⟩) = false) := Lib.hid (yes_false (fun h => by have := h.2.1; simp only at this; rw [hk] at this; cases this))
        clear hk
        go_wp2_with (go_at_call 40; refine HKM.out.mono ?_; rintro e wz ⟨rfl, hbz⟩; have hbb : Below B w wz := HBA.out.trans (hbz.mono (by have := HBA.out.size; rw [HB.out] at this; exact this)))
        go_step3
        exact Or.inr (Or.inr ⟨rfl, hbb, HX, frm_any rfl⟩)
      · rw [hk] at HKM
        have HKK := Lib.hid hk
        clear hk
        go_wp2_with (go_at_call 40; refine HKM.out.mono ?_; rintro e wz ⟨rfl, hbz⟩; have hbb : Below B w wz := HBA.out.trans (hbz.mono (by have := HBA.out.size; rw [HB.out] at this; exact this)); have HBZ := Lib.hid hbz; clear hbz)
        go_step3
        refine (by assumption : ∀ (a : Act) (w : World), Code.wp _ _ _ a w → _) _ _ ?_
        refine HGO.out _ _ _ rfl (Or.inl ⟨by trivial, 0, by omega, ⟨hbb, HWA.out.belowH HBZ.out, rfl⟩, ?_, Lib.hid ⟨H8.out, HKK.out, fun k x hk => by omega⟩, frm_any rfl⟩)
        exact HMA.out.keep (HBZ.out.block _ HMA.out.lt)
end Go.Proofs.YtknnaeejkmlnbaaGreatDoor
