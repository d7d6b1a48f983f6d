/- The page's disk: Complete. -/


import Derived.Test.YtbhoiibcfibmhaaDpPg
namespace Go.Proofs.Ytbhoiibcfibmhaa
open Go.RowKit Go.MapKept
theorem info_boolD : (Try.prog.info? 4).map (fun i => (i.zero, i.size, i.bytes)) = some (some (.bool false), 1, 1) := by kernel_rfl
def cutAt {α : Type} (L : List α) (k i : Nat) : List α := (L.take i).eraseIdx k
section
variable {α : Type} {L : List α} {k i : Nat} {q : α}
theorem cutAt_zero : cutAt L k 0 = [] := by simp [cutAt]
theorem cutAt_end : cutAt L k L.length = L.eraseIdx k := by rw [cutAt, List.take_of_length_le (Nat.le_refl _)]
theorem cutAt_le : (cutAt L k i).length ≤ i := by
  have h1 := List.length_eraseIdx_le (L.take i) k
  have h2 := List.length_take_le i L
  unfold cutAt
  omega
theorem cutAt_at (h : L[i]? = some q) (he : i = k) : cutAt L k (i + 1) = cutAt L k i := by
  subst he
  obtain ⟨hi, _⟩ := List.getElem?_eq_some_iff.1 h
  unfold cutAt
  have hl : (L.take i).length = i := by rw [List.length_take]; omega
  rw [take_snoc_at h, List.eraseIdx_append_of_length_le (by omega), hl, Nat.sub_self, List.eraseIdx_of_length_le (l := L.take i) (by omega)]
  simp
theorem cutAt_ne (h : L[i]? = some q) (he : i ≠ k) : cutAt L k (i + 1) = cutAt L k i ++ [q] := by
  obtain ⟨hi, _⟩ := List.getElem?_eq_some_iff.1 h
  unfold cutAt
  have hl : (L.take i).length = i := by rw [List.length_take]; omega
  rw [take_snoc_at h]
  by_cases hk : k < i
  · rw [List.eraseIdx_append_of_lt_length (by omega)]
  · rw [List.eraseIdx_of_length_le (by simp; omega), List.eraseIdx_of_length_le (by omega)]
end
theorem own_sec {w : World} {base g len cap n : Nat} {B : List UInt8} (h : w.ownsRow base 5 1 (.slice (some ⟨g, 0, none⟩) len cap) len (u8s B)) (hn : 64 * n + 64 ≤ len) (hcap : len ≤ cap) (hcm : cap ≤ maxLen) : Rd w w.heap.size 1 (oldV g cap n) 64 (u8s (secN B n)) := by
  have hB : B.length = len := by have := h.1; rw [u8s_length] at this; omega
  have hl : (secN B n).length = 64 := secN_length (by omega)
  refine ⟨by rw [u8s_length, hl], _, _, rfl, by omega, by unfold maxLen at hcm ⊢; omega, (fun e => by cases e), fun _ => ⟨g, 64 * n, rfl, (h.lt g rfl).2, fun j u hu => ?_⟩⟩
  have hj : j < 64 := by have := (List.getElem?_eq_some_iff.1 hu).1; rw [u8s_length, hl] at this; exact this
  have h1 := h.cellAt (64 * n + j) (by rw [Nat.mul_one]; omega)
  rw [h1, ← hu]
  unfold u8s
  rw [List.getElem?_map, List.getElem?_map, secN_at j hj]
section
variable {w w' : World} {base P : Nat} {F S : List Nat} {kv nv fv wv : Value} {Qv : List RV} {s s' : DS}
def CompQ (w : World) (base P : Nat) (F : List Nat) (A : Int × List UInt8 × Int × DS) (e : Ending) (w' : World) : Prop :=
  ∃ v, e = .returned (.tuple #[.int .i64 A.1, v, .int .i64 A.2.2.1]) ∧ w'.ownsRow w.heap.size 5 1 v A.2.1.length (u8s A.2.1) ∧ ∃ F', PgG w' base P F' A.2.2.2 ∧ Left F w w' ∧ (∀ k ∈ F', k ∈ F ∨ w.heap.size ≤ k) ∧ ∀ k, v.ownBlock = some k → k ∉ F'
set_option maxRecDepth 20000 in
set_option maxHeartbeats 4000000 in
theorem rComplete_g (h : PgG w base P F s) (hz : base ≤ w.heap.size) (k : Int) :
    Calls Try.prog 21 #[.pointer (some ⟨P, 0, none⟩), .int .i64 k] w (CompQ w base P F (compS s k)) := by
  obtain ⟨kv, nv, fv, wv, Qv, h⟩ := h
  obtain ⟨A, hA⟩ : ∃ A, compS s k = A := ⟨_, rfl⟩
  rw [hA]
  have HCALL := Lib.hid (off_at h)
  have HA := Lib.hid hA
  have hPF := h.blk.1
  have HFLT := Lib.hid (fun x (hx : x ∈ F) => (h.lt x hx).2)
  have k1 := callS_K (s := s)
  clear h hA
  go_enter Try.func21, Try.ntmps21
  go_wp2_with fail
  refine HCALL.out.mono ?_
  rintro e w1 ⟨rfl, hD1, hl1⟩
  have hA := HA.out
  unfold compS at hA
  cases hs1 : callS s with
  | mk K1 W1 Q1 last off lft armed =>
  rw [hs1] at hA hD1 k1
  dsimp only at hA k1
  obtain ⟨rfl, rfl, rfl, _, _⟩ := k1
  have HD1 := Lib.hid hD1
  have HL1 := Lib.hid hl1
  have hz1 := hl1.size
  clear hs1
  cases off
  · rw [if_neg (by decide)] at hA
    obtain ⟨wo, wc, rfl, hwc, hwm⟩ := (Rd.of_own hD1.waits).form
    have hql : s.Q.length = Qv.length := by rw [← hD1.qval]; simp
    have hroom := hD1.room
    have c3 : w1.cell? ⟨P, 3, none⟩ = some (.slice wo Qv.length wc) := by rw [hD1.head.cell]; rfl
    have hwm2 : wc ≤ 9223372036854775807 := by unfold maxLen at hwm; omega
    rw [hql] at hA
    by_cases hk0 : k < 0
    · rw [if_pos (.inl hk0)] at hA
      have HR2 := Lib.hid hA
      clear hD1 hl1 hA hwm hql
      go_wp2
      go_ret3
      rw [← HR2.out]
      exact ⟨.slice none 0 0, rfl, World.ownsRow_nil _ _ _ _, F, ⟨_, _, _, _, _, HD1.out⟩, HL1.out.mono (by simpa using hPF), fun k hk => .inl hk, fun k hk => by cases hk⟩
    · by_cases hk1 : (Qv.length : Int) ≤ k
      · rw [if_pos (.inr hk1)] at hA
        have HR2 := Lib.hid hA
        clear hD1 hl1 hA hwm hql
        go_wp2
        go_ret3
        rw [← HR2.out]
        exact ⟨.slice none 0 0, rfl, World.ownsRow_nil _ _ _ _, F, ⟨_, _, _, _, _, HD1.out⟩, HL1.out.mono (by simpa using hPF), fun k hk => .inl hk, fun k hk => by cases hk⟩
      · rw [if_neg (by omega)] at hA
        obtain ⟨j, rfl⟩ : ∃ j : Nat, k = j := ⟨k.toNat, by omega⟩
        rw [Int.toNat_natCast] at hA
        obtain ⟨q, hq⟩ : ∃ q, Qv[j]? = some q := ⟨_, List.getElem?_eq_getElem (by omega)⟩
        have hqs : s.Q[j]? = some q.1 := by rw [← hD1.qval, List.getElem?_map, hq]; rfl
        rw [hqs] at hA
        obtain ⟨g, cap', hwv, hBg, hgl, _, _⟩ := own_form hD1.waits (by omega)
        injection hwv with e1 e2 e3
        subst e1 e3
        obtain ⟨x1, x2, x3, x4⟩ := wCells_at Qv j q hq
        have y0 : w1.cell? ⟨g, j * 4, none⟩ = some (.int .i64 q.1.id) := (hD1.waits.cellAt (j * 4) (by omega)).trans x1
        have y1 : w1.cell? ⟨g, j * 4 + 1, none⟩ = some (.int .i64 q.1.kind) := (hD1.waits.cellAt (j * 4 + 1) (by omega)).trans x2
        have y2 : w1.cell? ⟨g, j * 4 + 2, none⟩ = some (.int .i64 q.1.n) := (hD1.waits.cellAt (j * 4 + 2) (by omega)).trans x3
        have y3 : w1.cell? ⟨g, j * 4 + 3, none⟩ = some q.2 := (hD1.waits.cellAt (j * 4 + 3) (by omega)).trans x4
        obtain ⟨ho, hok, hqb⟩ := hD1.reqs q (List.mem_of_getElem? hq)
        obtain ⟨bo, bc, hbv, _, _⟩ := (Rd.of_own ho).form
        rw [hbv] at y3
        have HOO := Lib.hid ho
        have HA2 := Lib.hid hA
        have HOK := Lib.hid hok
        have HQB := Lib.hid hqb
        have HBV := Lib.hid hbv
        have HHQ := Lib.hid hq
        have hjl : j < Qv.length := by omega
        obtain ⟨⟨id, kind, n, b⟩, qv⟩ := q
        dsimp only at y0 y1 y2 y3
        clear hA hD1 hl1 hwm hql x1 x2 x3 x4 ho hok hqb hbv hq hqs
        have hb0 : decide (((j : Nat) : Int) < 0) = false := decide_eq_false (by omega)
        have hb1 : decide (Qv.length ≤ j) = false := decide_eq_false (by omega)
        go_upto_region 6 with fail
        obtain ⟨w2, hw2⟩ : ∃ w2, w2 = w1.alloc (.cells #[.int .i64 id, .int .i64 kind, .int .i64 n, .slice bo b.length bc] 84) := ⟨_, rfl⟩
        have hl2 : Left [] w1 w2 := hw2 ▸ (Left.refl [] w1).alloc _
        have hB2 : Whole w2 w1.heap.size 84 [.int .i64 id, .int .i64 kind, .int .i64 n, .slice bo b.length bc] := hw2 ▸ Whole.new w1 84 [.int .i64 id, .int .i64 kind, .int .i64 n, .slice bo b.length bc]
        have hz2' : w2.heap.size = w1.heap.size + 1 := by rw [hw2]; simp
        rw [← hw2]
        have hD2 := HD1.out.left hl2 (by simp)
        have hz2 := hl2.size
        have HD2 := Lib.hid hD2
        have HB2 := Lib.hid hB2
        have HO2 : Hid (w2.ownsRow base 5 1 (.slice bo b.length bc) b.length (u8s b)) := Lib.hid (by have := own_leftB HOO.out hl2 (by simp); rw [HBV.out] at this; exact this)
        have d3 : w2.cell? ⟨P, 3, none⟩ = some (.slice (some ⟨g, 0, none⟩) Qv.length wc) := by rw [hD2.head.cell]; rfl
        have hFb : w1.heap.size ∉ F := fun hm => by have := HD1.out.lt _ hm; omega
        have HL2 := Lib.hid ((HL1.out.mono (T := F) (by simpa using hPF)).trans (hl2.mono (T := F) (by simp)) (fun x hx => .inl hx))
        have HZ2 := Lib.hid hz2'
        clear hw2 hl2 hB2 hD2 y0 y1 y2 y3 c3 hz2'
        go_wp2
        go_loopw [8, 9] (fun v i wr => ∃ m : Nat, i = .int .i64 m ∧ m ≤ Qv.length ∧ Hid (wr.ownsRow w2.heap.size 84 4 v (cutAt Qv j m).length (wCells (cutAt Qv j m))) ∧ Hid (Below w2.heap.size w2 wr)) (fun _ i _ => Qv.length - (intOf i).toNat)
        case atStart => exact ⟨0, rfl, Nat.zero_le _, Lib.hid (by rw [cutAt_zero]; exact World.ownsRow_nil _ _ _ _), Lib.hid (Below.refl _ _)⟩
        case round =>
          obtain ⟨m, rfl, hm, HO, HB⟩ := hrel
          have hDr := HD2.out.left (Left.of_below HB.out []) (by simp)
          have dr := cell_left' d3 (Left.of_below HB.out []) (by simp)
          have hzr := HB.out.size
          by_cases hlt : m < Qv.length
          · obtain ⟨x, hx⟩ : ∃ x, Qv[m]? = some x := ⟨_, List.getElem?_eq_getElem hlt⟩
            by_cases hmj : m = j
            · have HS := Lib.hid (cutAt_at (k := j) hx hmj)
              subst hmj
              rw [← HS.out] at HO
              clear hDr hx
              go_wp2
              go_roundw
              case rel => exact ⟨m + 1, by go_num, by omega, HO, HB⟩
              case measure => simp [intOf]; omega
            · have HS := Lib.hid (cutAt_ne (k := j) hx hmj)
              have hne : (((m : Nat) : Int) != ((j : Nat) : Int)) = true := by simp; omega
              obtain ⟨x1, x2, x3, x4⟩ := wCells_at Qv m x hx
              have y0 : wr.cell? ⟨g, m * 4, none⟩ = some (.int .i64 x.1.id) := (hDr.waits.cellAt (m * 4) (by omega)).trans x1
              have y1 : wr.cell? ⟨g, m * 4 + 1, none⟩ = some (.int .i64 x.1.kind) := (hDr.waits.cellAt (m * 4 + 1) (by omega)).trans x2
              have y2 : wr.cell? ⟨g, m * 4 + 2, none⟩ = some (.int .i64 x.1.n) := (hDr.waits.cellAt (m * 4 + 2) (by omega)).trans x3
              have y3 : wr.cell? ⟨g, m * 4 + 3, none⟩ = some x.2 := (hDr.waits.cellAt (m * 4 + 3) (by omega)).trans x4
              obtain ⟨ho, _, _⟩ := hDr.reqs x (List.mem_of_getElem? hx)
              obtain ⟨xo, xc, hxv, _, _⟩ := (Rd.of_own ho).form
              rw [hxv] at y3
              obtain ⟨⟨xid, xkind, xn, xb⟩, xv⟩ := x
              dsimp only at y0 y1 y2 y3 hxv
              subst hxv
              obtain ⟨Z, hZ⟩ : ∃ Z, cutAt Qv j m = Z := ⟨_, rfl⟩
              have hZl : Z.length ≤ m := hZ ▸ cutAt_le
              rw [hZ] at HO HS
              obtain ⟨zl, hzl⟩ : ∃ zl, Z.length = zl := ⟨_, rfl⟩
              rw [hzl] at HO hZl
              have HZL := Lib.hid hzl
              clear hDr hx x1 x2 x3 x4 ho hZ hmj hzl
              go_wp2_with (at_builtin; refine wpList_app _ rfl (.tmp 42) (.tmp 50) 79 rfl w2.heap.size 84 wZ 4 48 Try.underlying79 inf_wq rfl (by omega) _ zl (wCells Z) rfl (HO.out.alloc _) _ _ 1 (wC (⟨xid, xkind, xn, xb⟩, .slice xo xb.length xc)) rfl (one_newQ wr (⟨xid, xkind, xn, xb⟩, .slice xo xb.length xc)) (wC_one _ rfl) ?_ ?_ ?_ ?_)
              · unfold maxLen; omega
              · omega
              · (try simp); omega
              intro v1 w3 hown1 hg1 _
              have hb1 := (HB.out.alloc hzr _).grown hg1 (by simp; omega) (fun g hg => (HO.out.lt g hg).1)
              have HO1 : Hid (w3.ownsRow w2.heap.size 84 4 v1 (cutAt Qv j (m + 1)).length (wCells (cutAt Qv j (m + 1)))) := Lib.hid (by
                rw [HS.out, List.length_append, HZL.out, wCells_app, show wCells [((⟨xid, xkind, xn, xb⟩, .slice xo xb.length xc) : RV)] = wC (⟨xid, xkind, xn, xb⟩, .slice xo xb.length xc) by simp [wCells]]
                exact hown1)
              have HB1 := Lib.hid hb1
              clear hown1 hg1 hb1
              go_wp2
              go_roundw
              case rel => exact ⟨m + 1, by go_num, by omega, HO1, HB1⟩
              case measure => simp [intOf]; omega
          · have hmq : m = Qv.length := by omega
            subst hmq
            have hO := HO.out
            obtain ⟨lo, lc, hlv, _, _⟩ := (Rd.of_own hO).form
            rw [cutAt_end] at hO hlv
            obtain ⟨hD4, hL4, hF4⟩ := HD2.out.cut (k := j) (Left.of_below HB.out []) (by omega) hO
            subst hlv
            obtain ⟨ll, hll⟩ : ∃ ll, (Qv.eraseIdx j).length = ll := ⟨_, rfl⟩
            rw [hll] at hD4 hL4 hO ⊢
            have HLT4 : Hid (∀ k ∈ Value.ownL (.slice lo ll lc), w2.heap.size ≤ k) := Lib.hid (fun k hk => (hO.lt k (mem_ownL.1 hk)).1)
            obtain ⟨F4, hF4e⟩ : ∃ F4, F4 = Value.ownL (.slice lo ll lc) ++ F := ⟨_, rfl⟩
            rw [← hF4e] at hD4
            have HF4 : Hid (∀ k ∈ F4, k ∈ F ∨ w2.heap.size ≤ k) := Lib.hid (fun k hk => by
              rw [hF4e] at hk
              rcases List.mem_append.1 hk with hk | hk
              · exact .inr (HLT4.out k hk)
              · exact .inl hk)
            have hbF4 : w1.heap.size ∉ F4 := fun hm => by
              rcases HF4.out _ hm with hm | hm
              · exact hFb hm
              · have := HZ2.out; omega
            have f3 := hDr.head.free 3
            clear hDr HO hO hF4 hll hF4e
            go_upto_region 13 with fail
            obtain ⟨w4, hw4⟩ : ∃ w4, w4 = wr.setCell ⟨P, 3, none⟩ (.slice lo ll lc) := ⟨_, rfl⟩
            have hlw4 : Left [P] wr w4 := hw4 ▸ (Left.refl _ _).setCell (Or.inl (by simp)) _
            rw [← hw4] at hD4 hL4 ⊢
            have hB4 := (HB2.out.left (Left.of_below HB.out []) (by simp)).left hlw4 (by simp only [List.mem_singleton]; exact fun e => hFb (e ▸ hPF))
            have b0 : w4.cell? ⟨w1.heap.size, 0, none⟩ = some (.int .i64 id) := by rw [hB4.cell]; rfl
            have b1 : w4.cell? ⟨w1.heap.size, 1, none⟩ = some (.int .i64 kind) := by rw [hB4.cell]; rfl
            have b2 : w4.cell? ⟨w1.heap.size, 2, none⟩ = some (.int .i64 n) := by rw [hB4.cell]; rfl
            have b3 : w4.cell? ⟨w1.heap.size, 3, none⟩ = some (.slice bo b.length bc) := by rw [hB4.cell]; rfl
            have HX4 := Lib.hid (own_leftB (own_leftB HO2.out (Left.of_below HB.out []) (by simp)) hlw4 (fun k hk e => by
              simp only [List.mem_singleton] at hk
              subst hk
              exact ((HD2.out.head.ty).ne (own_ty HO2.out e) (by decide)) rfl))
            have HD4 := Lib.hid hD4
            have HL4 : Hid (Left F w w4) := Lib.hid (HL2.out.trans hL4 (fun x hx => .inl hx))
            have HB4 := Lib.hid hB4
            have hz4 := HL4.out.size
            have p0 : w4.cell? ⟨P, 0, none⟩ = some kv := by rw [hD4.head.cell]; rfl
            have p1 : w4.cell? ⟨P, 1, none⟩ = some nv := by rw [hD4.head.cell]; rfl
            have p2 : w4.cell? ⟨P, 2, none⟩ = some fv := by rw [hD4.head.cell]; rfl
            obtain ⟨ng, nc, hnv, hnb, hnl, hnc, hnm⟩ := hD4.nowForm
            obtain ⟨fg, fc, hfv, hfb, hfl, hfc, hfm⟩ := hD4.freshForm
            obtain ⟨kg, kc, hkv, _, _, _, _⟩ := hD4.keptForm
            have hnc2 : nc ≤ 9223372036854775807 := by unfold maxLen at hnm; omega
            have hfc2 : fc ≤ 9223372036854775807 := by unfold maxLen at hfm; omega
            have HNF := Lib.hid (And.intro hnv (And.intro hnc hnm))
            have HFV := Lib.hid hfv
            have hsz := hD4.size
            dsimp only at hnv hfv hkv hnc hfc hsz
            rw [hnv] at p1
            rw [hfv] at p2
            rw [hkv] at p0
            obtain ⟨len, hlen⟩ : ∃ len, s.K.length = len := ⟨_, rfl⟩
            obtain ⟨N, hN⟩ : ∃ N, s.K.length / 64 = N := ⟨_, rfl⟩
            have HLEN := Lib.hid (And.intro hlen hN)
            have HSZ := Lib.hid hsz
            rw [hlen] at p0 p1 hnc hsz
            rw [hN] at p2 hfc
            have hNl : N ≤ 4096 := by omega
            have hll2 : len ≤ 262144 := hsz.2.2
            have hnt : Ty w4 ng 5 := own_ty hD4.now (by rw [hnv]; rfl)
            have hbng : w1.heap.size ≠ ng := hB4.ty.ne hnt (by decide)
            have hPng : P ≠ ng := hD4.head.ty.ne hnt (by decide)
            have HT := Lib.hid hnt
            clear hw4 hlw4 hL4 hB4 hnv hfv hkv hnm hfm hlen hN hnt f3 dr d3 hD4 hsz HLT4
            have hkk : kind = 0 ∨ kind = 1 ∨ kind = 2 := by
              rcases HOK.out with h | h | h
              · exact .inl h.1
              · exact .inr (.inl h.1)
              · exact .inr (.inr h)
            rcases hkk with rfl | rfl | rfl
            · have hok0 : secIn s.K n := by
                rcases HOK.out with h | h | h
                · exact h.2
                · cases h.1
                · cases h
              obtain ⟨nn, rfl⟩ : ∃ nn : Nat, n = nn := ⟨n.toNat, by have := hok0.1; omega⟩
              have hnn : 64 * nn + 64 ≤ len := by have := hok0.2; have := HLEN.out.1; omega
              have hA2 := HA2.out
              (try dsimp only at hA2)
              rw [if_neg (by decide), if_neg (by decide), Int.toNat_natCast] at hA2
              have HA3 := Lib.hid hA2
              have hnow : w4.ownsRow base 5 1 (.slice (some ⟨ng, 0, none⟩) len nc) len (u8s (flushK s.K s.W)) := by
                have := HD4.out.now
                dsimp only at this
                rw [HNF.out.1] at this
                rw [HLEN.out.1] at this
                exact this
              have hW64 : ∀ p ∈ s.W, p.2.length = 64 := wOk_of HD4.out.wok
              have hfk : (flushK s.K s.W).length = len := by rw [flushK_length HSZ.out.2.1 hW64, HLEN.out.1]
              have hl64 : (secN (flushK s.K s.W) nn).length = 64 := secN_length (by omega)
              have hcp := CopyBytes_n w4.drew (oldV ng nc nn) 64 (secN (flushK s.K s.W) nn) w4.heap.size hl64 (own_sec hnow hnn hnc HNF.out.2.2) (Nat.le_refl _) (by omega)
              unfold oldV at hcp
              have HCP := Lib.hid hcp
              have HAT := Lib.hid (at_any w4.drew ng len nc nn hnn hnc hll2 HNF.out.2.2)
              have HSEC : Hid (secN (flushK s.K s.W) nn = (lookW s.W (nn : Nat)).getD (secN s.K nn)) := Lib.hid (flushK_sec hW64 (by rw [HLEN.out.1]; exact hnn))
              have H64 := Lib.hid hl64
              clear hA2 hnow hcp hfk hW64 hl64
              go_upto_region 17 with fail
              refine wp_region_held_drew (S := fun wx => wx.cell? ⟨w1.heap.size, 0, none⟩ = some (.int .i64 id) ∧ wx.cell? ⟨w1.heap.size, 2, none⟩ = some (.int .i64 (nn : Int)) ∧ wx.cell? ⟨P, 1, none⟩ = some (.slice (some ⟨ng, 0, none⟩) len nc)) (by kernel_rfl) ⟨b0, b2, p1⟩ (fun hHeld => ?_)
              refine take_h 0 ⟨?_, ?_, ?_, by kernel_rfl, by kernel_rfl, by kernel_rfl, ?_, ?_, by assumption, ?_⟩
              rotate_left 2
              · (simp only [List.getElem?_toArray, List.getElem?_cons_zero]; exact rfl)
              · exact fun _ _ _ h => h
              · first
                  | (refine Or.inr ⟨by rfl, ?_⟩; exact rfl)
                  | (refine Or.inl ⟨by rfl, ?_⟩
                     intro w hSw
                     (try dsimp only at hSw)
                     (try go_split_ands)
                     go_simp
                     (first | done | with_reducible rfl))
              try simp only [Act.put, List.setIfInBounds_toArray, List.set_cons_zero, List.set_cons_succ]
              refine take_h 1 ⟨?_, ?_, ?_, by kernel_rfl, by kernel_rfl, by kernel_rfl, ?_, ?_, by assumption, ?_⟩
              rotate_left 2
              · (simp only [List.getElem?_toArray, List.getElem?_cons_succ, List.getElem?_cons_zero]; exact rfl)
              · exact fun _ _ _ h => h
              · first
                  | (refine Or.inr ⟨by rfl, ?_⟩; exact rfl)
                  | (refine Or.inl ⟨by rfl, ?_⟩
                     intro w hSw
                     (try dsimp only at hSw)
                     (try go_split_ands)
                     go_simp
                     (first | done | with_reducible rfl))
              try simp only [Act.put, List.setIfInBounds_toArray, List.set_cons_zero, List.set_cons_succ]
              refine take_h 2 ⟨?_, ?_, ?_, by kernel_rfl, by kernel_rfl, by kernel_rfl, ?_, ?_, by assumption, ?_⟩
              rotate_left 2
              · (simp only [List.getElem?_toArray, List.getElem?_cons_succ, List.getElem?_cons_zero]; exact rfl)
              · exact fun _ _ _ h => h
              · first
                  | (refine Or.inr ⟨by rfl, ?_⟩; exact rfl)
                  | (refine Or.inl ⟨by rfl, ?_⟩
                     intro w hSw
                     (try dsimp only at hSw)
                     (try go_split_ands)
                     go_simp
                     (first | done | with_reducible rfl))
              try simp only [Act.put, List.setIfInBounds_toArray, List.set_cons_zero, List.set_cons_succ]
              refine take_h 3 ⟨?_, ?_, ?_, by kernel_rfl, by kernel_rfl, by kernel_rfl, ?_, ?_, by assumption, ?_⟩
              rotate_left 2
              · (simp only [List.getElem?_toArray, List.getElem?_cons_succ, List.getElem?_cons_zero]; exact rfl)
              · exact fun _ _ _ h => h
              · first
                  | (refine Or.inr ⟨by rfl, ?_⟩; exact rfl)
                  | (refine Or.inl ⟨by rfl, ?_⟩
                     intro w hSw
                     (try dsimp only at hSw)
                     (try go_split_ands)
                     go_simp
                     (first | done | with_reducible rfl))
              try simp only [Act.put, List.setIfInBounds_toArray, List.set_cons_zero, List.set_cons_succ]
              refine take_h 4 ⟨?_, ?_, ?_, by kernel_rfl, by kernel_rfl, by kernel_rfl, ?_, ?_, by assumption, ?_⟩
              rotate_left 2
              · (simp only [List.getElem?_toArray, List.getElem?_cons_succ, List.getElem?_cons_zero]; exact rfl)
              · exact fun _ _ _ h => h
              · first
                  | (refine Or.inr ⟨by rfl, ?_⟩; exact rfl)
                  | (refine Or.inl ⟨by rfl, ?_⟩
                     intro w hSw
                     (try dsimp only at hSw)
                     (try go_split_ands)
                     go_simp
                     (first | done | with_reducible rfl))
              try simp only [Act.put, List.setIfInBounds_toArray, List.set_cons_zero, List.set_cons_succ]
              refine take_h 5 ⟨?_, ?_, ?_, by kernel_rfl, by kernel_rfl, by kernel_rfl, ?_, ?_, by assumption, ?_⟩
              rotate_left 2
              · (simp only [List.getElem?_toArray, List.getElem?_cons_succ, List.getElem?_cons_zero]; exact rfl)
              · exact fun _ _ _ h => h
              · first
                  | (refine Or.inr ⟨by rfl, ?_⟩; exact rfl)
                  | (refine Or.inl ⟨by rfl, ?_⟩
                     intro w hSw
                     (try dsimp only at hSw)
                     (try go_split_ands)
                     go_simp
                     (first | done | with_reducible rfl))
              try simp only [Act.put, List.setIfInBounds_toArray, List.set_cons_zero, List.set_cons_succ]
              refine take_h 6 ⟨?_, ?_, ?_, by kernel_rfl, by kernel_rfl, by kernel_rfl, ?_, ?_, by assumption, ?_⟩
              rotate_left 2
              · (simp only [List.getElem?_toArray, List.getElem?_cons_succ, List.getElem?_cons_zero]; exact rfl)
              · exact fun _ _ _ h => h
              · first
                  | (refine Or.inr ⟨by rfl, ?_⟩; exact rfl)
                  | (refine Or.inl ⟨by rfl, ?_⟩
                     intro w hSw
                     (try dsimp only at hSw)
                     (try go_split_ands)
                     go_simp
                     (first | done | with_reducible rfl))
              try simp only [Act.put, List.setIfInBounds_toArray, List.set_cons_zero, List.set_cons_succ]
              refine take_h 7 ⟨?_, ?_, ?_, by kernel_rfl, by kernel_rfl, by kernel_rfl, ?_, ?_, by assumption, ?_⟩
              rotate_left 2
              · (simp only [List.getElem?_toArray, List.getElem?_cons_succ, List.getElem?_cons_zero]; exact rfl)
              · exact fun _ _ _ h => h
              · first
                  | (refine Or.inr ⟨by rfl, ?_⟩; exact rfl)
                  | (refine Or.inl ⟨by rfl, ?_⟩
                     intro w hSw
                     (try dsimp only at hSw)
                     (try go_split_ands)
                     go_simp
                     (first | done | with_reducible rfl))
              try simp only [Act.put, List.setIfInBounds_toArray, List.set_cons_zero, List.set_cons_succ]
              refine wpAnyH_ready (rs := [8]) (by kernel_rfl) (by simp) ?_
              refine call_h 8 ⟨?_, ?_, fun K hK => ?_⟩
              rotate_left 1
              · (simp only [List.getElem?_toArray, List.getElem?_cons_succ, List.getElem?_cons_zero]; exact rfl)
              go_simp
              (go_at_call 44; refine HAT.out.mono ?_; rintro e w' ⟨rfl, rfl⟩; unfold oldV)
              go_wp2_with fail
              refine hK.out _ _ ⟨b0, b2, p1⟩ (fun hHeld => ?_)
              clear hK K
              (try simp only [Act.put, List.setIfInBounds_toArray, List.set_cons_zero, List.set_cons_succ])
              refine wpAnyH_ready (rs := [9]) (by kernel_rfl) (by simp) ?_
              refine call_h 9 ⟨?_, ?_, fun K hK => ?_⟩
              rotate_left 1
              · (simp only [List.getElem?_toArray, List.getElem?_cons_succ, List.getElem?_cons_zero]; exact rfl)
              go_simp
              (go_at_call 12; refine HCP.out.mono ?_; rintro e w5 ⟨v5, rfl, hown, hb5⟩)
              go_wp2_with fail
              have hb5' : Below w4.heap.size w4 w5 := ⟨hb5.os, hb5.tape, hb5.output, hb5.size, hb5.block⟩
              obtain ⟨vo, vc, rfl, _, _⟩ := (Rd.of_own hown).form
              have n0 := cell_left' b0 (Left.of_below hb5' []) (by simp)
              have n2 := cell_left' b2 (Left.of_below hb5' []) (by simp)
              have np := cell_left' p1 (Left.of_below hb5' []) (by simp)
              have HOWN : Hid (w5.ownsRow w4.heap.size 5 1 (.slice vo 64 vc) 64 (u8s (secN (flushK s.K s.W) nn))) := Lib.hid hown
              have HD5 := Lib.hid (HD4.out.left (Left.of_below hb5' []) (by simp))
              have HL5 := Lib.hid (HL4.out.trans (Left.of_below hb5' F) (fun x hx => .inl hx))
              clear hown hb5 hb5'
              refine hK.out _ _ ⟨n0, n2, np⟩ (fun hHeld => ?_)
              clear hK K
              (try simp only [Act.put, List.setIfInBounds_toArray, List.set_cons_zero, List.set_cons_succ])
              refine take_h 10 ⟨?_, ?_, ?_, by kernel_rfl, by kernel_rfl, by kernel_rfl, ?_, ?_, by assumption, ?_⟩
              rotate_left 2
              · (simp only [List.getElem?_toArray, List.getElem?_cons_succ, List.getElem?_cons_zero]; exact rfl)
              · exact fun _ _ _ h => h
              · first
                  | (refine Or.inr ⟨by rfl, ?_⟩; exact rfl)
                  | (refine Or.inl ⟨by rfl, ?_⟩
                     intro w hSw
                     (try dsimp only at hSw)
                     (try go_split_ands)
                     go_simp
                     (first | done | with_reducible rfl))
              try simp only [Act.put, List.setIfInBounds_toArray, List.set_cons_zero, List.set_cons_succ]
              refine take_h 11 ⟨?_, ?_, ?_, by kernel_rfl, by kernel_rfl, by kernel_rfl, ?_, ?_, by assumption, ?_⟩
              rotate_left 2
              · (simp only [List.getElem?_toArray, List.getElem?_cons_succ, List.getElem?_cons_zero]; exact rfl)
              · exact fun _ _ _ h => h
              · first
                  | (refine Or.inr ⟨by rfl, ?_⟩; exact rfl)
                  | (refine Or.inl ⟨by rfl, ?_⟩
                     intro w hSw
                     (try dsimp only at hSw)
                     (try go_split_ands)
                     go_simp
                     (first | done | with_reducible rfl))
              try simp only [Act.put, List.setIfInBounds_toArray, List.set_cons_zero, List.set_cons_succ]
              refine take_h 12 ⟨?_, ?_, ?_, by kernel_rfl, by kernel_rfl, by kernel_rfl, ?_, ?_, by assumption, ?_⟩
              rotate_left 2
              · (simp only [List.getElem?_toArray, List.getElem?_cons_succ, List.getElem?_cons_zero]; exact rfl)
              · exact fun _ _ _ h => h
              · first
                  | (refine Or.inr ⟨by rfl, ?_⟩; exact rfl)
                  | (refine Or.inl ⟨by rfl, ?_⟩
                     intro w hSw
                     (try dsimp only at hSw)
                     (try go_split_ands)
                     go_simp
                     (first | done | with_reducible rfl))
              try simp only [Act.put, List.setIfInBounds_toArray, List.set_cons_zero, List.set_cons_succ]
              refine wpAnyH_done (by kernel_rfl) ?_ _
              clear hHeld n0 n2 np
              go_wp2
              go_ret3
              rw [← HA3.out, ← HSEC.out]
              refine ⟨.slice vo 64 vc, rfl, ?_, F4, ⟨_, _, _, _, _, HD5.out⟩, HL5.out, fun k hk => by rcases HF4.out k hk with h | h; exact .inl h; exact .inr (by have := HZ2.out; omega), fun k hk hm => ?_⟩
              · dsimp only
                rw [H64.out]
                exact own_base HOWN.out hz4
              · have := (HOWN.out.lt k hk).1
                have := (HD4.out.lt k hm).2
                omega
            · have hok1 : secIn s.K n ∧ b.length = 64 := by
                rcases HOK.out with h | h | h
                · cases h.1
                · exact h.2
                · cases h
              obtain ⟨nn, rfl⟩ : ∃ nn : Nat, n = nn := ⟨n.toNat, by have := hok1.1.1; omega⟩
              have hnn : 64 * nn + 64 ≤ len := by have := hok1.1.2; have := HLEN.out.1; omega
              have hA2 := HA2.out
              (try dsimp only at hA2)
              rw [if_pos rfl] at hA2
              have HA3 := Lib.hid hA2
              have hnow : w4.ownsRow base 5 1 (.slice (some ⟨ng, 0, none⟩) len nc) len (u8s (flushK s.K s.W)) := by
                have := HD4.out.now
                dsimp only at this
                rw [HNF.out.1] at this
                rw [HLEN.out.1] at this
                exact this
              obtain ⟨cw, hWh, hcn, hmk⟩ := own_whole hnow
              obtain ⟨w5, hcp, hW5, hl5⟩ := run_copyN (w := w4.drew) (g := ng) (off := 64 * nn) (q := 64) (dCap := nc - 64 * nn) (n := b.length) (ty := 3) (Bd := w4.heap.size) hWh (show Rd w4.drew _ 1 (.slice bo b.length bc) b.length (u8s b) from Rd.of_own HX4.out) (by omega) (by have := hok1.2; omega) (by omega) (u8s_one b)
              have hl5' := Left.of_drew hl5
              rw [show (u8s b).take 64 = u8s b from List.take_of_length_le (by rw [u8s_length, hok1.2]; exact Nat.le_refl _)] at hW5
              have hn5 := hmk w5 (64 * nn) b (by have := hok1.2; omega) (by rw [hok1.2]; exact hW5)
              rw [hok1.2] at hn5
              have hnN : nn < N := by have := HLEN.out; omega
              have hPW := HD4.out.wr (n := nn) (b := b) (ng := ng) (fg := fg) (fc := fc) (w1 := w5) (by rw [HNF.out.1]; rfl) HFV.out (by dsimp only; rw [HLEN.out.1]; exact hnn) hok1.2 hl5' (by dsimp only; rw [HNF.out.1, HLEN.out.1]; exact hn5)
              have HPW := Lib.hid hPW
              have hfr5 : w5.ownsRow base 4 1 (.slice (some ⟨fg, 0, none⟩) N fc) N (bools (frL s.K s.W)) := by
                have := HD4.out.fresh
                have e := HFV.out
                dsimp only at this e
                rw [HLEN.out.2] at this e
                rw [e] at this
                exact own_leftB this hl5' (fun k hk e => by
                  simp only [List.mem_singleton] at hk
                  subst hk
                  exact ((own_ty this e).ne HT.out (by decide)) rfl)
              have fc5 : w5.cell? ⟨fg, nn, none⟩ = some (.bool (lookW s.W (nn : Nat)).isSome) := by
                rw [hfr5.cellAt nn (by omega)]
                unfold bools
                rw [List.getElem?_map, frL_at (by rw [HLEN.out.1]; exact hnn)]
                rfl
              have ff5 := hfr5.frozenAt nn
              have n0 := cell_left' b0 hl5' (by simpa using hbng)
              have n2 := cell_left' b2 hl5' (by simpa using hbng)
              have n3 := cell_left' b3 hl5' (by simpa using hbng)
              have np1 := cell_left' p1 hl5' (by simpa using hPng)
              have np2 := cell_left' p2 hl5' (by simpa using hPng)
              have hft : Ty w5 fg 4 := own_ty hfr5 rfl
              have hbt : Ty w5 w1.heap.size 84 := (HB4.out.left hl5' (by simpa using hbng)).ty
              have hbfg : w1.heap.size ≠ fg := hbt.ne hft (by decide)
              have hPfg : P ≠ fg := ((HD4.out.head.left hl5' (by simpa using hPng)).ty).ne hft (by decide)
              have HAT := Lib.hid (at_any w4.drew ng len nc nn hnn hnc hll2 HNF.out.2.2)
              clear hA2 hnow hWh hcn hmk hW5 hl5 hl5' hn5 hPW hfr5 hft hbt hok1
              go_upto_region 19 with fail
              refine wp_region_held_drew (S := fun wx => wx.cell? ⟨P, 1, none⟩ = some (.slice (some ⟨ng, 0, none⟩) len nc) ∧ wx.cell? ⟨w1.heap.size, 2, none⟩ = some (.int .i64 (nn : Int)) ∧ wx.cell? ⟨w1.heap.size, 3, none⟩ = some (.slice bo b.length bc)) (by kernel_rfl) ⟨p1, b2, b3⟩ (fun hHeld => ?_)
              refine take_h 0 ⟨?_, ?_, ?_, by kernel_rfl, by kernel_rfl, by kernel_rfl, ?_, ?_, by assumption, ?_⟩
              rotate_left 2
              · (simp only [List.getElem?_toArray, List.getElem?_cons_zero]; exact rfl)
              · exact fun _ _ _ h => h
              · first
                  | (refine Or.inr ⟨by rfl, ?_⟩; exact rfl)
                  | (refine Or.inl ⟨by rfl, ?_⟩
                     intro w hSw
                     (try dsimp only at hSw)
                     (try go_split_ands)
                     go_simp
                     (first | done | with_reducible rfl))
              try simp only [Act.put, List.setIfInBounds_toArray, List.set_cons_zero, List.set_cons_succ]
              refine take_h 1 ⟨?_, ?_, ?_, by kernel_rfl, by kernel_rfl, by kernel_rfl, ?_, ?_, by assumption, ?_⟩
              rotate_left 2
              · (simp only [List.getElem?_toArray, List.getElem?_cons_succ, List.getElem?_cons_zero]; exact rfl)
              · exact fun _ _ _ h => h
              · first
                  | (refine Or.inr ⟨by rfl, ?_⟩; exact rfl)
                  | (refine Or.inl ⟨by rfl, ?_⟩
                     intro w hSw
                     (try dsimp only at hSw)
                     (try go_split_ands)
                     go_simp
                     (first | done | with_reducible rfl))
              try simp only [Act.put, List.setIfInBounds_toArray, List.set_cons_zero, List.set_cons_succ]
              refine take_h 2 ⟨?_, ?_, ?_, by kernel_rfl, by kernel_rfl, by kernel_rfl, ?_, ?_, by assumption, ?_⟩
              rotate_left 2
              · (simp only [List.getElem?_toArray, List.getElem?_cons_succ, List.getElem?_cons_zero]; exact rfl)
              · exact fun _ _ _ h => h
              · first
                  | (refine Or.inr ⟨by rfl, ?_⟩; exact rfl)
                  | (refine Or.inl ⟨by rfl, ?_⟩
                     intro w hSw
                     (try dsimp only at hSw)
                     (try go_split_ands)
                     go_simp
                     (first | done | with_reducible rfl))
              try simp only [Act.put, List.setIfInBounds_toArray, List.set_cons_zero, List.set_cons_succ]
              refine take_h 3 ⟨?_, ?_, ?_, by kernel_rfl, by kernel_rfl, by kernel_rfl, ?_, ?_, by assumption, ?_⟩
              rotate_left 2
              · (simp only [List.getElem?_toArray, List.getElem?_cons_succ, List.getElem?_cons_zero]; exact rfl)
              · exact fun _ _ _ h => h
              · first
                  | (refine Or.inr ⟨by rfl, ?_⟩; exact rfl)
                  | (refine Or.inl ⟨by rfl, ?_⟩
                     intro w hSw
                     (try dsimp only at hSw)
                     (try go_split_ands)
                     go_simp
                     (first | done | with_reducible rfl))
              try simp only [Act.put, List.setIfInBounds_toArray, List.set_cons_zero, List.set_cons_succ]
              refine take_h 4 ⟨?_, ?_, ?_, by kernel_rfl, by kernel_rfl, by kernel_rfl, ?_, ?_, by assumption, ?_⟩
              rotate_left 2
              · (simp only [List.getElem?_toArray, List.getElem?_cons_succ, List.getElem?_cons_zero]; exact rfl)
              · exact fun _ _ _ h => h
              · first
                  | (refine Or.inr ⟨by rfl, ?_⟩; exact rfl)
                  | (refine Or.inl ⟨by rfl, ?_⟩
                     intro w hSw
                     (try dsimp only at hSw)
                     (try go_split_ands)
                     go_simp
                     (first | done | with_reducible rfl))
              try simp only [Act.put, List.setIfInBounds_toArray, List.set_cons_zero, List.set_cons_succ]
              refine take_h 5 ⟨?_, ?_, ?_, by kernel_rfl, by kernel_rfl, by kernel_rfl, ?_, ?_, by assumption, ?_⟩
              rotate_left 2
              · (simp only [List.getElem?_toArray, List.getElem?_cons_succ, List.getElem?_cons_zero]; exact rfl)
              · exact fun _ _ _ h => h
              · first
                  | (refine Or.inr ⟨by rfl, ?_⟩; exact rfl)
                  | (refine Or.inl ⟨by rfl, ?_⟩
                     intro w hSw
                     (try dsimp only at hSw)
                     (try go_split_ands)
                     go_simp
                     (first | done | with_reducible rfl))
              try simp only [Act.put, List.setIfInBounds_toArray, List.set_cons_zero, List.set_cons_succ]
              refine take_h 7 ⟨?_, ?_, ?_, by kernel_rfl, by kernel_rfl, by kernel_rfl, ?_, ?_, by assumption, ?_⟩
              rotate_left 2
              · (simp only [List.getElem?_toArray, List.getElem?_cons_succ, List.getElem?_cons_zero]; exact rfl)
              · exact fun _ _ _ h => h
              · first
                  | (refine Or.inr ⟨by rfl, ?_⟩; exact rfl)
                  | (refine Or.inl ⟨by rfl, ?_⟩
                     intro w hSw
                     (try dsimp only at hSw)
                     (try go_split_ands)
                     go_simp
                     (first | done | with_reducible rfl))
              try simp only [Act.put, List.setIfInBounds_toArray, List.set_cons_zero, List.set_cons_succ]
              refine take_h 8 ⟨?_, ?_, ?_, by kernel_rfl, by kernel_rfl, by kernel_rfl, ?_, ?_, by assumption, ?_⟩
              rotate_left 2
              · (simp only [List.getElem?_toArray, List.getElem?_cons_succ, List.getElem?_cons_zero]; exact rfl)
              · exact fun _ _ _ h => h
              · first
                  | (refine Or.inr ⟨by rfl, ?_⟩; exact rfl)
                  | (refine Or.inl ⟨by rfl, ?_⟩
                     intro w hSw
                     (try dsimp only at hSw)
                     (try go_split_ands)
                     go_simp
                     (first | done | with_reducible rfl))
              try simp only [Act.put, List.setIfInBounds_toArray, List.set_cons_zero, List.set_cons_succ]
              refine wpAnyH_ready (rs := [6]) (by kernel_rfl) (by simp) ?_
              refine call_h 6 ⟨?_, ?_, fun K hK => ?_⟩
              rotate_left 1
              · (simp only [List.getElem?_toArray, List.getElem?_cons_succ, List.getElem?_cons_zero]; exact rfl)
              go_simp
              (go_at_call 44; refine HAT.out.mono ?_; rintro e w' ⟨rfl, rfl⟩; unfold oldV)
              go_wp2_with fail
              refine hK.out _ _ ⟨p1, b2, b3⟩ (fun hHeld => ?_)
              clear hK K
              (try simp only [Act.put, List.setIfInBounds_toArray, List.set_cons_zero, List.set_cons_succ])
              refine wpAnyH_ready (rs := [9]) (by kernel_rfl) (by simp) ?_
              refine call_h 9 ⟨?_, ?_, fun K hK => ?_⟩
              rotate_left 1
              · (simp only [List.getElem?_toArray, List.getElem?_cons_succ, List.getElem?_cons_zero]; exact rfl)
              go_simp
              skip
              go_wp2_with fail
              refine hK.out _ _ ⟨np1, n2, n3⟩ (fun hHeld => ?_)
              clear hK K
              (try simp only [Act.put, List.setIfInBounds_toArray, List.set_cons_zero, List.set_cons_succ])
              refine wpAnyH_done (by kernel_rfl) ?_ _
              clear hHeld
              go_upto_region 20 with fail
              have hS5 : ∀ x : Value, ((w5.setCell ⟨fg, nn, none⟩ x).drew).cell? ⟨P, 2, none⟩ = some (.slice (some ⟨fg, 0, none⟩) N fc) ∧ ((w5.setCell ⟨fg, nn, none⟩ x).drew).cell? ⟨w1.heap.size, 2, none⟩ = some (.int .i64 (nn : Int)) ∧ ((w5.setCell ⟨fg, nn, none⟩ x).drew).cell? ⟨w1.heap.size, 0, none⟩ = some (.int .i64 id) := fun x => by
                have hl6 : Left [fg] w5 ((w5.setCell ⟨fg, nn, none⟩ x).drew) := ((Left.refl [fg] w5).setCell (Or.inl (by simp)) x).drew
                exact ⟨cell_left' np2 hl6 (by simpa using hPfg), cell_left' n2 hl6 (by simpa using hbfg), cell_left' n0 hl6 (by simpa using hbfg)⟩
              have HS5 := Lib.hid hS5
              clear hS5
              refine wp_region_held_drew (S := fun wx => wx.cell? ⟨P, 2, none⟩ = some (.slice (some ⟨fg, 0, none⟩) N fc) ∧ wx.cell? ⟨w1.heap.size, 2, none⟩ = some (.int .i64 (nn : Int))) (by kernel_rfl) ⟨np2, n2⟩ (fun hHeld => ?_)
              refine take_h 0 ⟨?_, ?_, ?_, by kernel_rfl, by kernel_rfl, by kernel_rfl, ?_, ?_, by assumption, ?_⟩
              rotate_left 2
              · (simp only [List.getElem?_toArray, List.getElem?_cons_zero]; exact rfl)
              · exact fun _ _ _ h => h
              · first
                  | (refine Or.inr ⟨by rfl, ?_⟩; exact rfl)
                  | (refine Or.inl ⟨by rfl, ?_⟩
                     intro w hSw
                     (try dsimp only at hSw)
                     (try go_split_ands)
                     go_simp
                     (first | done | with_reducible rfl))
              try simp only [Act.put, List.setIfInBounds_toArray, List.set_cons_zero, List.set_cons_succ]
              refine take_h 1 ⟨?_, ?_, ?_, by kernel_rfl, by kernel_rfl, by kernel_rfl, ?_, ?_, by assumption, ?_⟩
              rotate_left 2
              · (simp only [List.getElem?_toArray, List.getElem?_cons_succ, List.getElem?_cons_zero]; exact rfl)
              · exact fun _ _ _ h => h
              · first
                  | (refine Or.inr ⟨by rfl, ?_⟩; exact rfl)
                  | (refine Or.inl ⟨by rfl, ?_⟩
                     intro w hSw
                     (try dsimp only at hSw)
                     (try go_split_ands)
                     go_simp
                     (first | done | with_reducible rfl))
              try simp only [Act.put, List.setIfInBounds_toArray, List.set_cons_zero, List.set_cons_succ]
              refine take_h 2 ⟨?_, ?_, ?_, by kernel_rfl, by kernel_rfl, by kernel_rfl, ?_, ?_, by assumption, ?_⟩
              rotate_left 2
              · (simp only [List.getElem?_toArray, List.getElem?_cons_succ, List.getElem?_cons_zero]; exact rfl)
              · exact fun _ _ _ h => h
              · first
                  | (refine Or.inr ⟨by rfl, ?_⟩; exact rfl)
                  | (refine Or.inl ⟨by rfl, ?_⟩
                     intro w hSw
                     (try dsimp only at hSw)
                     (try go_split_ands)
                     go_simp
                     (first | done | with_reducible rfl))
              try simp only [Act.put, List.setIfInBounds_toArray, List.set_cons_zero, List.set_cons_succ]
              refine take_h 3 ⟨?_, ?_, ?_, by kernel_rfl, by kernel_rfl, by kernel_rfl, ?_, ?_, by assumption, ?_⟩
              rotate_left 2
              · (simp only [List.getElem?_toArray, List.getElem?_cons_succ, List.getElem?_cons_zero]; exact rfl)
              · exact fun _ _ _ h => h
              · first
                  | (refine Or.inr ⟨by rfl, ?_⟩; exact rfl)
                  | (refine Or.inl ⟨by rfl, ?_⟩
                     intro w hSw
                     (try dsimp only at hSw)
                     (try go_split_ands)
                     go_simp
                     (first | done | with_reducible rfl))
              try simp only [Act.put, List.setIfInBounds_toArray, List.set_cons_zero, List.set_cons_succ]
              refine take_h 4 ⟨?_, ?_, ?_, by kernel_rfl, by kernel_rfl, by kernel_rfl, ?_, ?_, by assumption, ?_⟩
              rotate_left 2
              · (simp only [List.getElem?_toArray, List.getElem?_cons_succ, List.getElem?_cons_zero]; exact rfl)
              · exact fun _ _ _ h => h
              · first
                  | (refine Or.inr ⟨by rfl, ?_⟩; exact rfl)
                  | (refine Or.inl ⟨by rfl, ?_⟩
                     intro w hSw
                     (try dsimp only at hSw)
                     (try go_split_ands)
                     go_simp
                     (first | done | with_reducible rfl))
              try simp only [Act.put, List.setIfInBounds_toArray, List.set_cons_zero, List.set_cons_succ]
              refine take_h 5 ⟨?_, ?_, ?_, by kernel_rfl, by kernel_rfl, by kernel_rfl, ?_, ?_, by assumption, ?_⟩
              rotate_left 2
              · (simp only [List.getElem?_toArray, List.getElem?_cons_succ, List.getElem?_cons_zero]; exact rfl)
              · exact fun _ _ _ h => h
              · first
                  | (refine Or.inr ⟨by rfl, ?_⟩; exact rfl)
                  | (refine Or.inl ⟨by rfl, ?_⟩
                     intro w hSw
                     (try dsimp only at hSw)
                     (try go_split_ands)
                     go_simp
                     (first | done | with_reducible rfl))
              try simp only [Act.put, List.setIfInBounds_toArray, List.set_cons_zero, List.set_cons_succ]
              refine take_h 6 ⟨?_, ?_, ?_, by kernel_rfl, by kernel_rfl, by kernel_rfl, ?_, ?_, by assumption, ?_⟩
              rotate_left 2
              · (simp only [List.getElem?_toArray, List.getElem?_cons_succ, List.getElem?_cons_zero]; exact rfl)
              · exact fun _ _ _ h => h
              · first
                  | (refine Or.inr ⟨by rfl, ?_⟩; exact rfl)
                  | (refine Or.inl ⟨by rfl, ?_⟩
                     intro w hSw
                     (try dsimp only at hSw)
                     (try go_split_ands)
                     go_simp
                     (first | done | with_reducible rfl))
              try simp only [Act.put, List.setIfInBounds_toArray, List.set_cons_zero, List.set_cons_succ]
              refine wpAnyH_ready (rs := [7]) (by kernel_rfl) (by simp) ?_
              refine call_h 7 ⟨?_, ?_, fun K hK => ?_⟩
              rotate_left 1
              · (simp only [List.getElem?_toArray, List.getElem?_cons_succ, List.getElem?_cons_zero]; exact rfl)
              go_simp
              skip
              go_wp2_with fail
              refine hK.out _ _ ⟨(HS5.out _).1, (HS5.out _).2.1⟩ (fun hHeld => ?_)
              clear hK K
              (try simp only [Act.put, List.setIfInBounds_toArray, List.set_cons_zero, List.set_cons_succ])
              refine wpAnyH_done (by kernel_rfl) ?_ _
              clear hHeld
              have m0 := (HS5.out (.bool true)).2.2
              obtain ⟨w6, hw6⟩ : ∃ w6, w6 = (w5.setCell ⟨fg, nn, none⟩ (.bool true)).drew := ⟨_, rfl⟩
              have HP6 : Hid (PgAt w6 base P F4 kv nv fv (.slice lo ll lc) (Qv.eraseIdx j) ⟨s.K, updW s.W (nn : Nat) b, s.Q.eraseIdx j, last, false, lft, armed⟩ ∧ Left F4 w4 w6) := Lib.hid (hw6 ▸ And.intro (HPW.out.1.left ((Left.refl [] _).drew) (by simp)) HPW.out.2.drew)
              rw [← hw6] at m0 ⊢
              clear hw6 fc5 ff5
              go_wp2
              go_ret3
              rw [← HA3.out]
              exact ⟨.slice none 0 0, rfl, World.ownsRow_nil _ _ _ _, F4, ⟨_, _, _, _, _, HP6.out.1⟩, HL4.out.trans HP6.out.2 (fun k hk => by rcases HF4.out k hk with h | h; exact .inl h; exact .inr (by have := HZ2.out; omega)), fun k hk => by rcases HF4.out k hk with h | h; exact .inl h; exact .inr (by have := HZ2.out; omega), fun k hk => by cases hk⟩
            · have hA2 := HA2.out
              (try dsimp only at hA2)
              rw [if_neg (by decide), if_pos rfl] at hA2
              have HA3 := Lib.hid hA2
              have hnow : w4.ownsRow base 5 1 (.slice (some ⟨ng, 0, none⟩) len nc) len (u8s (flushK s.K s.W)) := by
                have := HD4.out.now
                dsimp only at this
                rw [HNF.out.1] at this
                rw [HLEN.out.1] at this
                exact this
              have hfk : (flushK s.K s.W).length = len := by rw [flushK_length HSZ.out.2.1 (wOk_of HD4.out.wok), HLEN.out.1]
              have hcp := CopyBytes_n w4 _ len (flushK s.K s.W) w4.heap.size hfk (Rd.of_own hnow) (Nat.le_refl _) (by omega)
              have HCP := Lib.hid hcp
              have f0 := HD4.out.head.free 0
              have f2 := HD4.out.head.free 2
              have hmk1 := run_make_row' (P := Try.prog) 78 4 (.bool false) 1 Try.underlying78 info_boolD rfl .i64 .i64 N (by omega) (by omega)
              clear hA2 hnow hfk hcp
              go_wp2_with fail
              refine HCP.out.mono ?_
              rintro e w5 ⟨v5, rfl, hown, hb5⟩
              have hl5 := Left.of_below hb5 []
              obtain ⟨vo, vc, rfl, _, _⟩ := (Rd.of_own hown).form
              have n0 := cell_left' b0 hl5 (by simp)
              have hhd5 := HD4.out.head.left hl5 (by simp)
              have q0 := cell_left' p0 hl5 (by simp)
              have q1 := cell_left' p1 hl5 (by simp)
              have q2 := cell_left' p2 hl5 (by simp)
              have g0 := hhd5.free 0
              have g2 := hhd5.free 2
              have hb5P : w1.heap.size ≠ P := fun e => hFb (e ▸ hPF)
              have HFL := Lib.hid (HD4.out.fl (N := N) (v := .slice vo len vc) HLEN.out.2 (by omega) (by dsimp only; rw [HLEN.out.1]; exact hown) hb5)
              have hlA : Left [P] w5 (w5.setCell ⟨P, 0, none⟩ (.slice vo len vc)) := (Left.refl _ _).setCell (Or.inl (by simp)) _
              have hhd6 := hhd5.put 0 (.slice vo len vc)
              clear hown hl5
              go_upto_region 15 with fail
              obtain ⟨w6, hw6⟩ : ∃ w6, w6 = w5.setCell ⟨P, 0, none⟩ (.slice vo len vc) := ⟨_, rfl⟩
              have HFL6 := Lib.hid HFL.out
              rw [← hw6] at HFL6 hlA hhd6 ⊢
              have r0 := cell_left' n0 hlA (by simpa using hb5P)
              have r2 : w6.cell? ⟨P, 2, none⟩ = some (.slice (some ⟨fg, 0, none⟩) N fc) := by rw [hhd6.cell]; rw [← q2, hhd5.cell]; rfl
              have s2 := hhd6.free 2
              have hlB : Left [] w6 (w6.alloc (.cells (madeCells #[.bool false] N) 4)) := (Left.refl [] w6).alloc _
              have t2 := cell_left' r2 hlB (by simp)
              have t0 := cell_left' r0 hlB (by simp)
              have u2 := (hhd6.left hlB (by simp)).free 2
              have hlC : Left [P] (w6.alloc (.cells (madeCells #[.bool false] N) 4)) ((w6.alloc (.cells (madeCells #[.bool false] N) 4)).setCell ⟨P, 2, none⟩ (.slice (some ⟨w6.heap.size, 0, none⟩) N N)) := (Left.refl _ _).setCell (Or.inl (by simp)) _
              have v0 := cell_left' t0 hlC (by simpa using hb5P)
              clear hw6 hlA hhd5 hhd6 n0 q0 q1 q2 g0 g2 hlB hlC HFL t0
              have hmk2 := hmk1 w6
              clear hmk1
              go_upto_region 21 with fail
              obtain ⟨w7, hw7⟩ : ∃ w7, w7 = (w6.alloc (.cells (madeCells #[.bool false] N) 4)).setCell ⟨P, 2, none⟩ (.slice (some ⟨w6.heap.size, 0, none⟩) N N) := ⟨_, rfl⟩
              rw [← hw7] at HFL6 v0 ⊢
              clear hw7 t2 u2 r0 r2 s2
              go_wp2
              go_ret3
              rw [← HA3.out]
              exact ⟨.slice none 0 0, rfl, World.ownsRow_nil _ _ _ _, _, ⟨_, _, _, _, _, HFL6.out.1⟩, HL4.out.trans HFL6.out.2.1 (fun k hk => by rcases HF4.out k hk with h | h; exact .inl h; exact .inr (by have := HZ2.out; omega)), fun k hk => by
                rcases HFL6.out.2.2 k hk with hk | hk
                · rcases HF4.out k hk with h | h
                  · exact .inl h
                  · exact .inr (by have := HZ2.out; omega)
                · exact .inr (by omega), fun k hk => by cases hk⟩
  · rw [if_pos rfl] at hA
    have HR2 := Lib.hid hA
    clear hD1 hl1 hA
    go_wp2
    go_ret3
    rw [← HR2.out]
    exact ⟨.slice none 0 0, rfl, World.ownsRow_nil _ _ _ _, F, ⟨_, _, _, _, _, HD1.out⟩, HL1.out.mono (by simpa using hPF), fun k hk => .inl hk, fun k hk => by cases hk⟩
end
end Go.Proofs.Ytbhoiibcfibmhaa
