/- The page's Put. -/


import Derived.Test.YtimjbojoeacaeaaDoorKpPut
namespace Go.Proofs.YtimjbojoeacaeaaDoor
open Go.RowKit Go.Shelf Go.Proofs
section
variable {P : Program}
/-- append onto a row of the call's own, as one step of a region that draws. -/
theorem step_app (w : World) {ops : Array Oper} {o : Oper} {a : Act} {K : Act → World → Prop} {Q : Exit → Act → World → Prop} {E : Prop} (hgd : o.guard = none) (s x : Operand) (t : TypeId)
    (ho : o.op = .call { callee := .builtin .append, args := #[s, x], argTypes := #[t, t] })
    (base : Nat) (e : TypeId) (z : Value) (size bytes : Nat) (ht : P.underlying t = some (.slice e)) (hi : (P.info? e).map (fun i => (i.zero, i.size, i.bytes)) = some (some z, size, bytes))
    (hzs : z.cells.size = size) (hsz : 0 < size)
    (v : Value) (n : Nat) (xs : List Value) (hs : a.eval s = v) (hown : w.ownsRow base e size v n xs)
    (Bd : Nat) (xv : Value) (m : Nat) (news : List Value) (hx : a.eval x = xv) (hr : Rd w Bd size xv m news) (h1 : ∀ u ∈ news, u.oneCell' = true)
    (h63 : n + m ≤ maxLen) (hbytes : (n + m) * bytes ≤ 140737488355328) (hbase : base ≤ w.heap.size)
    (h : ∀ v' w', w'.ownsRow base e size v' (n + m) (xs ++ news) → w.grownBy w' v.ownBlock → K (a.put o.dst v') w') : if Region.wanted o (yielded ops a.tmps) = true then Oper.wp P o a w K Q else E := by
  have hw : Region.wanted o (yielded ops a.tmps) = true := by simp [Region.wanted, hgd]
  rw [if_pos hw]
  obtain ⟨v', w', hrun, h2, h3, _⟩ := run_app (P := P) w base t o.type e z size bytes ht hi hzs hsz v n xs hown Bd xv m news hr h1 h63 hbytes hbase
  unfold Oper.wp execOp
  simp only [ho, resolve, invoke, builtin, Sem.run_bind, Sem.run_pure, Result.andThen_ok, List.map_toArray, List.map_cons, List.map_nil, hs, hx, hrun]
  exact h v' w' h2 h3
end
theorem Rd_take {w : World} {Bd n k cap size : Nat} {ao : Option Addr} {xs : List Value} (h : Rd w Bd size (.slice ao n cap) n xs) (hk : k ≤ n) : Rd w Bd size (.slice ao k cap) k (xs.take (k * size)) := by
  obtain ⟨h1, ao', cap', h2, h3, h4, h5, h6⟩ := h
  injection h2 with e1 e2 e3
  subst e1 e3
  have : k * size ≤ n * size := Nat.mul_le_mul_right _ hk
  refine ⟨by rw [List.length_take]; omega, ao, cap, rfl, by omega, h4, h5, fun hn => ?_⟩
  obtain ⟨b, o, e, hb, hc⟩ := h6 (by omega)
  refine ⟨b, o, e, hb, fun j u hu => ?_⟩
  rw [List.getElem?_take] at hu
  split at hu
  · exact hc j u hu
  · cases hu
theorem Rd_drop {w : World} {Bd n j cap b o size : Nat} {xs : List Value} (h : Rd w Bd size (.slice (some ⟨b, o, none⟩) n cap) n xs) (hj : j ≤ n) :
    Rd w Bd size (.slice (if cap = j then some ⟨b, o, none⟩ else some ⟨b, o + j * size, none⟩) (n - j) (cap - j)) (n - j) (xs.drop (j * size)) := by
  obtain ⟨h1, ao', cap', h2, h3, h4, h5, h6⟩ := h
  injection h2 with e1 e2 e3
  subst e1 e3
  have hjl : j * size ≤ n * size := Nat.mul_le_mul_right _ hj
  refine ⟨by rw [List.length_drop, h1, Nat.sub_mul], _, cap - j, rfl, by omega, by omega, (fun e => by split at e <;> cases e), fun hn => ?_⟩
  obtain ⟨b', o', e, hb, hc⟩ := h6 (by omega)
  injection e with e
  injection e with e1 e2
  subst e1 e2
  refine ⟨b, o + j * size, by rw [if_neg (by omega)], hb, fun t u hu => ?_⟩
  rw [List.getElem?_drop] at hu
  rw [Nat.add_assoc]
  exact hc _ u hu
theorem Rd_none {w : World} {Bd c size : Nat} {ao : Option Addr} (h : ao = none → c = 0) (hc : c ≤ maxLen) : Rd w Bd size (.slice ao 0 c) 0 [] :=
  ⟨by simp, ao, c, rfl, by omega, hc, h, fun h => absurd h (by omega)⟩
theorem wCells_drop (L : List Msg1) (k : Nat) (hk : k ≤ L.length) : (wCells L).drop (k * 4) = wCells (L.drop k) := by
  have h : wCells L = wCells (L.take k) ++ wCells (L.drop k) := by rw [← wCells_app, List.take_append_drop]
  have l : (wCells (L.take k)).length = k * 4 := by rw [wCells_length, List.length_take]; omega
  rw [h, ← l, List.drop_left]
theorem wCells_take (L : List Msg1) (k : Nat) (hk : k ≤ L.length) : (wCells L).take (k * 4) = wCells (L.take k) := by
  have h : wCells L = wCells (L.take k) ++ wCells (L.drop k) := by rw [← wCells_app, List.take_append_drop]
  have l : (wCells (L.take k)).length = k * 4 := by rw [wCells_length, List.length_take]; omega
  rw [h, ← l, List.take_left]
theorem copy_cut {w0 wq : World} {L : List Msg1} {ao : Option Addr} {cap k : Nat} (h : Rd w0 w0.heap.size 4 (.slice ao L.length cap) L.length (wCells L)) (hk : k ≤ L.length) (hn : L.length ≤ 1000000) (hq : Below w0.heap.size w0 wq) :
    Calls Tryd.prog 31 #[.slice ao k cap] wq fun e w' => ∃ v', e = .returned v' ∧ w'.ownsRow wq.heap.size 55 4 v' k (wCells (L.take k)) ∧ Below wq.heap.size wq w' := by
  have hl : (L.take k).length = k := by rw [List.length_take]; omega
  have h2 := Rd_take (h.below hq) hk
  rw [wCells_take L k hk] at h2
  have := CopyW_any wq (.slice ao k cap) (L.take k) w0.heap.size (by rw [hl]; exact h2) hq.size (by omega)
  rw [hl] at this
  exact this
theorem takeWhile_stop {α : Type} (p : α → Bool) : ∀ (l : List α) (i : Nat), i ≤ l.length → (∀ t x, t < i → l[t]? = some x → p x = true) → (∀ x, l[i]? = some x → p x = false) → (l.takeWhile p).length = i
  | [], i, hi, _, _ => by simp at hi; simp [hi]
  | a :: r, 0, _, _, h2 => by simp [h2 a rfl]
  | a :: r, i + 1, hi, h1, h2 => by
    have ha : p a = true := h1 0 a (by omega) rfl
    rw [List.takeWhile_cons, if_pos ha, List.length_cons, takeWhile_stop p r i (by simpa using hi) (fun t x ht hx => h1 (t + 1) x (by omega) (by simpa using hx)) (fun x hx => h2 x (by simpa using hx))]
/-- All so far stand ahead. -/
def AheadW (L : List Msg1) (f : ByteArray) (k : Nat) : Prop := ∀ t x, t < k → L[t]? = some x → lessB x.f f = true
theorem AheadW.snoc {L : List Msg1} {f : ByteArray} {k : Nat} {y : Msg1} (h : AheadW L f k) (hy : L[k]? = some y) (hl : lessB y.f f = true) : AheadW L f (k + 1) := by
  intro t x ht hx
  by_cases e : t = k
  · subst e
    rw [hy] at hx
    injection hx with hx
    subst hx
    exact hl
  · exact h t x (by omega) hx
theorem AheadW.pos {L : List Msg1} {f : ByteArray} {k : Nat} (h : AheadW L f k) (hk : k ≤ L.length) (hs : ∀ x, L[k]? = some x → lessB x.f f = false) : posW L f = k := takeWhile_stop _ L k hk h hs


/-- What the page's Put answers. -/
def rputL (L : List Msg1) (x : Msg1) : List Msg1 × Int :=
  let p := posW L x.f
  let d := if thereW L x.f then p + 1 else p
  if x.p.toList = [] then (L.take p ++ L.drop d, 0)
  else if thereW L x.f = false ∧ 16 ≤ L.length then ([], 5) else (L.take p ++ [x] ++ L.drop d, 0)
theorem rput_empty {L : List Msg1} {x : Msg1} {k d : Nat} {th : Bool} (hp : posW L x.f = k) (ht : thereW L x.f = th) (hd : (if th then k + 1 else k) = d) (h : x.p.toList = []) : rputL L x = (L.take k ++ L.drop d, 0) := by
  unfold rputL
  simp only [hp, ht, hd, if_pos h]
theorem rput_full {L : List Msg1} {x : Msg1} (ht : thereW L x.f = false) (h : ¬ x.p.toList = []) (h16 : 16 ≤ L.length) : rputL L x = ([], 5) := by
  unfold rputL
  simp [ht, h, h16]
theorem rput_more {L : List Msg1} {x : Msg1} {k d : Nat} {th : Bool} (hp : posW L x.f = k) (ht : thereW L x.f = th) (hd : (if th then k + 1 else k) = d) (h : ¬ x.p.toList = []) (h16 : ¬ (th = false ∧ 16 ≤ L.length)) : rputL L x = (L.take k ++ [x] ++ L.drop d, 0) := by
  unfold rputL
  simp only [hp, ht, hd, if_neg h, if_neg h16]
theorem there_is {L : List Msg1} {x y : Msg1} {k : Nat} (hp : posW L x.f = k) (hy : L[k]? = some y) {b : Bool} (he : (y.f.toList == x.f.toList) = b) : thereW L x.f = b := by
  unfold thereW
  rw [hp, hy, ← he]
  show decide (y.f = x.f) = _
  by_cases e : y.f = x.f
  · rw [decide_eq_true e, e]; simp
  · rw [decide_eq_false e]
    exact (beq_eq_false_iff_ne.2 fun h => e (by rw [Lib.toList_data, Lib.toList_data] at h; rw [← bs_of y.f, ← bs_of x.f, h])).symm
theorem there_end {L : List Msg1} {x : Msg1} (hp : posW L x.f = L.length) : thereW L x.f = false := by
  unfold thereW
  rw [hp, List.getElem?_eq_none (by omega)]
/-- The row ahead of what is put behind it, in letters. -/
theorem letters {W : World} {B n : Nat} {v : Value} {xs : List Value} {L : List Msg1} {R T : List Msg1} (h : W.ownsRow B 55 4 v n xs) (hn : n = T.length) (hx : xs = wCells T) (d : Nat) (hR : R = T ++ L.drop d) :
    ∃ n1 xs1, Hid (W.ownsRow B 55 4 v n1 xs1) ∧ Hid (n1 + (L.length - d) = R.length) ∧ Hid (xs1 ++ wCells (L.drop d) = wCells R) ∧ n1 = n := by
  subst hx hR
  refine ⟨n, wCells T, ?_, ?_, ?_, rfl⟩
  · exact Lib.hid h
  · exact Lib.hid (by rw [hn, List.length_append, List.length_drop])
  · exact Lib.hid (wCells_app _ _).symm



set_option maxRecDepth 100000 in
set_option maxHeartbeats 1600000 in
theorem rPut_any (w : World) (v : Value) (L : List Msg1) (x : Msg1) (h : Rd w w.heap.size 4 v L.length (wCells L)) (hn : L.length ≤ 1000000) :
    Calls Tryd.prog 38 #[v, .agg #[.string x.f, .string x.p, .int .i64 x.q, .bool x.r]] w fun e w' => ∃ v', e = .returned (.tuple #[v', .int .i64 (rputL L x).2]) ∧ w'.ownsRow w.heap.size 55 4 v' (rputL L x).1.length (wCells (rputL L x).1) ∧ Below w.heap.size w w' := by
  obtain ⟨ao, cap, rfl, hc, hm⟩ := h.form
  have hm' : cap ≤ 9223372036854775807 := by unfold maxLen at hm; omega
  clear hm
  have HCZ : Hid (ao = none → cap = 0) := Lib.hid (by
    obtain ⟨_, ao', cap', e, _, _, h5, _⟩ := h
    injection e with e1 _ e3
    subst e1 e3
    exact h5)
  obtain ⟨w0, hw0⟩ : ∃ w0, w0 = w.alloc (.cells #[.string x.f, .string x.p, .int .i64 x.q, .bool x.r] 55) := ⟨_, rfl⟩
  have hb0 : Below w.heap.size w w0 := hw0 ▸ (Below.refl w.heap.size w).alloc (Nat.le_refl _) _
  have hz0 : w0.heap.size = w.heap.size + 1 := by rw [hw0]; simp
  have c0 : w0.cell? ⟨w.heap.size, 0, none⟩ = some (.string x.f) := by rw [hw0]; simp
  have c1 : w0.cell? ⟨w.heap.size, 1, none⟩ = some (.string x.p) := by rw [hw0]; simp
  have c2 : w0.cell? ⟨w.heap.size, 2, none⟩ = some (.int .i64 x.q) := by rw [hw0]; simp
  have c3 : w0.cell? ⟨w.heap.size, 3, none⟩ = some (.bool x.r) := by rw [hw0]; simp
  have H := Lib.hid ((h.below hb0).more hb0.size)
  have HZ := Lib.hid hz0
  clear h hz0
  go_enter Tryd.func38, Tryd.ntmps38
  go_upto_region 1 with fail
  rw [← hw0]
  have HW := Lib.hid hw0
  clear hw0
  go_wp2
  go_loopw [6] (fun i wr => ∃ k : Nat, k ≤ L.length ∧ i = .int .i64 k ∧ Below w0.heap.size w0 wr ∧ Hid (AheadW L x.f k)) (fun i _ => L.length - (intOf i).toNat)
  case atStart => exact ⟨0, by omega, rfl, Below.refl _ _, Lib.hid (fun t x ht => absurd ht (Nat.not_lt_zero _))⟩
  case round =>
    obtain ⟨k, hk, rfl, hb, HA⟩ := hrel
    have d0 := cell_bel c0 hb
    by_cases hlt : k < L.length
    · obtain ⟨y, hy⟩ : ∃ y, L[k]? = some y := ⟨_, List.getElem?_eq_getElem hlt⟩
      obtain ⟨b, o, rfl, hbl, g0, g1, g2, g3⟩ := wish_cell (H.out.below hb) rfl hy
      have HY := Lib.hid hy
      clear hy
      cases hl : lessB y.f x.f
      · have HP : Hid (posW L x.f = k) := Lib.hid (HA.out.pos hk (fun z hz => by rw [HY.out] at hz; injection hz with hz; subst hz; exact hl))
        have hl' : Op.bytesLess y.f.toList x.f.toList = false := hl
        clear hl
        go_wp2
        refine wp_region_held_drew (S := fun wx => wx.cell? ⟨b, o + k * 4, none⟩ = some (.string y.f) ∧ wx.cell? ⟨w.heap.size, 0, none⟩ = some (.string x.f)) (by kernel_rfl) ⟨g0, d0⟩ (fun hHeld => ?_)
        refine take_h 0 ⟨?_, ?_, ?_, by kernel_rfl, by kernel_rfl, by kernel_rfl, ?_, ?_, by assumption, ?_⟩
        rotate_left 2
        · (simp only [List.getElem?_toArray, List.getElem?_cons_succ, List.getElem?_cons_zero]; exact rfl)
        · exact fun _ _ _ h => h
        · first
            | (refine Or.inr ⟨by rfl, ?_⟩; exact rfl)
            | (refine Or.inl ⟨by rfl, ?_⟩
               intro w hSw
               (try dsimp only at hSw)
               (try go_split_ands)
               go_simp
               (first | done | with_reducible rfl))
        try simp only [Act.put, List.setIfInBounds_toArray, List.set_cons_zero, List.set_cons_succ]
        refine take_h 1 ⟨?_, ?_, ?_, by kernel_rfl, by kernel_rfl, by kernel_rfl, ?_, ?_, by assumption, ?_⟩
        rotate_left 2
        · (simp only [List.getElem?_toArray, List.getElem?_cons_succ, List.getElem?_cons_zero]; exact rfl)
        · exact fun _ _ _ h => h
        · first
            | (refine Or.inr ⟨by rfl, ?_⟩; exact rfl)
            | (refine Or.inl ⟨by rfl, ?_⟩
               intro w hSw
               (try dsimp only at hSw)
               (try go_split_ands)
               go_simp
               (first | done | with_reducible rfl))
        try simp only [Act.put, List.setIfInBounds_toArray, List.set_cons_zero, List.set_cons_succ]
        refine take_h 2 ⟨?_, ?_, ?_, by kernel_rfl, by kernel_rfl, by kernel_rfl, ?_, ?_, by assumption, ?_⟩
        rotate_left 2
        · (simp only [List.getElem?_toArray, List.getElem?_cons_succ, List.getElem?_cons_zero]; exact rfl)
        · exact fun _ _ _ h => h
        · first
            | (refine Or.inr ⟨by rfl, ?_⟩; exact rfl)
            | (refine Or.inl ⟨by rfl, ?_⟩
               intro w hSw
               (try dsimp only at hSw)
               (try go_split_ands)
               go_simp
               (first | done | with_reducible rfl))
        try simp only [Act.put, List.setIfInBounds_toArray, List.set_cons_zero, List.set_cons_succ]
        refine take_h 3 ⟨?_, ?_, ?_, by kernel_rfl, by kernel_rfl, by kernel_rfl, ?_, ?_, by assumption, ?_⟩
        rotate_left 2
        · (simp only [List.getElem?_toArray, List.getElem?_cons_succ, List.getElem?_cons_zero]; exact rfl)
        · exact fun _ _ _ h => h
        · first
            | (refine Or.inr ⟨by rfl, ?_⟩; exact rfl)
            | (refine Or.inl ⟨by rfl, ?_⟩
               intro w hSw
               (try dsimp only at hSw)
               (try go_split_ands)
               go_simp
               (first | done | with_reducible rfl))
        try simp only [Act.put, List.setIfInBounds_toArray, List.set_cons_zero, List.set_cons_succ]
        refine take_h 4 ⟨?_, ?_, ?_, by kernel_rfl, by kernel_rfl, by kernel_rfl, ?_, ?_, by assumption, ?_⟩
        rotate_left 2
        · (simp only [List.getElem?_toArray, List.getElem?_cons_succ, List.getElem?_cons_zero]; exact rfl)
        · exact fun _ _ _ h => h
        · first
            | (refine Or.inr ⟨by rfl, ?_⟩; exact rfl)
            | (refine Or.inl ⟨by rfl, ?_⟩
               intro w hSw
               (try dsimp only at hSw)
               (try go_split_ands)
               go_simp
               (first | done | with_reducible rfl))
        try simp only [Act.put, List.setIfInBounds_toArray, List.set_cons_zero, List.set_cons_succ]
        refine take_h 5 ⟨?_, ?_, ?_, by kernel_rfl, by kernel_rfl, by kernel_rfl, ?_, ?_, by assumption, ?_⟩
        rotate_left 2
        · (simp only [List.getElem?_toArray, List.getElem?_cons_succ, List.getElem?_cons_zero]; exact rfl)
        · exact fun _ _ _ h => h
        · first
            | (refine Or.inr ⟨by rfl, ?_⟩; exact rfl)
            | (refine Or.inl ⟨by rfl, ?_⟩
               intro w hSw
               (try dsimp only at hSw)
               (try go_split_ands)
               go_simp
               (first | done | with_reducible rfl))
        try simp only [Act.put, List.setIfInBounds_toArray, List.set_cons_zero, List.set_cons_succ]
        refine take_h 6 ⟨?_, ?_, ?_, by kernel_rfl, by kernel_rfl, by kernel_rfl, ?_, ?_, by assumption, ?_⟩
        rotate_left 2
        · (simp only [List.getElem?_toArray, List.getElem?_cons_succ, List.getElem?_cons_zero]; exact rfl)
        · exact fun _ _ _ h => h
        · first
            | (refine Or.inr ⟨by rfl, ?_⟩; exact rfl)
            | (refine Or.inl ⟨by rfl, ?_⟩
               intro w hSw
               (try dsimp only at hSw)
               (try go_split_ands)
               go_simp
               (first | done | with_reducible rfl))
        try simp only [Act.put, List.setIfInBounds_toArray, List.set_cons_zero, List.set_cons_succ]
        refine take_h 7 ⟨?_, ?_, ?_, by kernel_rfl, by kernel_rfl, by kernel_rfl, ?_, ?_, by assumption, ?_⟩
        rotate_left 2
        · (simp only [List.getElem?_toArray, List.getElem?_cons_succ, List.getElem?_cons_zero]; exact rfl)
        · exact fun _ _ _ h => h
        · first
            | (refine Or.inr ⟨by rfl, ?_⟩; exact rfl)
            | (refine Or.inl ⟨by rfl, ?_⟩
               intro w hSw
               (try dsimp only at hSw)
               (try go_split_ands)
               go_simp
               (first | done | with_reducible rfl))
        try simp only [Act.put, List.setIfInBounds_toArray, List.set_cons_zero, List.set_cons_succ]
        refine take_h 8 ⟨?_, ?_, ?_, by kernel_rfl, by kernel_rfl, by kernel_rfl, ?_, ?_, by assumption, ?_⟩
        rotate_left 2
        · (simp only [List.getElem?_toArray, List.getElem?_cons_succ, List.getElem?_cons_zero]; exact rfl)
        · exact fun _ _ _ h => h
        · first
            | (refine Or.inr ⟨by rfl, ?_⟩; exact rfl)
            | (refine Or.inl ⟨by rfl, ?_⟩
               intro w hSw
               (try dsimp only at hSw)
               (try go_split_ands)
               go_simp
               (first | done | with_reducible rfl))
        try simp only [Act.put, List.setIfInBounds_toArray, List.set_cons_zero, List.set_cons_succ]
        refine take_h 9 ⟨?_, ?_, ?_, by kernel_rfl, by kernel_rfl, by kernel_rfl, ?_, ?_, by assumption, ?_⟩
        rotate_left 2
        · (simp only [List.getElem?_toArray, List.getElem?_cons_succ, List.getElem?_cons_zero]; exact rfl)
        · exact fun _ _ _ h => h
        · first
            | (refine Or.inr ⟨by rfl, ?_⟩; exact rfl)
            | (refine Or.inl ⟨by rfl, ?_⟩
               intro w hSw
               (try dsimp only at hSw)
               (try go_split_ands)
               go_simp
               (first | done | with_reducible rfl))
        try simp only [Act.put, List.setIfInBounds_toArray, List.set_cons_zero, List.set_cons_succ]
        refine take_h 10 ⟨?_, ?_, ?_, by kernel_rfl, by kernel_rfl, by kernel_rfl, ?_, ?_, by assumption, ?_⟩
        rotate_left 2
        · (simp only [List.getElem?_toArray, List.getElem?_cons_succ, List.getElem?_cons_zero]; exact rfl)
        · exact fun _ _ _ h => h
        · first
            | (refine Or.inr ⟨by rfl, ?_⟩; exact rfl)
            | (refine Or.inl ⟨by rfl, ?_⟩
               intro w hSw
               (try dsimp only at hSw)
               (try go_split_ands)
               go_simp
               (first | done | with_reducible rfl))
        try simp only [Act.put, List.setIfInBounds_toArray, List.set_cons_zero, List.set_cons_succ]
        refine take_h 11 ⟨?_, ?_, ?_, by kernel_rfl, by kernel_rfl, by kernel_rfl, ?_, ?_, by assumption, ?_⟩
        rotate_left 2
        · (simp only [List.getElem?_toArray, List.getElem?_cons_succ, List.getElem?_cons_zero]; exact rfl)
        · exact fun _ _ _ h => h
        · first
            | (refine Or.inr ⟨by rfl, ?_⟩; exact rfl)
            | (refine Or.inl ⟨by rfl, ?_⟩
               intro w hSw
               (try dsimp only at hSw)
               (try go_split_ands)
               go_simp
               (first | done | with_reducible rfl))
        try simp only [Act.put, List.setIfInBounds_toArray, List.set_cons_zero, List.set_cons_succ]
        refine take_h 12 ⟨?_, ?_, ?_, by kernel_rfl, by kernel_rfl, by kernel_rfl, ?_, ?_, by assumption, ?_⟩
        rotate_left 2
        · (simp only [List.getElem?_toArray, List.getElem?_cons_succ, List.getElem?_cons_zero]; exact rfl)
        · exact fun _ _ _ h => h
        · first
            | (refine Or.inr ⟨by rfl, ?_⟩; exact rfl)
            | (refine Or.inl ⟨by rfl, ?_⟩
               intro w hSw
               (try dsimp only at hSw)
               (try go_split_ands)
               go_simp
               (first | done | with_reducible rfl))
        try simp only [Act.put, List.setIfInBounds_toArray, List.set_cons_zero, List.set_cons_succ]
        refine take_h 13 ⟨?_, ?_, ?_, by kernel_rfl, by kernel_rfl, by kernel_rfl, ?_, ?_, by assumption, ?_⟩
        rotate_left 2
        · (simp only [List.getElem?_toArray, List.getElem?_cons_succ, List.getElem?_cons_zero]; exact rfl)
        · exact fun _ _ _ h => h
        · first
            | (refine Or.inr ⟨by rfl, ?_⟩; exact rfl)
            | (refine Or.inl ⟨by rfl, ?_⟩
               intro w hSw
               (try dsimp only at hSw)
               (try go_split_ands)
               go_simp
               (first | done | with_reducible rfl))
        try simp only [Act.put, List.setIfInBounds_toArray, List.set_cons_zero, List.set_cons_succ]
        refine wpAnyH_done (by kernel_rfl) ?_ _
        clear hHeld
        have hkc : k ≤ cap := by omega
        go_wp2_with fail
        refine (copy_cut H.out hk hn hb.drew).mono ?_
        rintro e w2 ⟨v2, rfl, ho2, hb2⟩
        have hbx : Below wr.heap.size wr w2 := bel_tr (Below.refl _ wr).drew hb2
        have hbt : Below w0.heap.size w0 w2.drew := (bel_to hb hbx (Nat.le_refl _)).drew
        have hbw : Below w.heap.size w w2.drew := hb0.trans (hbt.mono hb0.size)
        have hr0 := hbw.size
        have f0 := cell_bel d0 hbx
        have f1 : w2.drew.cell? ⟨w.heap.size, 1, none⟩ = some (.string x.p) := cell_bel c1 hbt
        have f2 : w2.drew.cell? ⟨w.heap.size, 2, none⟩ = some (.int .i64 x.q) := cell_bel c2 hbt
        have f3 : w2.drew.cell? ⟨w.heap.size, 3, none⟩ = some (.bool x.r) := cell_bel c3 hbt
        have hzz : w0.heap.size ≤ wr.drew.heap.size := by have := Below.size hb; simp; omega
        have HO2 := Lib.hid ((own_mono (B' := w0.heap.size) ho2 hzz).drew)
        have hl0 : w0.heap.size ≤ w2.drew.heap.size := Below.size hbt
        clear ho2 hb2
        have m0 : w2.cell? ⟨b, o + k * 4, none⟩ = some (.string y.f) := (hbx.cell (World.block_lt_of_cell? _ _ g0)).trans g0
        cases he : (y.f.toList == x.f.toList)
        · have HTH := Lib.hid (there_is HP.out HY.out he)
          go_wp2
          refine wp_region_held_drew (S := fun wx => wx.cell? ⟨b, o + k * 4, none⟩ = some (.string y.f) ∧ wx.cell? ⟨w.heap.size, 0, none⟩ = some (.string x.f)) (by kernel_rfl) ⟨m0, f0⟩ (fun hHeld => ?_)
          refine take_h 0 ⟨?_, ?_, ?_, by kernel_rfl, by kernel_rfl, by kernel_rfl, ?_, ?_, by assumption, ?_⟩
          rotate_left 2
          · (simp only [List.getElem?_toArray, List.getElem?_cons_succ, List.getElem?_cons_zero]; exact rfl)
          · exact fun _ _ _ h => h
          · first
              | (refine Or.inr ⟨by rfl, ?_⟩; exact rfl)
              | (refine Or.inl ⟨by rfl, ?_⟩
                 intro w hSw
                 (try dsimp only at hSw)
                 (try go_split_ands)
                 go_simp
                 (first | done | with_reducible rfl))
          try simp only [Act.put, List.setIfInBounds_toArray, List.set_cons_zero, List.set_cons_succ]
          refine take_h 1 ⟨?_, ?_, ?_, by kernel_rfl, by kernel_rfl, by kernel_rfl, ?_, ?_, by assumption, ?_⟩
          rotate_left 2
          · (simp only [List.getElem?_toArray, List.getElem?_cons_succ, List.getElem?_cons_zero]; exact rfl)
          · exact fun _ _ _ h => h
          · first
              | (refine Or.inr ⟨by rfl, ?_⟩; exact rfl)
              | (refine Or.inl ⟨by rfl, ?_⟩
                 intro w hSw
                 (try dsimp only at hSw)
                 (try go_split_ands)
                 go_simp
                 (first | done | with_reducible rfl))
          try simp only [Act.put, List.setIfInBounds_toArray, List.set_cons_zero, List.set_cons_succ]
          refine take_h 2 ⟨?_, ?_, ?_, by kernel_rfl, by kernel_rfl, by kernel_rfl, ?_, ?_, by assumption, ?_⟩
          rotate_left 2
          · (simp only [List.getElem?_toArray, List.getElem?_cons_succ, List.getElem?_cons_zero]; exact rfl)
          · exact fun _ _ _ h => h
          · first
              | (refine Or.inr ⟨by rfl, ?_⟩; exact rfl)
              | (refine Or.inl ⟨by rfl, ?_⟩
                 intro w hSw
                 (try dsimp only at hSw)
                 (try go_split_ands)
                 go_simp
                 (first | done | with_reducible rfl))
          try simp only [Act.put, List.setIfInBounds_toArray, List.set_cons_zero, List.set_cons_succ]
          refine take_h 3 ⟨?_, ?_, ?_, by kernel_rfl, by kernel_rfl, by kernel_rfl, ?_, ?_, by assumption, ?_⟩
          rotate_left 2
          · (simp only [List.getElem?_toArray, List.getElem?_cons_succ, List.getElem?_cons_zero]; exact rfl)
          · exact fun _ _ _ h => h
          · first
              | (refine Or.inr ⟨by rfl, ?_⟩; exact rfl)
              | (refine Or.inl ⟨by rfl, ?_⟩
                 intro w hSw
                 (try dsimp only at hSw)
                 (try go_split_ands)
                 go_simp
                 (first | done | with_reducible rfl))
          try simp only [Act.put, List.setIfInBounds_toArray, List.set_cons_zero, List.set_cons_succ]
          refine take_h 4 ⟨?_, ?_, ?_, by kernel_rfl, by kernel_rfl, by kernel_rfl, ?_, ?_, by assumption, ?_⟩
          rotate_left 2
          · (simp only [List.getElem?_toArray, List.getElem?_cons_succ, List.getElem?_cons_zero]; exact rfl)
          · exact fun _ _ _ h => h
          · first
              | (refine Or.inr ⟨by rfl, ?_⟩; exact rfl)
              | (refine Or.inl ⟨by rfl, ?_⟩
                 intro w hSw
                 (try dsimp only at hSw)
                 (try go_split_ands)
                 go_simp
                 (first | done | with_reducible rfl))
          try simp only [Act.put, List.setIfInBounds_toArray, List.set_cons_zero, List.set_cons_succ]
          refine take_h 5 ⟨?_, ?_, ?_, by kernel_rfl, by kernel_rfl, by kernel_rfl, ?_, ?_, by assumption, ?_⟩
          rotate_left 2
          · (simp only [List.getElem?_toArray, List.getElem?_cons_succ, List.getElem?_cons_zero]; exact rfl)
          · exact fun _ _ _ h => h
          · first
              | (refine Or.inr ⟨by rfl, ?_⟩; exact rfl)
              | (refine Or.inl ⟨by rfl, ?_⟩
                 intro w hSw
                 (try dsimp only at hSw)
                 (try go_split_ands)
                 go_simp
                 (first | done | with_reducible rfl))
          try simp only [Act.put, List.setIfInBounds_toArray, List.set_cons_zero, List.set_cons_succ]
          refine take_h 6 ⟨?_, ?_, ?_, by kernel_rfl, by kernel_rfl, by kernel_rfl, ?_, ?_, by assumption, ?_⟩
          rotate_left 2
          · (simp only [List.getElem?_toArray, List.getElem?_cons_succ, List.getElem?_cons_zero]; exact rfl)
          · exact fun _ _ _ h => h
          · first
              | (refine Or.inr ⟨by rfl, ?_⟩; exact rfl)
              | (refine Or.inl ⟨by rfl, ?_⟩
                 intro w hSw
                 (try dsimp only at hSw)
                 (try go_split_ands)
                 go_simp
                 (first | done | with_reducible rfl))
          try simp only [Act.put, List.setIfInBounds_toArray, List.set_cons_zero, List.set_cons_succ]
          refine take_h 7 ⟨?_, ?_, ?_, by kernel_rfl, by kernel_rfl, by kernel_rfl, ?_, ?_, by assumption, ?_⟩
          rotate_left 2
          · (simp only [List.getElem?_toArray, List.getElem?_cons_succ, List.getElem?_cons_zero]; exact rfl)
          · exact fun _ _ _ h => h
          · first
              | (refine Or.inr ⟨by rfl, ?_⟩; exact rfl)
              | (refine Or.inl ⟨by rfl, ?_⟩
                 intro w hSw
                 (try dsimp only at hSw)
                 (try go_split_ands)
                 go_simp
                 (first | done | with_reducible rfl))
          try simp only [Act.put, List.setIfInBounds_toArray, List.set_cons_zero, List.set_cons_succ]
          refine take_h 8 ⟨?_, ?_, ?_, by kernel_rfl, by kernel_rfl, by kernel_rfl, ?_, ?_, by assumption, ?_⟩
          rotate_left 2
          · (simp only [List.getElem?_toArray, List.getElem?_cons_succ, List.getElem?_cons_zero]; exact rfl)
          · exact fun _ _ _ h => h
          · first
              | (refine Or.inr ⟨by rfl, ?_⟩; exact rfl)
              | (refine Or.inl ⟨by rfl, ?_⟩
                 intro w hSw
                 (try dsimp only at hSw)
                 (try go_split_ands)
                 go_simp
                 (first | done | with_reducible rfl))
          try simp only [Act.put, List.setIfInBounds_toArray, List.set_cons_zero, List.set_cons_succ]
          refine take_h 9 ⟨?_, ?_, ?_, by kernel_rfl, by kernel_rfl, by kernel_rfl, ?_, ?_, by assumption, ?_⟩
          rotate_left 2
          · (simp only [List.getElem?_toArray, List.getElem?_cons_succ, List.getElem?_cons_zero]; exact rfl)
          · exact fun _ _ _ h => h
          · first
              | (refine Or.inr ⟨by rfl, ?_⟩; exact rfl)
              | (refine Or.inl ⟨by rfl, ?_⟩
                 intro w hSw
                 (try dsimp only at hSw)
                 (try go_split_ands)
                 go_simp
                 (first | done | with_reducible rfl))
          try simp only [Act.put, List.setIfInBounds_toArray, List.set_cons_zero, List.set_cons_succ]
          refine take_h 10 ⟨?_, ?_, ?_, by kernel_rfl, by kernel_rfl, by kernel_rfl, ?_, ?_, by assumption, ?_⟩
          rotate_left 2
          · (simp only [List.getElem?_toArray, List.getElem?_cons_succ, List.getElem?_cons_zero]; exact rfl)
          · exact fun _ _ _ h => h
          · first
              | (refine Or.inr ⟨by rfl, ?_⟩; exact rfl)
              | (refine Or.inl ⟨by rfl, ?_⟩
                 intro w hSw
                 (try dsimp only at hSw)
                 (try go_split_ands)
                 go_simp
                 (first | done | with_reducible rfl))
          try simp only [Act.put, List.setIfInBounds_toArray, List.set_cons_zero, List.set_cons_succ]
          refine take_h 11 ⟨?_, ?_, ?_, by kernel_rfl, by kernel_rfl, by kernel_rfl, ?_, ?_, by assumption, ?_⟩
          rotate_left 2
          · (simp only [List.getElem?_toArray, List.getElem?_cons_succ, List.getElem?_cons_zero]; exact rfl)
          · exact fun _ _ _ h => h
          · first
              | (refine Or.inr ⟨by rfl, ?_⟩; exact rfl)
              | (refine Or.inl ⟨by rfl, ?_⟩
                 intro w hSw
                 (try dsimp only at hSw)
                 (try go_split_ands)
                 go_simp
                 (first | done | with_reducible rfl))
          try simp only [Act.put, List.setIfInBounds_toArray, List.set_cons_zero, List.set_cons_succ]
          refine take_h 12 ⟨?_, ?_, ?_, by kernel_rfl, by kernel_rfl, by kernel_rfl, ?_, ?_, by assumption, ?_⟩
          rotate_left 2
          · (simp only [List.getElem?_toArray, List.getElem?_cons_succ, List.getElem?_cons_zero]; exact rfl)
          · exact fun _ _ _ h => h
          · first
              | (refine Or.inr ⟨by rfl, ?_⟩; exact rfl)
              | (refine Or.inl ⟨by rfl, ?_⟩
                 intro w hSw
                 (try dsimp only at hSw)
                 (try go_split_ands)
                 go_simp
                 (first | done | with_reducible rfl))
          try simp only [Act.put, List.setIfInBounds_toArray, List.set_cons_zero, List.set_cons_succ]
          refine take_h 13 ⟨?_, ?_, ?_, by kernel_rfl, by kernel_rfl, by kernel_rfl, ?_, ?_, by assumption, ?_⟩
          rotate_left 2
          · (simp only [List.getElem?_toArray, List.getElem?_cons_succ, List.getElem?_cons_zero]; exact rfl)
          · exact fun _ _ _ h => h
          · first
              | (refine Or.inr ⟨by rfl, ?_⟩; exact rfl)
              | (refine Or.inl ⟨by rfl, ?_⟩
                 intro w hSw
                 (try dsimp only at hSw)
                 (try go_split_ands)
                 go_simp
                 (first | done | with_reducible rfl))
          try simp only [Act.put, List.setIfInBounds_toArray, List.set_cons_zero, List.set_cons_succ]
          refine take_h 14 ⟨?_, ?_, ?_, by kernel_rfl, by kernel_rfl, by kernel_rfl, ?_, ?_, by assumption, ?_⟩
          rotate_left 2
          · (simp only [List.getElem?_toArray, List.getElem?_cons_succ, List.getElem?_cons_zero]; exact rfl)
          · exact fun _ _ _ h => h
          · first
              | (refine Or.inr ⟨by rfl, ?_⟩; exact rfl)
              | (refine Or.inl ⟨by rfl, ?_⟩
                 intro w hSw
                 (try dsimp only at hSw)
                 (try go_split_ands)
                 go_simp
                 (first | done | with_reducible rfl))
          try simp only [Act.put, List.setIfInBounds_toArray, List.set_cons_zero, List.set_cons_succ]
          refine wpAnyH_done (by kernel_rfl) ?_ _
          clear hHeld he
          by_cases hp0 : x.p.toList = []
          · have hpb : (x.p.toList == []) = true := beq_iff_eq.2 hp0
            obtain ⟨R, hR⟩ : ∃ R, R = L.take k ++ L.drop k := ⟨_, rfl⟩
            have HT := rput_empty HP.out HTH.out (d := k) (by first | rfl | simp) hp0
            rw [← hR] at HT
            have HT1 : Hid ((rputL L x).1 = R) := Lib.hid (by rw [HT])
            have HT2 : Hid ((rputL L x).2 = 0) := Lib.hid (by rw [HT])
            have HLN : Hid (k = (L.take k).length) := Lib.hid (by rw [List.length_take]; omega)
            have HRR := Lib.hid hR
            have HO4 := HO2
            have hbt5 := hbt
            clear HT hR
            go_upto_region 12 with fail
            have hd := Rd_drop (H.out.below hbt5) (j := k) (by omega)
            rw [wCells_drop L k (by omega), if_neg (by omega)] at hd
            obtain ⟨n1, xs1, HO5, HR1, HR2, hn1⟩ := letters HO4.out HLN.out rfl k HRR.out
            have hn1l : n1 ≤ 1000001 := by omega
            have HD := Lib.hid hd
            clear hn1 hd
            go_wp2_with (at_builtin; refine wpList_app _ rfl (.tmp 60) (.tmp 63) _ rfl w0.heap.size 55 wZ 4 48 Tryd.underlying49 inf_w rfl (by omega) _ n1 xs1 rfl HO5.out _ _ (L.length - k) (wCells (L.drop k)) rfl HD.out (wCells_one _) ?_ ?_ ?_ ?_)
            · unfold maxLen; omega
            · omega
            · first | exact Below.size hbt5 | simpa using Below.size hbt5
            intro v6 w6 ho6 hg6 _
            have hb6 : Below w0.heap.size w0 w6 := Below.grown hbt5 hg6 (Below.size hbt5) (fun q hq => (HO5.out.lt q hq).1)
            have ho7 : w6.ownsRow w0.heap.size 55 4 v6 R.length (wCells R) := by rw [← HR1.out, ← HR2.out]; exact ho6
            have HO6 := Lib.hid ho7
            clear ho6 ho7 hg6
            go_wp2
            go_ret2
            rw [HT2.out, HT1.out]
            exact ⟨_, rfl, own_mono HO6.out hb0.size, hb0.trans (hb6.mono hb0.size)⟩
          · have hpb : (x.p.toList == []) = false := beq_eq_false_iff_ne.2 hp0
            by_cases h16 : false = false ∧ 16 ≤ L.length
            · have HT := rput_full (HTH.out.trans h16.1) hp0 h16.2
              have HT1 := Lib.hid HT
              have hge := h16.2
              clear HT h16
              go_wp2
              go_ret2
              rw [HT1.out]
              exact ⟨_, rfl, World.ownsRow_nil _ _ _ _, hbw⟩
            · obtain ⟨R, hR⟩ : ∃ R, R = L.take k ++ [x] ++ L.drop k := ⟨_, rfl⟩
              have HT := rput_more HP.out HTH.out (d := k) (by first | rfl | simp) hp0 h16
              rw [← hR] at HT
              have HT1 : Hid ((rputL L x).1 = R) := Lib.hid (by rw [HT])
              have HT2 : Hid ((rputL L x).2 = 0) := Lib.hid (by rw [HT])
              have HLN : Hid (k + 1 = (L.take k ++ [x]).length) := Lib.hid (by rw [List.length_append, List.length_take]; simp; omega)
              have HRR := Lib.hid hR
              have hnf : false = false → ¬ (16 : Int) ≤ (L.length : Int) := fun e h => h16 ⟨e, by omega⟩
              clear HT h16 hR
              have hnf := hnf rfl
              go_wp2_with (at_builtin; refine wpList_app _ rfl (.tmp 53) (.tmp 55) _ rfl w0.heap.size 55 wZ 4 48 Tryd.underlying49 inf_w rfl (by omega) _ k (wCells (L.take k)) rfl (HO2.out.alloc _) _ _ 1 (wC x) rfl (one_newW _ _) (wC_one x) ?_ ?_ ?_ ?_)
              · unfold maxLen; omega
              · omega
              · first | exact Below.size (Below.alloc hbt (Below.size hbt) (.cells #[.string x.f, .string x.p, .int .i64 x.q, .bool x.r] 55)) | simpa using Below.size (Below.alloc hbt (Below.size hbt) (.cells #[.string x.f, .string x.p, .int .i64 x.q, .bool x.r] 55))
              intro v5 w5 ho5 hg5 _
              have hbt5 : Below w0.heap.size w0 w5 := ((Below.alloc hbt (Below.size hbt) (.cells #[.string x.f, .string x.p, .int .i64 x.q, .bool x.r] 55)).grown hg5 (Below.size (Below.alloc hbt (Below.size hbt) (.cells #[.string x.f, .string x.p, .int .i64 x.q, .bool x.r] 55))) (fun q hq => (HO2.out.lt q hq).1))
              rw [wCells_snoc] at ho5
              have HO4 := Lib.hid ho5
              clear ho5 hg5
              go_upto_region 12 with fail
              have hd := Rd_drop (H.out.below hbt5) (j := k) (by omega)
              rw [wCells_drop L k (by omega), if_neg (by omega)] at hd
              obtain ⟨n1, xs1, HO5, HR1, HR2, hn1⟩ := letters HO4.out HLN.out rfl k HRR.out
              have hn1l : n1 ≤ 1000001 := by omega
              have HD := Lib.hid hd
              clear hn1 hd
              go_wp2_with (at_builtin; refine wpList_app _ rfl (.tmp 60) (.tmp 63) _ rfl w0.heap.size 55 wZ 4 48 Tryd.underlying49 inf_w rfl (by omega) _ n1 xs1 rfl HO5.out _ _ (L.length - k) (wCells (L.drop k)) rfl HD.out (wCells_one _) ?_ ?_ ?_ ?_)
              · unfold maxLen; omega
              · omega
              · first | exact Below.size hbt5 | simpa using Below.size hbt5
              intro v6 w6 ho6 hg6 _
              have hb6 : Below w0.heap.size w0 w6 := Below.grown hbt5 hg6 (Below.size hbt5) (fun q hq => (HO5.out.lt q hq).1)
              have ho7 : w6.ownsRow w0.heap.size 55 4 v6 R.length (wCells R) := by rw [← HR1.out, ← HR2.out]; exact ho6
              have HO6 := Lib.hid ho7
              clear ho6 ho7 hg6
              go_wp2
              go_ret2
              rw [HT2.out, HT1.out]
              exact ⟨_, rfl, own_mono HO6.out hb0.size, hb0.trans (hb6.mono hb0.size)⟩
        · have HTH := Lib.hid (there_is HP.out HY.out he)
          go_wp2
          refine wp_region_held_drew (S := fun wx => wx.cell? ⟨b, o + k * 4, none⟩ = some (.string y.f) ∧ wx.cell? ⟨w.heap.size, 0, none⟩ = some (.string x.f)) (by kernel_rfl) ⟨m0, f0⟩ (fun hHeld => ?_)
          refine take_h 0 ⟨?_, ?_, ?_, by kernel_rfl, by kernel_rfl, by kernel_rfl, ?_, ?_, by assumption, ?_⟩
          rotate_left 2
          · (simp only [List.getElem?_toArray, List.getElem?_cons_succ, List.getElem?_cons_zero]; exact rfl)
          · exact fun _ _ _ h => h
          · first
              | (refine Or.inr ⟨by rfl, ?_⟩; exact rfl)
              | (refine Or.inl ⟨by rfl, ?_⟩
                 intro w hSw
                 (try dsimp only at hSw)
                 (try go_split_ands)
                 go_simp
                 (first | done | with_reducible rfl))
          try simp only [Act.put, List.setIfInBounds_toArray, List.set_cons_zero, List.set_cons_succ]
          refine take_h 1 ⟨?_, ?_, ?_, by kernel_rfl, by kernel_rfl, by kernel_rfl, ?_, ?_, by assumption, ?_⟩
          rotate_left 2
          · (simp only [List.getElem?_toArray, List.getElem?_cons_succ, List.getElem?_cons_zero]; exact rfl)
          · exact fun _ _ _ h => h
          · first
              | (refine Or.inr ⟨by rfl, ?_⟩; exact rfl)
              | (refine Or.inl ⟨by rfl, ?_⟩
                 intro w hSw
                 (try dsimp only at hSw)
                 (try go_split_ands)
                 go_simp
                 (first | done | with_reducible rfl))
          try simp only [Act.put, List.setIfInBounds_toArray, List.set_cons_zero, List.set_cons_succ]
          refine take_h 2 ⟨?_, ?_, ?_, by kernel_rfl, by kernel_rfl, by kernel_rfl, ?_, ?_, by assumption, ?_⟩
          rotate_left 2
          · (simp only [List.getElem?_toArray, List.getElem?_cons_succ, List.getElem?_cons_zero]; exact rfl)
          · exact fun _ _ _ h => h
          · first
              | (refine Or.inr ⟨by rfl, ?_⟩; exact rfl)
              | (refine Or.inl ⟨by rfl, ?_⟩
                 intro w hSw
                 (try dsimp only at hSw)
                 (try go_split_ands)
                 go_simp
                 (first | done | with_reducible rfl))
          try simp only [Act.put, List.setIfInBounds_toArray, List.set_cons_zero, List.set_cons_succ]
          refine take_h 3 ⟨?_, ?_, ?_, by kernel_rfl, by kernel_rfl, by kernel_rfl, ?_, ?_, by assumption, ?_⟩
          rotate_left 2
          · (simp only [List.getElem?_toArray, List.getElem?_cons_succ, List.getElem?_cons_zero]; exact rfl)
          · exact fun _ _ _ h => h
          · first
              | (refine Or.inr ⟨by rfl, ?_⟩; exact rfl)
              | (refine Or.inl ⟨by rfl, ?_⟩
                 intro w hSw
                 (try dsimp only at hSw)
                 (try go_split_ands)
                 go_simp
                 (first | done | with_reducible rfl))
          try simp only [Act.put, List.setIfInBounds_toArray, List.set_cons_zero, List.set_cons_succ]
          refine take_h 4 ⟨?_, ?_, ?_, by kernel_rfl, by kernel_rfl, by kernel_rfl, ?_, ?_, by assumption, ?_⟩
          rotate_left 2
          · (simp only [List.getElem?_toArray, List.getElem?_cons_succ, List.getElem?_cons_zero]; exact rfl)
          · exact fun _ _ _ h => h
          · first
              | (refine Or.inr ⟨by rfl, ?_⟩; exact rfl)
              | (refine Or.inl ⟨by rfl, ?_⟩
                 intro w hSw
                 (try dsimp only at hSw)
                 (try go_split_ands)
                 go_simp
                 (first | done | with_reducible rfl))
          try simp only [Act.put, List.setIfInBounds_toArray, List.set_cons_zero, List.set_cons_succ]
          refine take_h 5 ⟨?_, ?_, ?_, by kernel_rfl, by kernel_rfl, by kernel_rfl, ?_, ?_, by assumption, ?_⟩
          rotate_left 2
          · (simp only [List.getElem?_toArray, List.getElem?_cons_succ, List.getElem?_cons_zero]; exact rfl)
          · exact fun _ _ _ h => h
          · first
              | (refine Or.inr ⟨by rfl, ?_⟩; exact rfl)
              | (refine Or.inl ⟨by rfl, ?_⟩
                 intro w hSw
                 (try dsimp only at hSw)
                 (try go_split_ands)
                 go_simp
                 (first | done | with_reducible rfl))
          try simp only [Act.put, List.setIfInBounds_toArray, List.set_cons_zero, List.set_cons_succ]
          refine take_h 6 ⟨?_, ?_, ?_, by kernel_rfl, by kernel_rfl, by kernel_rfl, ?_, ?_, by assumption, ?_⟩
          rotate_left 2
          · (simp only [List.getElem?_toArray, List.getElem?_cons_succ, List.getElem?_cons_zero]; exact rfl)
          · exact fun _ _ _ h => h
          · first
              | (refine Or.inr ⟨by rfl, ?_⟩; exact rfl)
              | (refine Or.inl ⟨by rfl, ?_⟩
                 intro w hSw
                 (try dsimp only at hSw)
                 (try go_split_ands)
                 go_simp
                 (first | done | with_reducible rfl))
          try simp only [Act.put, List.setIfInBounds_toArray, List.set_cons_zero, List.set_cons_succ]
          refine take_h 7 ⟨?_, ?_, ?_, by kernel_rfl, by kernel_rfl, by kernel_rfl, ?_, ?_, by assumption, ?_⟩
          rotate_left 2
          · (simp only [List.getElem?_toArray, List.getElem?_cons_succ, List.getElem?_cons_zero]; exact rfl)
          · exact fun _ _ _ h => h
          · first
              | (refine Or.inr ⟨by rfl, ?_⟩; exact rfl)
              | (refine Or.inl ⟨by rfl, ?_⟩
                 intro w hSw
                 (try dsimp only at hSw)
                 (try go_split_ands)
                 go_simp
                 (first | done | with_reducible rfl))
          try simp only [Act.put, List.setIfInBounds_toArray, List.set_cons_zero, List.set_cons_succ]
          refine take_h 8 ⟨?_, ?_, ?_, by kernel_rfl, by kernel_rfl, by kernel_rfl, ?_, ?_, by assumption, ?_⟩
          rotate_left 2
          · (simp only [List.getElem?_toArray, List.getElem?_cons_succ, List.getElem?_cons_zero]; exact rfl)
          · exact fun _ _ _ h => h
          · first
              | (refine Or.inr ⟨by rfl, ?_⟩; exact rfl)
              | (refine Or.inl ⟨by rfl, ?_⟩
                 intro w hSw
                 (try dsimp only at hSw)
                 (try go_split_ands)
                 go_simp
                 (first | done | with_reducible rfl))
          try simp only [Act.put, List.setIfInBounds_toArray, List.set_cons_zero, List.set_cons_succ]
          refine take_h 9 ⟨?_, ?_, ?_, by kernel_rfl, by kernel_rfl, by kernel_rfl, ?_, ?_, by assumption, ?_⟩
          rotate_left 2
          · (simp only [List.getElem?_toArray, List.getElem?_cons_succ, List.getElem?_cons_zero]; exact rfl)
          · exact fun _ _ _ h => h
          · first
              | (refine Or.inr ⟨by rfl, ?_⟩; exact rfl)
              | (refine Or.inl ⟨by rfl, ?_⟩
                 intro w hSw
                 (try dsimp only at hSw)
                 (try go_split_ands)
                 go_simp
                 (first | done | with_reducible rfl))
          try simp only [Act.put, List.setIfInBounds_toArray, List.set_cons_zero, List.set_cons_succ]
          refine take_h 10 ⟨?_, ?_, ?_, by kernel_rfl, by kernel_rfl, by kernel_rfl, ?_, ?_, by assumption, ?_⟩
          rotate_left 2
          · (simp only [List.getElem?_toArray, List.getElem?_cons_succ, List.getElem?_cons_zero]; exact rfl)
          · exact fun _ _ _ h => h
          · first
              | (refine Or.inr ⟨by rfl, ?_⟩; exact rfl)
              | (refine Or.inl ⟨by rfl, ?_⟩
                 intro w hSw
                 (try dsimp only at hSw)
                 (try go_split_ands)
                 go_simp
                 (first | done | with_reducible rfl))
          try simp only [Act.put, List.setIfInBounds_toArray, List.set_cons_zero, List.set_cons_succ]
          refine take_h 11 ⟨?_, ?_, ?_, by kernel_rfl, by kernel_rfl, by kernel_rfl, ?_, ?_, by assumption, ?_⟩
          rotate_left 2
          · (simp only [List.getElem?_toArray, List.getElem?_cons_succ, List.getElem?_cons_zero]; exact rfl)
          · exact fun _ _ _ h => h
          · first
              | (refine Or.inr ⟨by rfl, ?_⟩; exact rfl)
              | (refine Or.inl ⟨by rfl, ?_⟩
                 intro w hSw
                 (try dsimp only at hSw)
                 (try go_split_ands)
                 go_simp
                 (first | done | with_reducible rfl))
          try simp only [Act.put, List.setIfInBounds_toArray, List.set_cons_zero, List.set_cons_succ]
          refine take_h 12 ⟨?_, ?_, ?_, by kernel_rfl, by kernel_rfl, by kernel_rfl, ?_, ?_, by assumption, ?_⟩
          rotate_left 2
          · (simp only [List.getElem?_toArray, List.getElem?_cons_succ, List.getElem?_cons_zero]; exact rfl)
          · exact fun _ _ _ h => h
          · first
              | (refine Or.inr ⟨by rfl, ?_⟩; exact rfl)
              | (refine Or.inl ⟨by rfl, ?_⟩
                 intro w hSw
                 (try dsimp only at hSw)
                 (try go_split_ands)
                 go_simp
                 (first | done | with_reducible rfl))
          try simp only [Act.put, List.setIfInBounds_toArray, List.set_cons_zero, List.set_cons_succ]
          refine take_h 13 ⟨?_, ?_, ?_, by kernel_rfl, by kernel_rfl, by kernel_rfl, ?_, ?_, by assumption, ?_⟩
          rotate_left 2
          · (simp only [List.getElem?_toArray, List.getElem?_cons_succ, List.getElem?_cons_zero]; exact rfl)
          · exact fun _ _ _ h => h
          · first
              | (refine Or.inr ⟨by rfl, ?_⟩; exact rfl)
              | (refine Or.inl ⟨by rfl, ?_⟩
                 intro w hSw
                 (try dsimp only at hSw)
                 (try go_split_ands)
                 go_simp
                 (first | done | with_reducible rfl))
          try simp only [Act.put, List.setIfInBounds_toArray, List.set_cons_zero, List.set_cons_succ]
          refine take_h 14 ⟨?_, ?_, ?_, by kernel_rfl, by kernel_rfl, by kernel_rfl, ?_, ?_, by assumption, ?_⟩
          rotate_left 2
          · (simp only [List.getElem?_toArray, List.getElem?_cons_succ, List.getElem?_cons_zero]; exact rfl)
          · exact fun _ _ _ h => h
          · first
              | (refine Or.inr ⟨by rfl, ?_⟩; exact rfl)
              | (refine Or.inl ⟨by rfl, ?_⟩
                 intro w hSw
                 (try dsimp only at hSw)
                 (try go_split_ands)
                 go_simp
                 (first | done | with_reducible rfl))
          try simp only [Act.put, List.setIfInBounds_toArray, List.set_cons_zero, List.set_cons_succ]
          refine wpAnyH_done (by kernel_rfl) ?_ _
          clear hHeld he
          by_cases hp0 : x.p.toList = []
          · have hpb : (x.p.toList == []) = true := beq_iff_eq.2 hp0
            obtain ⟨R, hR⟩ : ∃ R, R = L.take k ++ L.drop (k + 1) := ⟨_, rfl⟩
            have HT := rput_empty HP.out HTH.out (d := (k + 1)) (by first | rfl | simp) hp0
            rw [← hR] at HT
            have HT1 : Hid ((rputL L x).1 = R) := Lib.hid (by rw [HT])
            have HT2 : Hid ((rputL L x).2 = 0) := Lib.hid (by rw [HT])
            have HLN : Hid (k = (L.take k).length) := Lib.hid (by rw [List.length_take]; omega)
            have HRR := Lib.hid hR
            have HO4 := HO2
            have hbt5 := hbt
            clear HT hR
            go_upto_region 12 with fail
            have hd := Rd_drop (H.out.below hbt5) (j := k + 1) (by omega)
            rw [wCells_drop L (k + 1) (by omega)] at hd
            obtain ⟨n1, xs1, HO5, HR1, HR2, hn1⟩ := letters HO4.out HLN.out rfl (k + 1) HRR.out
            have hn1l : n1 ≤ 1000001 := by omega
            clear hn1
            by_cases hcp : cap = k + 1
            · subst hcp
              rw [if_pos rfl, Nat.sub_self, show L.length - (k + 1) = 0 by omega] at hd
              have HD := Lib.hid hd
              clear hd
              rw [show L.length - (k + 1) = 0 by omega, Nat.add_zero] at HR1
              go_wp2_with (at_builtin; refine wpList_app _ rfl (.tmp 60) (.tmp 63) _ rfl w0.heap.size 55 wZ 4 48 Tryd.underlying49 inf_w rfl (by omega) _ n1 xs1 rfl HO5.out _ _ 0 (wCells (L.drop (k + 1))) rfl HD.out (wCells_one _) ?_ ?_ ?_ ?_)
              · unfold maxLen; omega
              · omega
              · first | exact Below.size hbt5 | simpa using Below.size hbt5
              intro v6 w6 ho6 hg6 _
              have hb6 : Below w0.heap.size w0 w6 := Below.grown hbt5 hg6 (Below.size hbt5) (fun q hq => (HO5.out.lt q hq).1)
              have ho7 : w6.ownsRow w0.heap.size 55 4 v6 R.length (wCells R) := by rw [← HR1.out, ← HR2.out]; simpa using ho6
              have HO6 := Lib.hid ho7
              clear ho6 ho7 hg6
              go_wp2
              go_ret2
              rw [HT2.out, HT1.out]
              exact ⟨_, rfl, own_mono HO6.out hb0.size, hb0.trans (hb6.mono hb0.size)⟩
            · rw [if_neg hcp] at hd
              have HD := Lib.hid hd
              clear hd
              go_wp2_with (at_builtin; refine wpList_app _ rfl (.tmp 60) (.tmp 63) _ rfl w0.heap.size 55 wZ 4 48 Tryd.underlying49 inf_w rfl (by omega) _ n1 xs1 rfl HO5.out _ _ (L.length - (k + 1)) (wCells (L.drop (k + 1))) rfl HD.out (wCells_one _) ?_ ?_ ?_ ?_)
              · unfold maxLen; omega
              · omega
              · first | exact Below.size hbt5 | simpa using Below.size hbt5
              intro v6 w6 ho6 hg6 _
              have hb6 : Below w0.heap.size w0 w6 := Below.grown hbt5 hg6 (Below.size hbt5) (fun q hq => (HO5.out.lt q hq).1)
              have ho7 : w6.ownsRow w0.heap.size 55 4 v6 R.length (wCells R) := by rw [← HR1.out, ← HR2.out]; exact ho6
              have HO6 := Lib.hid ho7
              clear ho6 ho7 hg6
              go_wp2
              go_ret2
              rw [HT2.out, HT1.out]
              exact ⟨_, rfl, own_mono HO6.out hb0.size, hb0.trans (hb6.mono hb0.size)⟩
          · have hpb : (x.p.toList == []) = false := beq_eq_false_iff_ne.2 hp0
            by_cases h16 : true = false ∧ 16 ≤ L.length
            · exact absurd h16.1 (by decide)
            · obtain ⟨R, hR⟩ : ∃ R, R = L.take k ++ [x] ++ L.drop (k + 1) := ⟨_, rfl⟩
              have HT := rput_more HP.out HTH.out (d := (k + 1)) (by first | rfl | simp) hp0 h16
              rw [← hR] at HT
              have HT1 : Hid ((rputL L x).1 = R) := Lib.hid (by rw [HT])
              have HT2 : Hid ((rputL L x).2 = 0) := Lib.hid (by rw [HT])
              have HLN : Hid (k + 1 = (L.take k ++ [x]).length) := Lib.hid (by rw [List.length_append, List.length_take]; simp; omega)
              have HRR := Lib.hid hR
              have hnf : true = false → ¬ (16 : Int) ≤ (L.length : Int) := fun e h => h16 ⟨e, by omega⟩
              clear HT h16 hR
              clear hnf
              go_wp2_with (at_builtin; refine wpList_app _ rfl (.tmp 53) (.tmp 55) _ rfl w0.heap.size 55 wZ 4 48 Tryd.underlying49 inf_w rfl (by omega) _ k (wCells (L.take k)) rfl (HO2.out.alloc _) _ _ 1 (wC x) rfl (one_newW _ _) (wC_one x) ?_ ?_ ?_ ?_)
              · unfold maxLen; omega
              · omega
              · first | exact Below.size (Below.alloc hbt (Below.size hbt) (.cells #[.string x.f, .string x.p, .int .i64 x.q, .bool x.r] 55)) | simpa using Below.size (Below.alloc hbt (Below.size hbt) (.cells #[.string x.f, .string x.p, .int .i64 x.q, .bool x.r] 55))
              intro v5 w5 ho5 hg5 _
              have hbt5 : Below w0.heap.size w0 w5 := ((Below.alloc hbt (Below.size hbt) (.cells #[.string x.f, .string x.p, .int .i64 x.q, .bool x.r] 55)).grown hg5 (Below.size (Below.alloc hbt (Below.size hbt) (.cells #[.string x.f, .string x.p, .int .i64 x.q, .bool x.r] 55))) (fun q hq => (HO2.out.lt q hq).1))
              rw [wCells_snoc] at ho5
              have HO4 := Lib.hid ho5
              clear ho5 hg5
              go_upto_region 12 with fail
              have hd := Rd_drop (H.out.below hbt5) (j := k + 1) (by omega)
              rw [wCells_drop L (k + 1) (by omega)] at hd
              obtain ⟨n1, xs1, HO5, HR1, HR2, hn1⟩ := letters HO4.out HLN.out rfl (k + 1) HRR.out
              have hn1l : n1 ≤ 1000001 := by omega
              clear hn1
              by_cases hcp : cap = k + 1
              · subst hcp
                rw [if_pos rfl, Nat.sub_self, show L.length - (k + 1) = 0 by omega] at hd
                have HD := Lib.hid hd
                clear hd
                rw [show L.length - (k + 1) = 0 by omega, Nat.add_zero] at HR1
                go_wp2_with (at_builtin; refine wpList_app _ rfl (.tmp 60) (.tmp 63) _ rfl w0.heap.size 55 wZ 4 48 Tryd.underlying49 inf_w rfl (by omega) _ n1 xs1 rfl HO5.out _ _ 0 (wCells (L.drop (k + 1))) rfl HD.out (wCells_one _) ?_ ?_ ?_ ?_)
                · unfold maxLen; omega
                · omega
                · first | exact Below.size hbt5 | simpa using Below.size hbt5
                intro v6 w6 ho6 hg6 _
                have hb6 : Below w0.heap.size w0 w6 := Below.grown hbt5 hg6 (Below.size hbt5) (fun q hq => (HO5.out.lt q hq).1)
                have ho7 : w6.ownsRow w0.heap.size 55 4 v6 R.length (wCells R) := by rw [← HR1.out, ← HR2.out]; simpa using ho6
                have HO6 := Lib.hid ho7
                clear ho6 ho7 hg6
                go_wp2
                go_ret2
                rw [HT2.out, HT1.out]
                exact ⟨_, rfl, own_mono HO6.out hb0.size, hb0.trans (hb6.mono hb0.size)⟩
              · rw [if_neg hcp] at hd
                have HD := Lib.hid hd
                clear hd
                go_wp2_with (at_builtin; refine wpList_app _ rfl (.tmp 60) (.tmp 63) _ rfl w0.heap.size 55 wZ 4 48 Tryd.underlying49 inf_w rfl (by omega) _ n1 xs1 rfl HO5.out _ _ (L.length - (k + 1)) (wCells (L.drop (k + 1))) rfl HD.out (wCells_one _) ?_ ?_ ?_ ?_)
                · unfold maxLen; omega
                · omega
                · first | exact Below.size hbt5 | simpa using Below.size hbt5
                intro v6 w6 ho6 hg6 _
                have hb6 : Below w0.heap.size w0 w6 := Below.grown hbt5 hg6 (Below.size hbt5) (fun q hq => (HO5.out.lt q hq).1)
                have ho7 : w6.ownsRow w0.heap.size 55 4 v6 R.length (wCells R) := by rw [← HR1.out, ← HR2.out]; exact ho6
                have HO6 := Lib.hid ho7
                clear ho6 ho7 hg6
                go_wp2
                go_ret2
                rw [HT2.out, HT1.out]
                exact ⟨_, rfl, own_mono HO6.out hb0.size, hb0.trans (hb6.mono hb0.size)⟩
      · have HA2 := Lib.hid (HA.out.snoc HY.out hl)
        have hl' : Op.bytesLess y.f.toList x.f.toList = true := hl
        clear hl
        go_wp2
        refine wp_region_held_drew (S := fun wx => wx.cell? ⟨b, o + k * 4, none⟩ = some (.string y.f) ∧ wx.cell? ⟨w.heap.size, 0, none⟩ = some (.string x.f)) (by kernel_rfl) ⟨g0, d0⟩ (fun hHeld => ?_)
        refine take_h 0 ⟨?_, ?_, ?_, by kernel_rfl, by kernel_rfl, by kernel_rfl, ?_, ?_, by assumption, ?_⟩
        rotate_left 2
        · (simp only [List.getElem?_toArray, List.getElem?_cons_succ, List.getElem?_cons_zero]; exact rfl)
        · exact fun _ _ _ h => h
        · first
            | (refine Or.inr ⟨by rfl, ?_⟩; exact rfl)
            | (refine Or.inl ⟨by rfl, ?_⟩
               intro w hSw
               (try dsimp only at hSw)
               (try go_split_ands)
               go_simp
               (first | done | with_reducible rfl))
        try simp only [Act.put, List.setIfInBounds_toArray, List.set_cons_zero, List.set_cons_succ]
        refine take_h 1 ⟨?_, ?_, ?_, by kernel_rfl, by kernel_rfl, by kernel_rfl, ?_, ?_, by assumption, ?_⟩
        rotate_left 2
        · (simp only [List.getElem?_toArray, List.getElem?_cons_succ, List.getElem?_cons_zero]; exact rfl)
        · exact fun _ _ _ h => h
        · first
            | (refine Or.inr ⟨by rfl, ?_⟩; exact rfl)
            | (refine Or.inl ⟨by rfl, ?_⟩
               intro w hSw
               (try dsimp only at hSw)
               (try go_split_ands)
               go_simp
               (first | done | with_reducible rfl))
        try simp only [Act.put, List.setIfInBounds_toArray, List.set_cons_zero, List.set_cons_succ]
        refine take_h 2 ⟨?_, ?_, ?_, by kernel_rfl, by kernel_rfl, by kernel_rfl, ?_, ?_, by assumption, ?_⟩
        rotate_left 2
        · (simp only [List.getElem?_toArray, List.getElem?_cons_succ, List.getElem?_cons_zero]; exact rfl)
        · exact fun _ _ _ h => h
        · first
            | (refine Or.inr ⟨by rfl, ?_⟩; exact rfl)
            | (refine Or.inl ⟨by rfl, ?_⟩
               intro w hSw
               (try dsimp only at hSw)
               (try go_split_ands)
               go_simp
               (first | done | with_reducible rfl))
        try simp only [Act.put, List.setIfInBounds_toArray, List.set_cons_zero, List.set_cons_succ]
        refine take_h 3 ⟨?_, ?_, ?_, by kernel_rfl, by kernel_rfl, by kernel_rfl, ?_, ?_, by assumption, ?_⟩
        rotate_left 2
        · (simp only [List.getElem?_toArray, List.getElem?_cons_succ, List.getElem?_cons_zero]; exact rfl)
        · exact fun _ _ _ h => h
        · first
            | (refine Or.inr ⟨by rfl, ?_⟩; exact rfl)
            | (refine Or.inl ⟨by rfl, ?_⟩
               intro w hSw
               (try dsimp only at hSw)
               (try go_split_ands)
               go_simp
               (first | done | with_reducible rfl))
        try simp only [Act.put, List.setIfInBounds_toArray, List.set_cons_zero, List.set_cons_succ]
        refine take_h 4 ⟨?_, ?_, ?_, by kernel_rfl, by kernel_rfl, by kernel_rfl, ?_, ?_, by assumption, ?_⟩
        rotate_left 2
        · (simp only [List.getElem?_toArray, List.getElem?_cons_succ, List.getElem?_cons_zero]; exact rfl)
        · exact fun _ _ _ h => h
        · first
            | (refine Or.inr ⟨by rfl, ?_⟩; exact rfl)
            | (refine Or.inl ⟨by rfl, ?_⟩
               intro w hSw
               (try dsimp only at hSw)
               (try go_split_ands)
               go_simp
               (first | done | with_reducible rfl))
        try simp only [Act.put, List.setIfInBounds_toArray, List.set_cons_zero, List.set_cons_succ]
        refine take_h 5 ⟨?_, ?_, ?_, by kernel_rfl, by kernel_rfl, by kernel_rfl, ?_, ?_, by assumption, ?_⟩
        rotate_left 2
        · (simp only [List.getElem?_toArray, List.getElem?_cons_succ, List.getElem?_cons_zero]; exact rfl)
        · exact fun _ _ _ h => h
        · first
            | (refine Or.inr ⟨by rfl, ?_⟩; exact rfl)
            | (refine Or.inl ⟨by rfl, ?_⟩
               intro w hSw
               (try dsimp only at hSw)
               (try go_split_ands)
               go_simp
               (first | done | with_reducible rfl))
        try simp only [Act.put, List.setIfInBounds_toArray, List.set_cons_zero, List.set_cons_succ]
        refine take_h 6 ⟨?_, ?_, ?_, by kernel_rfl, by kernel_rfl, by kernel_rfl, ?_, ?_, by assumption, ?_⟩
        rotate_left 2
        · (simp only [List.getElem?_toArray, List.getElem?_cons_succ, List.getElem?_cons_zero]; exact rfl)
        · exact fun _ _ _ h => h
        · first
            | (refine Or.inr ⟨by rfl, ?_⟩; exact rfl)
            | (refine Or.inl ⟨by rfl, ?_⟩
               intro w hSw
               (try dsimp only at hSw)
               (try go_split_ands)
               go_simp
               (first | done | with_reducible rfl))
        try simp only [Act.put, List.setIfInBounds_toArray, List.set_cons_zero, List.set_cons_succ]
        refine take_h 7 ⟨?_, ?_, ?_, by kernel_rfl, by kernel_rfl, by kernel_rfl, ?_, ?_, by assumption, ?_⟩
        rotate_left 2
        · (simp only [List.getElem?_toArray, List.getElem?_cons_succ, List.getElem?_cons_zero]; exact rfl)
        · exact fun _ _ _ h => h
        · first
            | (refine Or.inr ⟨by rfl, ?_⟩; exact rfl)
            | (refine Or.inl ⟨by rfl, ?_⟩
               intro w hSw
               (try dsimp only at hSw)
               (try go_split_ands)
               go_simp
               (first | done | with_reducible rfl))
        try simp only [Act.put, List.setIfInBounds_toArray, List.set_cons_zero, List.set_cons_succ]
        refine take_h 8 ⟨?_, ?_, ?_, by kernel_rfl, by kernel_rfl, by kernel_rfl, ?_, ?_, by assumption, ?_⟩
        rotate_left 2
        · (simp only [List.getElem?_toArray, List.getElem?_cons_succ, List.getElem?_cons_zero]; exact rfl)
        · exact fun _ _ _ h => h
        · first
            | (refine Or.inr ⟨by rfl, ?_⟩; exact rfl)
            | (refine Or.inl ⟨by rfl, ?_⟩
               intro w hSw
               (try dsimp only at hSw)
               (try go_split_ands)
               go_simp
               (first | done | with_reducible rfl))
        try simp only [Act.put, List.setIfInBounds_toArray, List.set_cons_zero, List.set_cons_succ]
        refine take_h 9 ⟨?_, ?_, ?_, by kernel_rfl, by kernel_rfl, by kernel_rfl, ?_, ?_, by assumption, ?_⟩
        rotate_left 2
        · (simp only [List.getElem?_toArray, List.getElem?_cons_succ, List.getElem?_cons_zero]; exact rfl)
        · exact fun _ _ _ h => h
        · first
            | (refine Or.inr ⟨by rfl, ?_⟩; exact rfl)
            | (refine Or.inl ⟨by rfl, ?_⟩
               intro w hSw
               (try dsimp only at hSw)
               (try go_split_ands)
               go_simp
               (first | done | with_reducible rfl))
        try simp only [Act.put, List.setIfInBounds_toArray, List.set_cons_zero, List.set_cons_succ]
        refine take_h 10 ⟨?_, ?_, ?_, by kernel_rfl, by kernel_rfl, by kernel_rfl, ?_, ?_, by assumption, ?_⟩
        rotate_left 2
        · (simp only [List.getElem?_toArray, List.getElem?_cons_succ, List.getElem?_cons_zero]; exact rfl)
        · exact fun _ _ _ h => h
        · first
            | (refine Or.inr ⟨by rfl, ?_⟩; exact rfl)
            | (refine Or.inl ⟨by rfl, ?_⟩
               intro w hSw
               (try dsimp only at hSw)
               (try go_split_ands)
               go_simp
               (first | done | with_reducible rfl))
        try simp only [Act.put, List.setIfInBounds_toArray, List.set_cons_zero, List.set_cons_succ]
        refine take_h 11 ⟨?_, ?_, ?_, by kernel_rfl, by kernel_rfl, by kernel_rfl, ?_, ?_, by assumption, ?_⟩
        rotate_left 2
        · (simp only [List.getElem?_toArray, List.getElem?_cons_succ, List.getElem?_cons_zero]; exact rfl)
        · exact fun _ _ _ h => h
        · first
            | (refine Or.inr ⟨by rfl, ?_⟩; exact rfl)
            | (refine Or.inl ⟨by rfl, ?_⟩
               intro w hSw
               (try dsimp only at hSw)
               (try go_split_ands)
               go_simp
               (first | done | with_reducible rfl))
        try simp only [Act.put, List.setIfInBounds_toArray, List.set_cons_zero, List.set_cons_succ]
        refine take_h 12 ⟨?_, ?_, ?_, by kernel_rfl, by kernel_rfl, by kernel_rfl, ?_, ?_, by assumption, ?_⟩
        rotate_left 2
        · (simp only [List.getElem?_toArray, List.getElem?_cons_succ, List.getElem?_cons_zero]; exact rfl)
        · exact fun _ _ _ h => h
        · first
            | (refine Or.inr ⟨by rfl, ?_⟩; exact rfl)
            | (refine Or.inl ⟨by rfl, ?_⟩
               intro w hSw
               (try dsimp only at hSw)
               (try go_split_ands)
               go_simp
               (first | done | with_reducible rfl))
        try simp only [Act.put, List.setIfInBounds_toArray, List.set_cons_zero, List.set_cons_succ]
        refine take_h 13 ⟨?_, ?_, ?_, by kernel_rfl, by kernel_rfl, by kernel_rfl, ?_, ?_, by assumption, ?_⟩
        rotate_left 2
        · (simp only [List.getElem?_toArray, List.getElem?_cons_succ, List.getElem?_cons_zero]; exact rfl)
        · exact fun _ _ _ h => h
        · first
            | (refine Or.inr ⟨by rfl, ?_⟩; exact rfl)
            | (refine Or.inl ⟨by rfl, ?_⟩
               intro w hSw
               (try dsimp only at hSw)
               (try go_split_ands)
               go_simp
               (first | done | with_reducible rfl))
        try simp only [Act.put, List.setIfInBounds_toArray, List.set_cons_zero, List.set_cons_succ]
        refine wpAnyH_done (by kernel_rfl) ?_ _
        go_wp2
        go_roundw
        case rel => exact ⟨k + 1, by omega, by go_num, hb.drew, HA2⟩
        case measure => simp [intOf]; omega
    · have HKL : Hid (k = L.length) := Lib.hid (by omega)
      have HP : Hid (posW L x.f = k) := Lib.hid (HA.out.pos hk (fun z hz => absurd (List.getElem?_eq_some_iff.1 hz).1 (by omega)))
      have HTH : Hid (thereW L x.f = false) := Lib.hid (there_end (by rw [HP.out, ← HKL.out]))
      go_wp2
      refine wp_region_held_drew (S := fun wx => wx.cell? ⟨w.heap.size, 0, none⟩ = some (.string x.f)) (by kernel_rfl) d0 (fun hHeld => ?_)
      refine take_h 0 ⟨?_, ?_, ?_, by kernel_rfl, by kernel_rfl, by kernel_rfl, ?_, ?_, by assumption, ?_⟩
      rotate_left 2
      · (simp only [List.getElem?_toArray, List.getElem?_cons_succ, List.getElem?_cons_zero]; exact rfl)
      · exact fun _ _ _ h => h
      · first
          | (refine Or.inr ⟨by rfl, ?_⟩; exact rfl)
          | (refine Or.inl ⟨by rfl, ?_⟩
             intro w hSw
             (try dsimp only at hSw)
             (try go_split_ands)
             go_simp
             (first | done | with_reducible rfl))
      try simp only [Act.put, List.setIfInBounds_toArray, List.set_cons_zero, List.set_cons_succ]
      refine take_h 1 ⟨?_, ?_, ?_, by kernel_rfl, by kernel_rfl, by kernel_rfl, ?_, ?_, by assumption, ?_⟩
      rotate_left 2
      · (simp only [List.getElem?_toArray, List.getElem?_cons_succ, List.getElem?_cons_zero]; exact rfl)
      · exact fun _ _ _ h => h
      · first
          | (refine Or.inr ⟨by rfl, ?_⟩; exact rfl)
          | (refine Or.inl ⟨by rfl, ?_⟩
             intro w hSw
             (try dsimp only at hSw)
             (try go_split_ands)
             go_simp
             (first | done | with_reducible rfl))
      try simp only [Act.put, List.setIfInBounds_toArray, List.set_cons_zero, List.set_cons_succ]
      refine take_h 2 ⟨?_, ?_, ?_, by kernel_rfl, by kernel_rfl, by kernel_rfl, ?_, ?_, by assumption, ?_⟩
      rotate_left 2
      · (simp only [List.getElem?_toArray, List.getElem?_cons_succ, List.getElem?_cons_zero]; exact rfl)
      · exact fun _ _ _ h => h
      · first
          | (refine Or.inr ⟨by rfl, ?_⟩; exact rfl)
          | (refine Or.inl ⟨by rfl, ?_⟩
             intro w hSw
             (try dsimp only at hSw)
             (try go_split_ands)
             go_simp
             (first | done | with_reducible rfl))
      try simp only [Act.put, List.setIfInBounds_toArray, List.set_cons_zero, List.set_cons_succ]
      refine take_h 3 ⟨?_, ?_, ?_, by kernel_rfl, by kernel_rfl, by kernel_rfl, ?_, ?_, by assumption, ?_⟩
      rotate_left 2
      · (simp only [List.getElem?_toArray, List.getElem?_cons_succ, List.getElem?_cons_zero]; exact rfl)
      · exact fun _ _ _ h => h
      · first
          | (refine Or.inr ⟨by rfl, ?_⟩; exact rfl)
          | (refine Or.inl ⟨by rfl, ?_⟩
             intro w hSw
             (try dsimp only at hSw)
             (try go_split_ands)
             go_simp
             (first | done | with_reducible rfl))
      try simp only [Act.put, List.setIfInBounds_toArray, List.set_cons_zero, List.set_cons_succ]
      refine take_h 4 ⟨?_, ?_, ?_, by kernel_rfl, by kernel_rfl, by kernel_rfl, ?_, ?_, by assumption, ?_⟩
      rotate_left 2
      · (simp only [List.getElem?_toArray, List.getElem?_cons_succ, List.getElem?_cons_zero]; exact rfl)
      · exact fun _ _ _ h => h
      · first
          | (refine Or.inr ⟨by rfl, ?_⟩; exact rfl)
          | (refine Or.inl ⟨by rfl, ?_⟩
             intro w hSw
             (try dsimp only at hSw)
             (try go_split_ands)
             go_simp
             (first | done | with_reducible rfl))
      try simp only [Act.put, List.setIfInBounds_toArray, List.set_cons_zero, List.set_cons_succ]
      refine take_h 5 ⟨?_, ?_, ?_, by kernel_rfl, by kernel_rfl, by kernel_rfl, ?_, ?_, by assumption, ?_⟩
      rotate_left 2
      · (simp only [List.getElem?_toArray, List.getElem?_cons_succ, List.getElem?_cons_zero]; exact rfl)
      · exact fun _ _ _ h => h
      · first
          | (refine Or.inr ⟨by rfl, ?_⟩; exact rfl)
          | (refine Or.inl ⟨by rfl, ?_⟩
             intro w hSw
             (try dsimp only at hSw)
             (try go_split_ands)
             go_simp
             (first | done | with_reducible rfl))
      try simp only [Act.put, List.setIfInBounds_toArray, List.set_cons_zero, List.set_cons_succ]
      refine take_h 6 ⟨?_, ?_, ?_, by kernel_rfl, by kernel_rfl, by kernel_rfl, ?_, ?_, by assumption, ?_⟩
      rotate_left 2
      · (simp only [List.getElem?_toArray, List.getElem?_cons_succ, List.getElem?_cons_zero]; exact rfl)
      · exact fun _ _ _ h => h
      · first
          | (refine Or.inr ⟨by rfl, ?_⟩; exact rfl)
          | (refine Or.inl ⟨by rfl, ?_⟩
             intro w hSw
             (try dsimp only at hSw)
             (try go_split_ands)
             go_simp
             (first | done | with_reducible rfl))
      try simp only [Act.put, List.setIfInBounds_toArray, List.set_cons_zero, List.set_cons_succ]
      refine take_h 7 ⟨?_, ?_, ?_, by kernel_rfl, by kernel_rfl, by kernel_rfl, ?_, ?_, by assumption, ?_⟩
      rotate_left 2
      · (simp only [List.getElem?_toArray, List.getElem?_cons_succ, List.getElem?_cons_zero]; exact rfl)
      · exact fun _ _ _ h => h
      · first
          | (refine Or.inr ⟨by rfl, ?_⟩; exact rfl)
          | (refine Or.inl ⟨by rfl, ?_⟩
             intro w hSw
             (try dsimp only at hSw)
             (try go_split_ands)
             go_simp
             (first | done | with_reducible rfl))
      try simp only [Act.put, List.setIfInBounds_toArray, List.set_cons_zero, List.set_cons_succ]
      refine take_h 8 ⟨?_, ?_, ?_, by kernel_rfl, by kernel_rfl, by kernel_rfl, ?_, ?_, by assumption, ?_⟩
      rotate_left 2
      · (simp only [List.getElem?_toArray, List.getElem?_cons_succ, List.getElem?_cons_zero]; exact rfl)
      · exact fun _ _ _ h => h
      · first
          | (refine Or.inr ⟨by rfl, ?_⟩; exact rfl)
          | (refine Or.inl ⟨by rfl, ?_⟩
             intro w hSw
             (try dsimp only at hSw)
             (try go_split_ands)
             go_simp
             (first | done | with_reducible rfl))
      try simp only [Act.put, List.setIfInBounds_toArray, List.set_cons_zero, List.set_cons_succ]
      refine take_h 9 ⟨?_, ?_, ?_, by kernel_rfl, by kernel_rfl, by kernel_rfl, ?_, ?_, by assumption, ?_⟩
      rotate_left 2
      · (simp only [List.getElem?_toArray, List.getElem?_cons_succ, List.getElem?_cons_zero]; exact rfl)
      · exact fun _ _ _ h => h
      · first
          | (refine Or.inr ⟨by rfl, ?_⟩; exact rfl)
          | (refine Or.inl ⟨by rfl, ?_⟩
             intro w hSw
             (try dsimp only at hSw)
             (try go_split_ands)
             go_simp
             (first | done | with_reducible rfl))
      try simp only [Act.put, List.setIfInBounds_toArray, List.set_cons_zero, List.set_cons_succ]
      refine take_h 10 ⟨?_, ?_, ?_, by kernel_rfl, by kernel_rfl, by kernel_rfl, ?_, ?_, by assumption, ?_⟩
      rotate_left 2
      · (simp only [List.getElem?_toArray, List.getElem?_cons_succ, List.getElem?_cons_zero]; exact rfl)
      · exact fun _ _ _ h => h
      · first
          | (refine Or.inr ⟨by rfl, ?_⟩; exact rfl)
          | (refine Or.inl ⟨by rfl, ?_⟩
             intro w hSw
             (try dsimp only at hSw)
             (try go_split_ands)
             go_simp
             (first | done | with_reducible rfl))
      try simp only [Act.put, List.setIfInBounds_toArray, List.set_cons_zero, List.set_cons_succ]
      refine take_h 11 ⟨?_, ?_, ?_, by kernel_rfl, by kernel_rfl, by kernel_rfl, ?_, ?_, by assumption, ?_⟩
      rotate_left 2
      · (simp only [List.getElem?_toArray, List.getElem?_cons_succ, List.getElem?_cons_zero]; exact rfl)
      · exact fun _ _ _ h => h
      · first
          | (refine Or.inr ⟨by rfl, ?_⟩; exact rfl)
          | (refine Or.inl ⟨by rfl, ?_⟩
             intro w hSw
             (try dsimp only at hSw)
             (try go_split_ands)
             go_simp
             (first | done | with_reducible rfl))
      try simp only [Act.put, List.setIfInBounds_toArray, List.set_cons_zero, List.set_cons_succ]
      refine take_h 12 ⟨?_, ?_, ?_, by kernel_rfl, by kernel_rfl, by kernel_rfl, ?_, ?_, by assumption, ?_⟩
      rotate_left 2
      · (simp only [List.getElem?_toArray, List.getElem?_cons_succ, List.getElem?_cons_zero]; exact rfl)
      · exact fun _ _ _ h => h
      · first
          | (refine Or.inr ⟨by rfl, ?_⟩; exact rfl)
          | (refine Or.inl ⟨by rfl, ?_⟩
             intro w hSw
             (try dsimp only at hSw)
             (try go_split_ands)
             go_simp
             (first | done | with_reducible rfl))
      try simp only [Act.put, List.setIfInBounds_toArray, List.set_cons_zero, List.set_cons_succ]
      refine take_h 13 ⟨?_, ?_, ?_, by kernel_rfl, by kernel_rfl, by kernel_rfl, ?_, ?_, by assumption, ?_⟩
      rotate_left 2
      · (simp only [List.getElem?_toArray, List.getElem?_cons_succ, List.getElem?_cons_zero]; exact rfl)
      · exact fun _ _ _ h => h
      · first
          | (refine Or.inr ⟨by rfl, ?_⟩; exact rfl)
          | (refine Or.inl ⟨by rfl, ?_⟩
             intro w hSw
             (try dsimp only at hSw)
             (try go_split_ands)
             go_simp
             (first | done | with_reducible rfl))
      try simp only [Act.put, List.setIfInBounds_toArray, List.set_cons_zero, List.set_cons_succ]
      refine wpAnyH_done (by kernel_rfl) ?_ _
      clear hHeld
      have hkc : k ≤ cap := by omega
      go_wp2_with fail
      refine (copy_cut H.out hk hn hb.drew).mono ?_
      rintro e w2 ⟨v2, rfl, ho2, hb2⟩
      have hbx : Below wr.heap.size wr w2 := bel_tr (Below.refl _ wr).drew hb2
      have hbt : Below w0.heap.size w0 w2.drew := (bel_to hb hbx (Nat.le_refl _)).drew
      have hbw : Below w.heap.size w w2.drew := hb0.trans (hbt.mono hb0.size)
      have hr0 := hbw.size
      have f0 := cell_bel d0 hbx
      have f1 : w2.drew.cell? ⟨w.heap.size, 1, none⟩ = some (.string x.p) := cell_bel c1 hbt
      have f2 : w2.drew.cell? ⟨w.heap.size, 2, none⟩ = some (.int .i64 x.q) := cell_bel c2 hbt
      have f3 : w2.drew.cell? ⟨w.heap.size, 3, none⟩ = some (.bool x.r) := cell_bel c3 hbt
      have hzz : w0.heap.size ≤ wr.drew.heap.size := by have := Below.size hb; simp; omega
      have HO2 := Lib.hid ((own_mono (B' := w0.heap.size) ho2 hzz).drew)
      have hl0 : w0.heap.size ≤ w2.drew.heap.size := Below.size hbt
      clear ho2 hb2
      go_wp2
      refine wp_region_held_drew (S := fun wx => wx.cell? ⟨w.heap.size, 0, none⟩ = some (.string x.f)) (by kernel_rfl) f0 (fun hHeld => ?_)
      refine take_h 0 ⟨?_, ?_, ?_, by kernel_rfl, by kernel_rfl, by kernel_rfl, ?_, ?_, by assumption, ?_⟩
      rotate_left 2
      · (simp only [List.getElem?_toArray, List.getElem?_cons_succ, List.getElem?_cons_zero]; exact rfl)
      · exact fun _ _ _ h => h
      · first
          | (refine Or.inr ⟨by rfl, ?_⟩; exact rfl)
          | (refine Or.inl ⟨by rfl, ?_⟩
             intro w hSw
             (try dsimp only at hSw)
             (try go_split_ands)
             go_simp
             (first | done | with_reducible rfl))
      try simp only [Act.put, List.setIfInBounds_toArray, List.set_cons_zero, List.set_cons_succ]
      refine take_h 1 ⟨?_, ?_, ?_, by kernel_rfl, by kernel_rfl, by kernel_rfl, ?_, ?_, by assumption, ?_⟩
      rotate_left 2
      · (simp only [List.getElem?_toArray, List.getElem?_cons_succ, List.getElem?_cons_zero]; exact rfl)
      · exact fun _ _ _ h => h
      · first
          | (refine Or.inr ⟨by rfl, ?_⟩; exact rfl)
          | (refine Or.inl ⟨by rfl, ?_⟩
             intro w hSw
             (try dsimp only at hSw)
             (try go_split_ands)
             go_simp
             (first | done | with_reducible rfl))
      try simp only [Act.put, List.setIfInBounds_toArray, List.set_cons_zero, List.set_cons_succ]
      refine take_h 2 ⟨?_, ?_, ?_, by kernel_rfl, by kernel_rfl, by kernel_rfl, ?_, ?_, by assumption, ?_⟩
      rotate_left 2
      · (simp only [List.getElem?_toArray, List.getElem?_cons_succ, List.getElem?_cons_zero]; exact rfl)
      · exact fun _ _ _ h => h
      · first
          | (refine Or.inr ⟨by rfl, ?_⟩; exact rfl)
          | (refine Or.inl ⟨by rfl, ?_⟩
             intro w hSw
             (try dsimp only at hSw)
             (try go_split_ands)
             go_simp
             (first | done | with_reducible rfl))
      try simp only [Act.put, List.setIfInBounds_toArray, List.set_cons_zero, List.set_cons_succ]
      refine take_h 3 ⟨?_, ?_, ?_, by kernel_rfl, by kernel_rfl, by kernel_rfl, ?_, ?_, by assumption, ?_⟩
      rotate_left 2
      · (simp only [List.getElem?_toArray, List.getElem?_cons_succ, List.getElem?_cons_zero]; exact rfl)
      · exact fun _ _ _ h => h
      · first
          | (refine Or.inr ⟨by rfl, ?_⟩; exact rfl)
          | (refine Or.inl ⟨by rfl, ?_⟩
             intro w hSw
             (try dsimp only at hSw)
             (try go_split_ands)
             go_simp
             (first | done | with_reducible rfl))
      try simp only [Act.put, List.setIfInBounds_toArray, List.set_cons_zero, List.set_cons_succ]
      refine take_h 4 ⟨?_, ?_, ?_, by kernel_rfl, by kernel_rfl, by kernel_rfl, ?_, ?_, by assumption, ?_⟩
      rotate_left 2
      · (simp only [List.getElem?_toArray, List.getElem?_cons_succ, List.getElem?_cons_zero]; exact rfl)
      · exact fun _ _ _ h => h
      · first
          | (refine Or.inr ⟨by rfl, ?_⟩; exact rfl)
          | (refine Or.inl ⟨by rfl, ?_⟩
             intro w hSw
             (try dsimp only at hSw)
             (try go_split_ands)
             go_simp
             (first | done | with_reducible rfl))
      try simp only [Act.put, List.setIfInBounds_toArray, List.set_cons_zero, List.set_cons_succ]
      refine take_h 5 ⟨?_, ?_, ?_, by kernel_rfl, by kernel_rfl, by kernel_rfl, ?_, ?_, by assumption, ?_⟩
      rotate_left 2
      · (simp only [List.getElem?_toArray, List.getElem?_cons_succ, List.getElem?_cons_zero]; exact rfl)
      · exact fun _ _ _ h => h
      · first
          | (refine Or.inr ⟨by rfl, ?_⟩; exact rfl)
          | (refine Or.inl ⟨by rfl, ?_⟩
             intro w hSw
             (try dsimp only at hSw)
             (try go_split_ands)
             go_simp
             (first | done | with_reducible rfl))
      try simp only [Act.put, List.setIfInBounds_toArray, List.set_cons_zero, List.set_cons_succ]
      refine take_h 6 ⟨?_, ?_, ?_, by kernel_rfl, by kernel_rfl, by kernel_rfl, ?_, ?_, by assumption, ?_⟩
      rotate_left 2
      · (simp only [List.getElem?_toArray, List.getElem?_cons_succ, List.getElem?_cons_zero]; exact rfl)
      · exact fun _ _ _ h => h
      · first
          | (refine Or.inr ⟨by rfl, ?_⟩; exact rfl)
          | (refine Or.inl ⟨by rfl, ?_⟩
             intro w hSw
             (try dsimp only at hSw)
             (try go_split_ands)
             go_simp
             (first | done | with_reducible rfl))
      try simp only [Act.put, List.setIfInBounds_toArray, List.set_cons_zero, List.set_cons_succ]
      refine take_h 7 ⟨?_, ?_, ?_, by kernel_rfl, by kernel_rfl, by kernel_rfl, ?_, ?_, by assumption, ?_⟩
      rotate_left 2
      · (simp only [List.getElem?_toArray, List.getElem?_cons_succ, List.getElem?_cons_zero]; exact rfl)
      · exact fun _ _ _ h => h
      · first
          | (refine Or.inr ⟨by rfl, ?_⟩; exact rfl)
          | (refine Or.inl ⟨by rfl, ?_⟩
             intro w hSw
             (try dsimp only at hSw)
             (try go_split_ands)
             go_simp
             (first | done | with_reducible rfl))
      try simp only [Act.put, List.setIfInBounds_toArray, List.set_cons_zero, List.set_cons_succ]
      refine take_h 8 ⟨?_, ?_, ?_, by kernel_rfl, by kernel_rfl, by kernel_rfl, ?_, ?_, by assumption, ?_⟩
      rotate_left 2
      · (simp only [List.getElem?_toArray, List.getElem?_cons_succ, List.getElem?_cons_zero]; exact rfl)
      · exact fun _ _ _ h => h
      · first
          | (refine Or.inr ⟨by rfl, ?_⟩; exact rfl)
          | (refine Or.inl ⟨by rfl, ?_⟩
             intro w hSw
             (try dsimp only at hSw)
             (try go_split_ands)
             go_simp
             (first | done | with_reducible rfl))
      try simp only [Act.put, List.setIfInBounds_toArray, List.set_cons_zero, List.set_cons_succ]
      refine take_h 9 ⟨?_, ?_, ?_, by kernel_rfl, by kernel_rfl, by kernel_rfl, ?_, ?_, by assumption, ?_⟩
      rotate_left 2
      · (simp only [List.getElem?_toArray, List.getElem?_cons_succ, List.getElem?_cons_zero]; exact rfl)
      · exact fun _ _ _ h => h
      · first
          | (refine Or.inr ⟨by rfl, ?_⟩; exact rfl)
          | (refine Or.inl ⟨by rfl, ?_⟩
             intro w hSw
             (try dsimp only at hSw)
             (try go_split_ands)
             go_simp
             (first | done | with_reducible rfl))
      try simp only [Act.put, List.setIfInBounds_toArray, List.set_cons_zero, List.set_cons_succ]
      refine take_h 10 ⟨?_, ?_, ?_, by kernel_rfl, by kernel_rfl, by kernel_rfl, ?_, ?_, by assumption, ?_⟩
      rotate_left 2
      · (simp only [List.getElem?_toArray, List.getElem?_cons_succ, List.getElem?_cons_zero]; exact rfl)
      · exact fun _ _ _ h => h
      · first
          | (refine Or.inr ⟨by rfl, ?_⟩; exact rfl)
          | (refine Or.inl ⟨by rfl, ?_⟩
             intro w hSw
             (try dsimp only at hSw)
             (try go_split_ands)
             go_simp
             (first | done | with_reducible rfl))
      try simp only [Act.put, List.setIfInBounds_toArray, List.set_cons_zero, List.set_cons_succ]
      refine take_h 11 ⟨?_, ?_, ?_, by kernel_rfl, by kernel_rfl, by kernel_rfl, ?_, ?_, by assumption, ?_⟩
      rotate_left 2
      · (simp only [List.getElem?_toArray, List.getElem?_cons_succ, List.getElem?_cons_zero]; exact rfl)
      · exact fun _ _ _ h => h
      · first
          | (refine Or.inr ⟨by rfl, ?_⟩; exact rfl)
          | (refine Or.inl ⟨by rfl, ?_⟩
             intro w hSw
             (try dsimp only at hSw)
             (try go_split_ands)
             go_simp
             (first | done | with_reducible rfl))
      try simp only [Act.put, List.setIfInBounds_toArray, List.set_cons_zero, List.set_cons_succ]
      refine take_h 12 ⟨?_, ?_, ?_, by kernel_rfl, by kernel_rfl, by kernel_rfl, ?_, ?_, by assumption, ?_⟩
      rotate_left 2
      · (simp only [List.getElem?_toArray, List.getElem?_cons_succ, List.getElem?_cons_zero]; exact rfl)
      · exact fun _ _ _ h => h
      · first
          | (refine Or.inr ⟨by rfl, ?_⟩; exact rfl)
          | (refine Or.inl ⟨by rfl, ?_⟩
             intro w hSw
             (try dsimp only at hSw)
             (try go_split_ands)
             go_simp
             (first | done | with_reducible rfl))
      try simp only [Act.put, List.setIfInBounds_toArray, List.set_cons_zero, List.set_cons_succ]
      refine take_h 13 ⟨?_, ?_, ?_, by kernel_rfl, by kernel_rfl, by kernel_rfl, ?_, ?_, by assumption, ?_⟩
      rotate_left 2
      · (simp only [List.getElem?_toArray, List.getElem?_cons_succ, List.getElem?_cons_zero]; exact rfl)
      · exact fun _ _ _ h => h
      · first
          | (refine Or.inr ⟨by rfl, ?_⟩; exact rfl)
          | (refine Or.inl ⟨by rfl, ?_⟩
             intro w hSw
             (try dsimp only at hSw)
             (try go_split_ands)
             go_simp
             (first | done | with_reducible rfl))
      try simp only [Act.put, List.setIfInBounds_toArray, List.set_cons_zero, List.set_cons_succ]
      refine take_h 14 ⟨?_, ?_, ?_, by kernel_rfl, by kernel_rfl, by kernel_rfl, ?_, ?_, by assumption, ?_⟩
      rotate_left 2
      · (simp only [List.getElem?_toArray, List.getElem?_cons_succ, List.getElem?_cons_zero]; exact rfl)
      · exact fun _ _ _ h => h
      · first
          | (refine Or.inr ⟨by rfl, ?_⟩; exact rfl)
          | (refine Or.inl ⟨by rfl, ?_⟩
             intro w hSw
             (try dsimp only at hSw)
             (try go_split_ands)
             go_simp
             (first | done | with_reducible rfl))
      try simp only [Act.put, List.setIfInBounds_toArray, List.set_cons_zero, List.set_cons_succ]
      refine wpAnyH_done (by kernel_rfl) ?_ _
      clear hHeld
      by_cases hp0 : x.p.toList = []
      · have hpb : (x.p.toList == []) = true := beq_iff_eq.2 hp0
        obtain ⟨R, hR⟩ : ∃ R, R = L.take k ++ L.drop k := ⟨_, rfl⟩
        have HT := rput_empty HP.out HTH.out (d := k) (by first | rfl | simp) hp0
        rw [← hR] at HT
        have HT1 : Hid ((rputL L x).1 = R) := Lib.hid (by rw [HT])
        have HT2 : Hid ((rputL L x).2 = 0) := Lib.hid (by rw [HT])
        have HLN : Hid (k = (L.take k).length) := Lib.hid (by rw [List.length_take]; omega)
        have HRR := Lib.hid hR
        have HO4 := HO2
        have hbt5 := hbt
        clear HT hR
        go_upto_region 12 with fail
        obtain ⟨n1, xs1, HO5, HR1, HR2, hn1⟩ := letters HO4.out HLN.out rfl k HRR.out
        have hn1l : n1 ≤ 1000001 := by omega
        have hlk : L.length - k = 0 := by have := HKL.out; omega
        have hdr : L.drop k = [] := List.drop_eq_nil_of_le (by have := HKL.out; omega)
        rw [hlk, Nat.add_zero] at HR1
        rw [hdr, show wCells [] = [] from rfl, List.append_nil] at HR2
        have HLD := Lib.hid hlk
        clear hn1 hlk hdr
        rcases ao with _ | q
        · have hc0 : cap = 0 := HCZ.out rfl
          subst hc0
          have hk0 : k = 0 := by omega
          subst hk0
          go_wp2_with (at_builtin; refine wpList_app _ rfl (.tmp 60) (.tmp 63) _ rfl w0.heap.size 55 wZ 4 48 Tryd.underlying49 inf_w rfl (by omega) _ n1 xs1 rfl HO5.out 0 _ 0 [] (by first | rfl | (show Value.slice _ (L.length - k) _ = _; rw [HLD.out])) (Rd_none (by intro e; first | rfl | (cases e; done)) (by unfold maxLen; omega)) (by simp) ?_ ?_ ?_ ?_)
          · unfold maxLen; omega
          · omega
          · first | exact Below.size hbt5 | simpa using Below.size hbt5
          intro v6 w6 ho6 hg6 _
          have hb6 : Below w0.heap.size w0 w6 := Below.grown hbt5 hg6 (Below.size hbt5) (fun q hq => (HO5.out.lt q hq).1)
          have ho7 : w6.ownsRow w0.heap.size 55 4 v6 R.length (wCells R) := by rw [← HR1.out, ← HR2.out]; simpa using ho6
          have HO6 := Lib.hid ho7
          clear ho6 ho7 hg6
          go_wp2
          go_ret2
          rw [HT2.out, HT1.out]
          exact ⟨_, rfl, own_mono HO6.out hb0.size, hb0.trans (hb6.mono hb0.size)⟩
        · by_cases hcp : cap = k
          · subst hcp
            go_wp2_with (at_builtin; refine wpList_app _ rfl (.tmp 60) (.tmp 63) _ rfl w0.heap.size 55 wZ 4 48 Tryd.underlying49 inf_w rfl (by omega) _ n1 xs1 rfl HO5.out 0 _ 0 [] (by first | rfl | (show Value.slice _ (L.length - k) _ = _; rw [HLD.out])) (Rd_none (by intro e; first | rfl | (cases e; done)) (by unfold maxLen; omega)) (by simp) ?_ ?_ ?_ ?_)
            · unfold maxLen; omega
            · omega
            · first | exact Below.size hbt5 | simpa using Below.size hbt5
            intro v6 w6 ho6 hg6 _
            have hb6 : Below w0.heap.size w0 w6 := Below.grown hbt5 hg6 (Below.size hbt5) (fun q hq => (HO5.out.lt q hq).1)
            have ho7 : w6.ownsRow w0.heap.size 55 4 v6 R.length (wCells R) := by rw [← HR1.out, ← HR2.out]; simpa using ho6
            have HO6 := Lib.hid ho7
            clear ho6 ho7 hg6
            go_wp2
            go_ret2
            rw [HT2.out, HT1.out]
            exact ⟨_, rfl, own_mono HO6.out hb0.size, hb0.trans (hb6.mono hb0.size)⟩
          · go_wp2_with (at_builtin; refine wpList_app _ rfl (.tmp 60) (.tmp 63) _ rfl w0.heap.size 55 wZ 4 48 Tryd.underlying49 inf_w rfl (by omega) _ n1 xs1 rfl HO5.out 0 _ 0 [] (by first | rfl | (show Value.slice _ (L.length - k) _ = _; rw [HLD.out])) (Rd_none (by intro e; first | rfl | (cases e; done)) (by unfold maxLen; omega)) (by simp) ?_ ?_ ?_ ?_)
            · unfold maxLen; omega
            · omega
            · first | exact Below.size hbt5 | simpa using Below.size hbt5
            intro v6 w6 ho6 hg6 _
            have hb6 : Below w0.heap.size w0 w6 := Below.grown hbt5 hg6 (Below.size hbt5) (fun q hq => (HO5.out.lt q hq).1)
            have ho7 : w6.ownsRow w0.heap.size 55 4 v6 R.length (wCells R) := by rw [← HR1.out, ← HR2.out]; simpa using ho6
            have HO6 := Lib.hid ho7
            clear ho6 ho7 hg6
            go_wp2
            go_ret2
            rw [HT2.out, HT1.out]
            exact ⟨_, rfl, own_mono HO6.out hb0.size, hb0.trans (hb6.mono hb0.size)⟩
      · have hpb : (x.p.toList == []) = false := beq_eq_false_iff_ne.2 hp0
        by_cases h16 : false = false ∧ 16 ≤ L.length
        · have HT := rput_full (HTH.out.trans h16.1) hp0 h16.2
          have HT1 := Lib.hid HT
          have hge := h16.2
          clear HT h16
          go_wp2
          go_ret2
          rw [HT1.out]
          exact ⟨_, rfl, World.ownsRow_nil _ _ _ _, hbw⟩
        · obtain ⟨R, hR⟩ : ∃ R, R = L.take k ++ [x] ++ L.drop k := ⟨_, rfl⟩
          have HT := rput_more HP.out HTH.out (d := k) (by first | rfl | simp) hp0 h16
          rw [← hR] at HT
          have HT1 : Hid ((rputL L x).1 = R) := Lib.hid (by rw [HT])
          have HT2 : Hid ((rputL L x).2 = 0) := Lib.hid (by rw [HT])
          have HLN : Hid (k + 1 = (L.take k ++ [x]).length) := Lib.hid (by rw [List.length_append, List.length_take]; simp; omega)
          have HRR := Lib.hid hR
          have hnf : false = false → ¬ (16 : Int) ≤ (L.length : Int) := fun e h => h16 ⟨e, by omega⟩
          clear HT h16 hR
          have hnf := hnf rfl
          go_wp2_with (at_builtin; refine wpList_app _ rfl (.tmp 53) (.tmp 55) _ rfl w0.heap.size 55 wZ 4 48 Tryd.underlying49 inf_w rfl (by omega) _ k (wCells (L.take k)) rfl (HO2.out.alloc _) _ _ 1 (wC x) rfl (one_newW _ _) (wC_one x) ?_ ?_ ?_ ?_)
          · unfold maxLen; omega
          · omega
          · first | exact Below.size (Below.alloc hbt (Below.size hbt) (.cells #[.string x.f, .string x.p, .int .i64 x.q, .bool x.r] 55)) | simpa using Below.size (Below.alloc hbt (Below.size hbt) (.cells #[.string x.f, .string x.p, .int .i64 x.q, .bool x.r] 55))
          intro v5 w5 ho5 hg5 _
          have hbt5 : Below w0.heap.size w0 w5 := ((Below.alloc hbt (Below.size hbt) (.cells #[.string x.f, .string x.p, .int .i64 x.q, .bool x.r] 55)).grown hg5 (Below.size (Below.alloc hbt (Below.size hbt) (.cells #[.string x.f, .string x.p, .int .i64 x.q, .bool x.r] 55))) (fun q hq => (HO2.out.lt q hq).1))
          rw [wCells_snoc] at ho5
          have HO4 := Lib.hid ho5
          clear ho5 hg5
          go_upto_region 12 with fail
          obtain ⟨n1, xs1, HO5, HR1, HR2, hn1⟩ := letters HO4.out HLN.out rfl k HRR.out
          have hn1l : n1 ≤ 1000001 := by omega
          have hlk : L.length - k = 0 := by have := HKL.out; omega
          have hdr : L.drop k = [] := List.drop_eq_nil_of_le (by have := HKL.out; omega)
          rw [hlk, Nat.add_zero] at HR1
          rw [hdr, show wCells [] = [] from rfl, List.append_nil] at HR2
          have HLD := Lib.hid hlk
          clear hn1 hlk hdr
          rcases ao with _ | q
          · have hc0 : cap = 0 := HCZ.out rfl
            subst hc0
            have hk0 : k = 0 := by omega
            subst hk0
            go_wp2_with (at_builtin; refine wpList_app _ rfl (.tmp 60) (.tmp 63) _ rfl w0.heap.size 55 wZ 4 48 Tryd.underlying49 inf_w rfl (by omega) _ n1 xs1 rfl HO5.out 0 _ 0 [] (by first | rfl | (show Value.slice _ (L.length - k) _ = _; rw [HLD.out])) (Rd_none (by intro e; first | rfl | (cases e; done)) (by unfold maxLen; omega)) (by simp) ?_ ?_ ?_ ?_)
            · unfold maxLen; omega
            · omega
            · first | exact Below.size hbt5 | simpa using Below.size hbt5
            intro v6 w6 ho6 hg6 _
            have hb6 : Below w0.heap.size w0 w6 := Below.grown hbt5 hg6 (Below.size hbt5) (fun q hq => (HO5.out.lt q hq).1)
            have ho7 : w6.ownsRow w0.heap.size 55 4 v6 R.length (wCells R) := by rw [← HR1.out, ← HR2.out]; simpa using ho6
            have HO6 := Lib.hid ho7
            clear ho6 ho7 hg6
            go_wp2
            go_ret2
            rw [HT2.out, HT1.out]
            exact ⟨_, rfl, own_mono HO6.out hb0.size, hb0.trans (hb6.mono hb0.size)⟩
          · by_cases hcp : cap = k
            · subst hcp
              go_wp2_with (at_builtin; refine wpList_app _ rfl (.tmp 60) (.tmp 63) _ rfl w0.heap.size 55 wZ 4 48 Tryd.underlying49 inf_w rfl (by omega) _ n1 xs1 rfl HO5.out 0 _ 0 [] (by first | rfl | (show Value.slice _ (L.length - k) _ = _; rw [HLD.out])) (Rd_none (by intro e; first | rfl | (cases e; done)) (by unfold maxLen; omega)) (by simp) ?_ ?_ ?_ ?_)
              · unfold maxLen; omega
              · omega
              · first | exact Below.size hbt5 | simpa using Below.size hbt5
              intro v6 w6 ho6 hg6 _
              have hb6 : Below w0.heap.size w0 w6 := Below.grown hbt5 hg6 (Below.size hbt5) (fun q hq => (HO5.out.lt q hq).1)
              have ho7 : w6.ownsRow w0.heap.size 55 4 v6 R.length (wCells R) := by rw [← HR1.out, ← HR2.out]; simpa using ho6
              have HO6 := Lib.hid ho7
              clear ho6 ho7 hg6
              go_wp2
              go_ret2
              rw [HT2.out, HT1.out]
              exact ⟨_, rfl, own_mono HO6.out hb0.size, hb0.trans (hb6.mono hb0.size)⟩
            · go_wp2_with (at_builtin; refine wpList_app _ rfl (.tmp 60) (.tmp 63) _ rfl w0.heap.size 55 wZ 4 48 Tryd.underlying49 inf_w rfl (by omega) _ n1 xs1 rfl HO5.out 0 _ 0 [] (by first | rfl | (show Value.slice _ (L.length - k) _ = _; rw [HLD.out])) (Rd_none (by intro e; first | rfl | (cases e; done)) (by unfold maxLen; omega)) (by simp) ?_ ?_ ?_ ?_)
              · unfold maxLen; omega
              · omega
              · first | exact Below.size hbt5 | simpa using Below.size hbt5
              intro v6 w6 ho6 hg6 _
              have hb6 : Below w0.heap.size w0 w6 := Below.grown hbt5 hg6 (Below.size hbt5) (fun q hq => (HO5.out.lt q hq).1)
              have ho7 : w6.ownsRow w0.heap.size 55 4 v6 R.length (wCells R) := by rw [← HR1.out, ← HR2.out]; simpa using ho6
              have HO6 := Lib.hid ho7
              clear ho6 ho7 hg6
              go_wp2
              go_ret2
              rw [HT2.out, HT1.out]
              exact ⟨_, rfl, own_mono HO6.out hb0.size, hb0.trans (hb6.mono hb0.size)⟩
end Go.Proofs.YtimjbojoeacaeaaDoor
