/- A disk of the program: ask. -/


import Derived.Test.YtcgdlmlolmfinaaDkAt
import Derived.Test.YtcgdlmlolmfinaaScope
import Derived.Deep.DeepCutAuto
import Derived.Deep.CutBlock
import Derived.Outline
namespace Go.Proofs.Ytcgdlmlolmfinaa
open Go.RowKit Go.MapKept

section
variable {P : Program} {ops : Array Oper} {Q : Exit → Act → World → Prop} {md : Region.Mode} {S : World → Prop}
theorem call_h2 {fuel : Nat} {listed : Array Bool} {a : Act} {w : World} (i j : Nat)
    (H1 : ∃ o : Oper, ops[i]? = some o ∧ ∀ K' : Act → World → Prop, Shut (∀ a w, S w → (S w → wpAnyH P md ops Q S fuel (listed.setIfInBounds i true) a w) → K' a w) → if Region.wanted o (yielded ops a.tmps) = true then Oper.wp P o a w K' Q else K' (a.put o.dst undef) w)
    (H2 : ∃ o : Oper, ops[j]? = some o ∧ ∀ K' : Act → World → Prop, Shut (∀ a w, S w → (S w → wpAnyH P md ops Q S fuel (listed.setIfInBounds j true) a w) → K' a w) → if Region.wanted o (yielded ops a.tmps) = true then Oper.wp P o a w K' Q else K' (a.put o.dst undef) w) :
    AllReadyH P md ops Q S fuel listed a w [i, j] := by
  obtain ⟨o, h1, h2⟩ := H1
  obtain ⟨o', h1', h2'⟩ := H2
  exact AllReadyH.cons h1 h2 (AllReadyH.cons h1' h2' AllReadyH.nil)
/-- An append onto an owned row, as one operation. -/
theorem oper_app {w : World} {o : Oper} {a : Act} {K : Act → World → Prop} (s x : Operand) (t : TypeId)
    (ho : o.op = .call { callee := .builtin .append, args := #[s, x], argTypes := #[t, t] })
    (base : Nat) (e : TypeId) (z : Value) (size bytes : Nat) (ht : P.underlying t = some (.slice e)) (hi : (P.info? e).map (fun i => (i.zero, i.size, i.bytes)) = some (some z, size, bytes))
    (hzs : z.cells.size = size) (hsz : 0 < size)
    (v : Value) (n : Nat) (xs : List Value) (hs : a.eval s = v) (hown : w.ownsRow base e size v n xs)
    (Bd : Nat) (xv : Value) (m : Nat) (news : List Value) (hx : a.eval x = xv) (hr : Rd w Bd size xv m news) (h1 : ∀ u ∈ news, u.oneCell' = true)
    (h63 : n + m ≤ maxLen) (hbytes : (n + m) * bytes ≤ 140737488355328) (hbase : base ≤ w.heap.size)
    (h : ∀ v' w', w'.ownsRow base e size v' (n + m) (xs ++ news) → w.grownBy w' v.ownBlock → (v'.ownBlock = v.ownBlock ∨ v'.ownBlock = some w.heap.size) → K (a.put o.dst v') w') : Oper.wp P o a w K Q := by
  obtain ⟨v', w', hrun, h2, h3, h4⟩ := run_app (P := P) (w := w) base t o.type e z size bytes ht hi hzs hsz v n xs hown Bd xv m news hr h1 h63 hbytes hbase
  unfold Oper.wp execOp
  simp only [ho, resolve, invoke, builtin, Sem.run_bind, Sem.run_pure, Result.andThen_ok, List.map_toArray, List.map_cons, List.map_nil, hs, hx, hrun]
  exact h v' w' h2 h3 h4
end
theorem one_newR (w : World) (x : RV) : Rd (w.alloc (.cells #[.int .i64 x.1.id, .int .i64 x.1.kind, .int .i64 x.1.n, x.2] 100)) (w.heap.size + 1) 4 (.slice (some ⟨w.heap.size, 0, none⟩) 1 1) 1 (wC x) := by
  refine ⟨rfl, _, _, rfl, by omega, by unfold maxLen; omega, (fun e => by cases e), fun _ => ⟨_, _, rfl, by omega, fun j u hu => ?_⟩⟩
  have hW := Whole.new w 100 [.int .i64 x.1.id, .int .i64 x.1.kind, .int .i64 x.1.n, x.2]
  rw [Nat.zero_add]
  show World.cell? (w.alloc (.cells [.int .i64 x.1.id, .int .i64 x.1.kind, .int .i64 x.1.n, x.2].toArray 100)) _ = _
  rw [hW.cell]
  exact hu

theorem frame_any {a : Act} {T : (Nat → Value) → Act} (h : a = T (fun n => a.tmps.getD n undef)) : ∃ u, a = T u := ⟨_, h⟩
/-- A request is put behind, or not. -/
def askS (s : DS) (kind n : Int) (b : List UInt8) (good : Bool) : Int × Int × DS :=
  let s1 := callS s
  if s1.off = true then (0, 10, s1) else if good = false then (0, 1, s1) else if s1.Q.length = 16 then (0, 5, s1)
  else (s1.last + 1, 0, { s1 with last := s1.last + 1, Q := s1.Q ++ [⟨s1.last + 1, kind, n, b⟩] })
section
variable {w w' : World} {base R M : Nat} {F S : List Nat} {kv wv : Value} {Wv : List (Int × Value × List UInt8)} {Qv : List RV} {s s' : DS}
theorem DkAt.push (h : DkAt w base R M F kv wv Wv Qv s) {w1 w2 w3 : World} {bv v' : Value} {q : Rq} (hx : w1.ownsRow w.heap.size 5 1 bv q.b.length (u8s q.b)) (hb : Below w.heap.size w w1) (hl : Left [] w1 w2) (hz : base ≤ w.heap.size) (hq : rqOk s.K q) (hroom : Qv.length < 16)
    (hr : w3.ownsRow base 100 4 v' (Qv.length + 1) (wCells Qv ++ wC (q, bv))) (hg : w2.grownBy w3 wv.ownBlock) (hat : v'.ownBlock = wv.ownBlock ∨ v'.ownBlock = some w2.heap.size) :
    DkAt (w3.setCell ⟨R, 2, none⟩ v') base R M (Value.ownL bv ++ Value.ownL v' ++ F) kv v' Wv (Qv ++ [(q, bv)]) { s with Q := s.Q ++ [q] } ∧ Left F w (w3.setCell ⟨R, 2, none⟩ v') ∧ (∀ k ∈ Value.ownL bv ++ Value.ownL v' ++ F, k ∈ F ∨ w.heap.size ≤ k) ∧ Whole w3 R 68 [kv, .map (some M), wv, .int .i64 s.last, .bool s.off, .int .i64 s.lft, .bool s.armed] := by
  obtain ⟨b1, b2, b3, b4⟩ := h.blk
  have hlA : Left [] w w2 := (Left.of_below hb []).trans hl (by simp)
  have hlg := left_of_grown hg
  have hz1 := hb.size
  have hz2 := hl.size
  have hz3 := hlg.size
  have hl4 : Left [R] w3 (w3.setCell ⟨R, 2, none⟩ v') := (Left.refl _ _).setCell (Or.inl (by simp)) _
  have hz4 := hl4.size
  have h2 := h.left hlA (by simp)
  have hx2 := own_leftB hx hl (by simp)
  have hwt : ∀ k ∈ Value.ownL wv, Ty w2 k 100 := fun k hk => own_ty h2.waits (mem_ownL.1 hk)
  have hRw : R ∉ Value.ownL wv := fun hm => (h2.head.ty.ne (hwt R hm) (by decide)) rfl
  have hW3 := h2.head.left hlg hRw
  have hu8 : ∀ {v : Value} {n : Nat} {xs : List Value} {B : Nat}, w2.ownsRow B 5 1 v n xs → (w3.setCell ⟨R, 2, none⟩ v').ownsRow B 5 1 v n xs := fun ho => by
    have h3 := own_leftB ho hlg (fun k hk e => (own_ty ho e).ne (hwt k hk) (by decide) rfl)
    exact own_leftB h3 hl4 (fun k hk e => by
      simp only [List.mem_singleton] at hk
      subst hk
      exact (hW3.ty.ne (own_ty h3 e) (by decide)) rfl)
  have hFlt : ∀ k ∈ F, base ≤ k ∧ k < w.heap.size := h.lt
  have hkb : ∀ k, kv.ownBlock = some k → k < w.heap.size := fun k hk => (hFlt k (b3 k hk)).2
  have hbn : ∀ k, bv.ownBlock = some k → w.heap.size ≤ k ∧ k < w2.heap.size := fun k hk => by have := hx2.lt k hk; omega
  have hvn : ∀ k, v'.ownBlock = some k → k ∈ F ∨ w.heap.size ≤ k := fun k hk => by
    rcases hat with e | e
    · exact .inl (b4 k (e ▸ hk))
    · rw [e] at hk
      injection hk with hk
      omega
  refine ⟨⟨hW3.put 2 v', hu8 h2.kept, ?_, fun p hp => ?_, h.wval, ?_, fun p hp => ?_, by rw [List.map_append, h.qval]; rfl, by rw [List.length_append, List.length_singleton]; omega, ⟨by simp [b1], by simp [b2], fun k hk => by simp [b3 k hk], fun k hk => by simp [mem_ownL.2 hk]⟩, fun k hk => ?_, h.size, h.fuse⟩, ?_, fun k hk => ?_, hW3⟩
  · refine (h2.map.left hlg (fun hm => ?_)).left hl4 (fun hm => ?_)
    · exact (h2.map.noTy (hwt M hm)) rfl
    · simp only [List.mem_singleton] at hm
      exact (h2.map.noTy h2.head.ty) hm.symm
  · obtain ⟨a, b, c, d⟩ := h2.vals p hp
    exact ⟨hu8 a, b, c, fun k hk => ⟨by simp [(d k hk).1], (d k hk).2⟩⟩
  · have hn : (Qv ++ [(q, bv)]).length = Qv.length + 1 := by simp
    rw [hn, wCells_app, show wCells [(q, bv)] = wC (q, bv) by simp [wCells]]
    exact own_leftB hr hl4 (fun k hk e => by
      simp only [List.mem_singleton] at hk
      subst hk
      exact (hW3.ty.ne (own_ty hr e) (by decide)) rfl)
  · rcases List.mem_append.1 hp with hp | hp
    · obtain ⟨a, b, d⟩ := h2.reqs p hp
      exact ⟨hu8 a, b, fun k hk => ⟨by simp [(d k hk).1], (d k hk).2⟩⟩
    · simp only [List.mem_singleton] at hp
      subst hp
      exact ⟨own_base (hu8 hx2) hz, hq, fun k hk => ⟨by simp [mem_ownL.2 hk], fun e => by have := hkb k e; have := (hbn k hk).1; omega⟩⟩
  · rcases List.mem_append.1 hk with hk | hk
    · rcases List.mem_append.1 hk with hk | hk
      · have := hbn k (mem_ownL.1 hk)
        omega
      · have := hr.lt k (mem_ownL.1 hk)
        omega
    · have := hFlt k hk
      omega
  · refine ((hlA.mono (T := F) (by simp)).trans (hlg.mono (T := F) (fun k hk => b4 k (mem_ownL.1 hk))) (fun k hk => .inl hk)).trans (hl4.mono (T := F) (by simpa using b1)) (fun k hk => .inl hk)
  · rcases List.mem_append.1 hk with hk | hk
    · rcases List.mem_append.1 hk with hk | hk
      · exact .inr (hbn k (mem_ownL.1 hk)).1
      · exact hvn k (mem_ownL.1 hk)
    · exact .inl hk

set_option maxRecDepth 20000 in
set_option maxHeartbeats 4000000 in
theorem ask_g (h : DkG w base R F s) (hz : base ≤ w.heap.size) (kind n : Int) {bv : Value} {b : List UInt8} (hb : ∀ w', Left F w w' → Rd w' w'.heap.size 1 bv b.length (u8s b)) (good : Bool) (hgood : good = true → ∀ id, rqOk s.K ⟨id, kind, n, b⟩) (hbl : b.length ≤ 1000000) (hlast : 0 ≤ s.last ∧ s.last ≤ 1000000000) :
    Calls Try.prog 57 #[.pointer (some ⟨R, 0, none⟩), .int .i64 kind, .int .i64 n, bv, .bool good] w fun e w' => e = .returned (.tuple #[.int .i64 (askS s kind n b good).1, .int .i64 (askS s kind n b good).2.1]) ∧ ∃ F', DkG w' base R F' (askS s kind n b good).2.2 ∧ Left F w w' ∧ ∀ k ∈ F', k ∈ F ∨ w.heap.size ≤ k := by
  obtain ⟨M, kv, wv, Wv, Qv, h⟩ := h
  obtain ⟨bo, bc, rfl, hbc, hbm⟩ := (hb w (Left.refl _ _)).form
  have hbm2 : bc ≤ 9223372036854775807 := by unfold maxLen at hbm; omega
  obtain ⟨A, hA⟩ : ∃ A, askS s kind n b good = A := ⟨_, rfl⟩
  rw [hA]
  have HCALL := Lib.hid (call_at h)
  have HBR := Lib.hid hb
  have HA := Lib.hid hA
  have hRF := h.blk.1
  have hFlt := h.lt R hRF
  have k1 := callS_K (s := s)
  have HGD := Lib.hid hgood
  clear h hb hbm hA hgood
  go_enter Try.func57, Try.ntmps57
  go_wp2
  refine wp_scope_jumps 0 (fun a' w' => DkAt w' base R M F kv wv Wv Qv (callS s) ∧ A = (0, 1, callS s) ∧ Left [R] w w' ∧ ∃ u : Nat → Value, a' = { tmps := #[u 0, u 1, u 2, u 3, u 4, u 5, u 6, u 7, u 8, u 9, u 10, u 11, u 12, u 13, u 14, u 15, u 16, u 17, u 18, u 19, u 20, u 21, u 22, u 23, u 24, u 25, u 26, u 27, u 28, u 29, u 30, u 31, u 32, u 33, u 34, u 35, u 36, u 37, u 38, u 39, u 40, u 41, u 42, u 43, u 44, u 45, u 46, u 47, u 48, u 49, u 50, u 51, u 52, u 53], defers := [] }) (fun _ _ => 0) rfl ?_ ?_
  · go_wp2_with fail
    refine HCALL.out.mono ?_
    rintro e w1 ⟨rfl, hD1, hl1⟩
    have hA := HA.out
    unfold askS at hA
    cases hs1 : callS s with
    | mk K1 W1 Q1 last off lft armed =>
    rw [hs1] at hA hD1 k1
    dsimp only at hA k1
    obtain ⟨rfl, rfl, rfl, hk4, _⟩ := k1
    have hlast' : 0 ≤ last ∧ last ≤ 1000000000 := by omega
    clear hk4
    have HD1 := Lib.hid hD1
    have HL1 := Lib.hid hl1
    have hz1 := hl1.size
    cases off
    · rw [if_neg (by decide)] at hA
      cases good
      · rw [if_pos rfl] at hA
        have HR2 := Lib.hid hA
        have HS1 := Lib.hid hs1
        clear hD1 hl1 hA hs1
        go_wp2
        go_step3
        exact ⟨rfl, by rw [HS1.out]; exact HD1.out, by rw [HS1.out]; exact HR2.out.symm, HL1.out, frame_any rfl⟩
      · rw [if_neg (by decide)] at hA
        obtain ⟨wo, wc, rfl, hwc, hwm⟩ := (Rd.of_own hD1.waits).form
        have hql : s.Q.length = Qv.length := by rw [← hD1.qval]; simp
        have hroom := hD1.room
        have c2 : w1.cell? ⟨R, 2, none⟩ = some (.slice wo Qv.length wc) := by rw [hD1.head.cell]; rfl
        have c3 : w1.cell? ⟨R, 3, none⟩ = some (.int .i64 last) := by rw [hD1.head.cell]; rfl
        have f3 := hD1.head.free 3
        rw [hql] at hA
        by_cases h16 : Qv.length = 16
        · rw [if_pos h16] at hA
          have HR2 := Lib.hid hA
          have hq16 : ((Qv.length : Int) == 16) = true := by simp [h16]
          clear hD1 hl1 hA hs1 hwm h16 hql
          go_wp2
          simp only [Exit.jump]
          go_ret2
          rw [← HR2.out]
          exact ⟨rfl, F, ⟨M, _, _, _, _, HD1.out⟩, HL1.out.mono (by simpa using hRF), fun k hk => .inl hk⟩
        · rw [if_neg h16] at hA
          have HR2 := Lib.hid hA
          have hq16 : ((Qv.length : Int) == 16) = false := beq_eq_false_iff_ne.2 (by omega)
          have hroom2 : Qv.length < 16 := by omega
          have HQK : Hid (rqOk s.K ⟨last + 1, kind, n, b⟩) := Lib.hid (HGD.out rfl _)
          have hlW : Left [R] w1 (w1.setCell ⟨R, 3, none⟩ (.int .i64 (last + 1))) := (Left.refl _ _).setCell (Or.inl (by simp)) _
          have hD2 := HD1.out.head_ (s' := ⟨s.K, s.W, s.Q, last + 1, false, lft, armed⟩) hlW ⟨rfl, rfl, rfl⟩ (HD1.out.head.put 3 _) (HD1.out.fuse)
          clear hD1 hl1 hA hs1 hwm h16 hql hroom
          go_upto_region 8 with fail
          obtain ⟨w2, hw2⟩ : ∃ w2, w2 = w1.setCell ⟨R, 3, none⟩ (.int .i64 (last + 1)) := ⟨_, rfl⟩
          rw [← hw2] at hD2 hlW ⊢
          have HD2 := Lib.hid hD2
          have HL2 : Hid (Left F w w2) := Lib.hid ((HL1.out.mono (T := F) (by simpa using hRF)).trans (hlW.mono (T := F) (by simpa using hRF)) (fun x hx => .inl hx))
          have d2 : w2.cell? ⟨R, 2, none⟩ = some (.slice wo Qv.length wc) := by rw [hD2.head.cell]; rfl
          have d3 : w2.cell? ⟨R, 3, none⟩ = some (.int .i64 (last + 1)) := by rw [hD2.head.cell]; rfl
          have hz2 := HL2.out.size
          have hrd2 : Rd w2 w2.heap.size 1 (.slice bo b.length bc) b.length (u8s b) := HBR.out w2 HL2.out
          have hcp := Clone_any w2.drew (.slice bo b.length bc) b.length (u8s b) (show Rd w2.drew w2.drew.heap.size 1 _ _ _ from hrd2) (u8s_one _) (by omega)
          have HCP := Lib.hid hcp
          clear hD2 hlW hw2 hrd2 hcp c2 c3 f3
          refine wp_region_held_drew (S := fun wx => wx.cell? ⟨R, 3, none⟩ = some (.int .i64 (last + 1))) (by kernel_rfl) d3 (fun hHeld => ?_)
          refine take_h 0 ⟨?_, ?_, ?_, by kernel_rfl, by kernel_rfl, by kernel_rfl, ?_, ?_, by assumption, ?_⟩
          rotate_left 2
          · (simp only [List.getElem?_toArray, List.getElem?_cons_zero]; exact rfl)
          · exact fun _ _ _ h => h
          · first
              | (refine Or.inr ⟨by rfl, ?_⟩; exact rfl)
              | (refine Or.inl ⟨by rfl, ?_⟩
                 intro w hSw
                 (try dsimp only at hSw)
                 (try go_split_ands)
                 go_simp
                 (first | done | with_reducible rfl))
          try simp only [Act.put, List.setIfInBounds_toArray, List.set_cons_zero, List.set_cons_succ]
          refine take_h 1 ⟨?_, ?_, ?_, by kernel_rfl, by kernel_rfl, by kernel_rfl, ?_, ?_, by assumption, ?_⟩
          rotate_left 2
          · (simp only [List.getElem?_toArray, List.getElem?_cons_succ, List.getElem?_cons_zero]; exact rfl)
          · exact fun _ _ _ h => h
          · first
              | (refine Or.inr ⟨by rfl, ?_⟩; exact rfl)
              | (refine Or.inl ⟨by rfl, ?_⟩
                 intro w hSw
                 (try dsimp only at hSw)
                 (try go_split_ands)
                 go_simp
                 (first | done | with_reducible rfl))
          try simp only [Act.put, List.setIfInBounds_toArray, List.set_cons_zero, List.set_cons_succ]
          refine take_h 2 ⟨?_, ?_, ?_, by kernel_rfl, by kernel_rfl, by kernel_rfl, ?_, ?_, by assumption, ?_⟩
          rotate_left 2
          · (simp only [List.getElem?_toArray, List.getElem?_cons_succ, List.getElem?_cons_zero]; exact rfl)
          · exact fun _ _ _ h => h
          · first
              | (refine Or.inr ⟨by rfl, ?_⟩; exact rfl)
              | (refine Or.inl ⟨by rfl, ?_⟩
                 intro w hSw
                 (try dsimp only at hSw)
                 (try go_split_ands)
                 go_simp
                 (first | done | with_reducible rfl))
          try simp only [Act.put, List.setIfInBounds_toArray, List.set_cons_zero, List.set_cons_succ]
          refine take_h 3 ⟨?_, ?_, ?_, by kernel_rfl, by kernel_rfl, by kernel_rfl, ?_, ?_, by assumption, ?_⟩
          rotate_left 2
          · (simp only [List.getElem?_toArray, List.getElem?_cons_succ, List.getElem?_cons_zero]; exact rfl)
          · exact fun _ _ _ h => h
          · first
              | (refine Or.inr ⟨by rfl, ?_⟩; exact rfl)
              | (refine Or.inl ⟨by rfl, ?_⟩
                 intro w hSw
                 (try dsimp only at hSw)
                 (try go_split_ands)
                 go_simp
                 (first | done | with_reducible rfl))
          try simp only [Act.put, List.setIfInBounds_toArray, List.set_cons_zero, List.set_cons_succ]
          refine take_h 5 ⟨?_, ?_, ?_, by kernel_rfl, by kernel_rfl, by kernel_rfl, ?_, ?_, by assumption, ?_⟩
          rotate_left 2
          · (simp only [List.getElem?_toArray, List.getElem?_cons_succ, List.getElem?_cons_zero]; exact rfl)
          · exact fun _ _ _ h => h
          · first
              | (refine Or.inr ⟨by rfl, ?_⟩; exact rfl)
              | (refine Or.inl ⟨by rfl, ?_⟩
                 intro w hSw
                 (try dsimp only at hSw)
                 (try go_split_ands)
                 go_simp
                 (first | done | with_reducible rfl))
          try simp only [Act.put, List.setIfInBounds_toArray, List.set_cons_zero, List.set_cons_succ]
          refine take_h 6 ⟨?_, ?_, ?_, by kernel_rfl, by kernel_rfl, by kernel_rfl, ?_, ?_, by assumption, ?_⟩
          rotate_left 2
          · (simp only [List.getElem?_toArray, List.getElem?_cons_succ, List.getElem?_cons_zero]; exact rfl)
          · exact fun _ _ _ h => h
          · first
              | (refine Or.inr ⟨by rfl, ?_⟩; exact rfl)
              | (refine Or.inl ⟨by rfl, ?_⟩
                 intro w hSw
                 (try dsimp only at hSw)
                 (try go_split_ands)
                 go_simp
                 (first | done | with_reducible rfl))
          try simp only [Act.put, List.setIfInBounds_toArray, List.set_cons_zero, List.set_cons_succ]
          refine take_h 7 ⟨?_, ?_, ?_, by kernel_rfl, by kernel_rfl, by kernel_rfl, ?_, ?_, by assumption, ?_⟩
          rotate_left 2
          · (simp only [List.getElem?_toArray, List.getElem?_cons_succ, List.getElem?_cons_zero]; exact rfl)
          · exact fun _ _ _ h => h
          · first
              | (refine Or.inr ⟨by rfl, ?_⟩; exact rfl)
              | (refine Or.inl ⟨by rfl, ?_⟩
                 intro w hSw
                 (try dsimp only at hSw)
                 (try go_split_ands)
                 go_simp
                 (first | done | with_reducible rfl))
          try simp only [Act.put, List.setIfInBounds_toArray, List.set_cons_zero, List.set_cons_succ]
          refine take_h 8 ⟨?_, ?_, ?_, by kernel_rfl, by kernel_rfl, by kernel_rfl, ?_, ?_, by assumption, ?_⟩
          rotate_left 2
          · (simp only [List.getElem?_toArray, List.getElem?_cons_succ, List.getElem?_cons_zero]; exact rfl)
          · exact fun _ _ _ h => h
          · first
              | (refine Or.inr ⟨by rfl, ?_⟩; exact rfl)
              | (refine Or.inl ⟨by rfl, ?_⟩
                 intro w hSw
                 (try dsimp only at hSw)
                 (try go_split_ands)
                 go_simp
                 (first | done | with_reducible rfl))
          try simp only [Act.put, List.setIfInBounds_toArray, List.set_cons_zero, List.set_cons_succ]
          refine take_h 9 ⟨?_, ?_, ?_, by kernel_rfl, by kernel_rfl, by kernel_rfl, ?_, ?_, by assumption, ?_⟩
          rotate_left 2
          · (simp only [List.getElem?_toArray, List.getElem?_cons_succ, List.getElem?_cons_zero]; exact rfl)
          · exact fun _ _ _ h => h
          · first
              | (refine Or.inr ⟨by rfl, ?_⟩; exact rfl)
              | (refine Or.inl ⟨by rfl, ?_⟩
                 intro w hSw
                 (try dsimp only at hSw)
                 (try go_split_ands)
                 go_simp
                 (first | done | with_reducible rfl))
          try simp only [Act.put, List.setIfInBounds_toArray, List.set_cons_zero, List.set_cons_succ]
          refine take_h 10 ⟨?_, ?_, ?_, by kernel_rfl, by kernel_rfl, by kernel_rfl, ?_, ?_, by assumption, ?_⟩
          rotate_left 2
          · (simp only [List.getElem?_toArray, List.getElem?_cons_succ, List.getElem?_cons_zero]; exact rfl)
          · exact fun _ _ _ h => h
          · first
              | (refine Or.inr ⟨by rfl, ?_⟩; exact rfl)
              | (refine Or.inl ⟨by rfl, ?_⟩
                 intro w hSw
                 (try dsimp only at hSw)
                 (try go_split_ands)
                 go_simp
                 (first | done | with_reducible rfl))
          try simp only [Act.put, List.setIfInBounds_toArray, List.set_cons_zero, List.set_cons_succ]
          refine take_h 11 ⟨?_, ?_, ?_, by kernel_rfl, by kernel_rfl, by kernel_rfl, ?_, ?_, by assumption, ?_⟩
          rotate_left 2
          · (simp only [List.getElem?_toArray, List.getElem?_cons_succ, List.getElem?_cons_zero]; exact rfl)
          · exact fun _ _ _ h => h
          · first
              | (refine Or.inr ⟨by rfl, ?_⟩; exact rfl)
              | (refine Or.inl ⟨by rfl, ?_⟩
                 intro w hSw
                 (try dsimp only at hSw)
                 (try go_split_ands)
                 go_simp
                 (first | done | with_reducible rfl))
          try simp only [Act.put, List.setIfInBounds_toArray, List.set_cons_zero, List.set_cons_succ]
          refine wpAnyH_ready (rs := [4, 12]) (by kernel_rfl) (by simp) ?_
          refine call_h2 4 12 ?A ?B
          case A =>
            refine ⟨?_, ?_, fun K hK => ?_⟩
            rotate_left 1
            · (simp only [List.getElem?_toArray, List.getElem?_cons_succ, List.getElem?_cons_zero]; exact rfl)
            go_simp
            go_wp2_with fail
            refine hK.out _ _ d3 (fun hHeld => ?_)
            clear hK K
            (try simp only [Act.put, List.setIfInBounds_toArray, List.set_cons_zero, List.set_cons_succ])
            refine wpAnyH_ready (rs := [12]) (by kernel_rfl) (by simp) ?_
            refine call_h 12 ⟨?_, ?_, fun K hK => ?_⟩
            rotate_left 1
            · (simp only [List.getElem?_toArray, List.getElem?_cons_succ, List.getElem?_cons_zero]; exact rfl)
            go_simp
            (go_at_call 38; refine HCP.out.mono ?_; rintro e w3 ⟨x, rfl, hown, hb3⟩; obtain ⟨xo, xc, rfl, _, _⟩ := (Rd.of_own hown).form)
            go_wp2_with fail
            have HX : Hid (w3.ownsRow w2.heap.size 5 1 (.slice xo b.length xc) b.length (u8s b)) := Lib.hid hown
            have HB3 : Hid (Below w2.heap.size w2 w3) := Lib.hid ⟨hb3.os, hb3.tape, hb3.output, hb3.size, hb3.block⟩
            have e3 : w3.cell? ⟨R, 3, none⟩ = some (.int .i64 (last + 1)) := cell_left' d3 (Left.of_below HB3.out []) (by simp)
            have e2 : w3.cell? ⟨R, 2, none⟩ = some (.slice wo Qv.length wc) := cell_left' d2 (Left.of_below HB3.out []) (by simp)
            clear hown hb3
            refine hK.out _ _ e3 (fun hHeld => ?_)
            clear hK K
            (try simp only [Act.put, List.setIfInBounds_toArray, List.set_cons_zero, List.set_cons_succ])
            refine take_h 13 ⟨?_, ?_, ?_, by kernel_rfl, by kernel_rfl, by kernel_rfl, ?_, ?_, by assumption, ?_⟩
            rotate_left 2
            · (simp only [List.getElem?_toArray, List.getElem?_cons_succ, List.getElem?_cons_zero]; exact rfl)
            · exact fun _ _ _ h => h
            · first
                | (refine Or.inr ⟨by rfl, ?_⟩; exact rfl)
                | (refine Or.inl ⟨by rfl, ?_⟩
                   intro w hSw
                   (try dsimp only at hSw)
                   (try go_split_ands)
                   go_simp
                   (first | done | with_reducible rfl))
            try simp only [Act.put, List.setIfInBounds_toArray, List.set_cons_zero, List.set_cons_succ]
            refine wpAnyH_ready (rs := [14]) (by kernel_rfl) (by simp) ?_
            refine call_h 14 ⟨?_, ?_, fun K hK => ?_⟩
            rotate_left 1
            · (simp only [List.getElem?_toArray, List.getElem?_cons_succ, List.getElem?_cons_zero]; exact rfl)
            go_simp
            skip
            go_wp2_with fail
            refine hK.out _ _ (cell_left' e3 ((Left.refl [] w3).alloc _) (by simp)) (fun hHeld => ?_)
            clear hK K
            (try simp only [Act.put, List.setIfInBounds_toArray, List.set_cons_zero, List.set_cons_succ])
            have hlz := (Left.refl [] w3).alloc (.cells #[.int .i64 (last + 1), .int .i64 kind, .int .i64 n, .slice xo b.length xc] 100)
            have HRT := Lib.hid (own_leftB (own_leftB HD2.out.waits (Left.of_below HB3.out []) (by simp)) hlz (by simp))
            have hz3 := HB3.out.size
            have e3' := cell_left' e3 hlz (by simp)
            refine wpAnyH_ready (rs := [15]) (by kernel_rfl) (by simp) ?_
            refine call_h 15 ⟨?_, ?_, fun K hK => ?_⟩
            rotate_left 1
            · (simp only [List.getElem?_toArray, List.getElem?_cons_succ, List.getElem?_cons_zero]; exact rfl)
            rw [if_pos (by rfl)]
            refine oper_app (.tmp 36) (.tmp 46) 66 rfl base 100 wZ 4 48 Try.underlying66 inf_w rfl (by omega) _ Qv.length (wCells Qv) rfl HRT.out _ _ 1 (wC (⟨last + 1, kind, n, b⟩, .slice xo b.length xc)) rfl (one_newR w3 (⟨last + 1, kind, n, b⟩, .slice xo b.length xc)) (wC_one _ rfl) ?_ ?_ ?_ ?_
            · unfold maxLen; omega
            · omega
            · simp; omega
            intro v1 w5 hrow hg hat
            obtain ⟨ao1, ac1, rfl, _, _⟩ := (Rd.of_own hrow).form
            obtain ⟨q1, q2, q3, q4⟩ := HD2.out.push (q := ⟨last + 1, kind, n, b⟩) HX.out HB3.out hlz (by omega) HQK.out (by omega) hrow hg hat
            have g2 : w5.cell? ⟨R, 2, none⟩ = some (.slice wo Qv.length wc) := by rw [q4.cell]; rfl
            have g3 : w5.cell? ⟨R, 3, none⟩ = some (.int .i64 (last + 1)) := by rw [q4.cell]; rfl
            have gf := q4.free 2
            have HEND := Lib.hid (And.intro q1 (And.intro q2 q3))
            clear q1 q2 q3 q4 hrow hg hat e2 e3 e3'
            refine hK.out _ _ g3 (fun hHeld => ?_)
            clear hK K
            (try simp only [Act.put, List.setIfInBounds_toArray, List.set_cons_zero, List.set_cons_succ])
            refine take_h 16 ⟨?_, ?_, ?_, by kernel_rfl, by kernel_rfl, by kernel_rfl, ?_, ?_, by assumption, ?_⟩
            rotate_left 2
            · (simp only [List.getElem?_toArray, List.getElem?_cons_succ, List.getElem?_cons_zero]; exact rfl)
            · exact fun _ _ _ h => h
            · first
                | (refine Or.inr ⟨by rfl, ?_⟩; exact rfl)
                | (refine Or.inl ⟨by rfl, ?_⟩
                   intro w hSw
                   (try dsimp only at hSw)
                   (try go_split_ands)
                   go_simp
                   (first | done | with_reducible rfl))
            try simp only [Act.put, List.setIfInBounds_toArray, List.set_cons_zero, List.set_cons_succ]
            refine take_h 17 ⟨?_, ?_, ?_, by kernel_rfl, by kernel_rfl, by kernel_rfl, ?_, ?_, by assumption, ?_⟩
            rotate_left 2
            · (simp only [List.getElem?_toArray, List.getElem?_cons_succ, List.getElem?_cons_zero]; exact rfl)
            · exact fun _ _ _ h => h
            · first
                | (refine Or.inr ⟨by rfl, ?_⟩; exact rfl)
                | (refine Or.inl ⟨by rfl, ?_⟩
                   intro w hSw
                   (try dsimp only at hSw)
                   (try go_split_ands)
                   go_simp
                   (first | done | with_reducible rfl))
            try simp only [Act.put, List.setIfInBounds_toArray, List.set_cons_zero, List.set_cons_succ]
            refine wpAnyH_ready (rs := [18]) (by kernel_rfl) (by simp) ?_
            refine call_h 18 ⟨?_, ?_, fun K hK => ?_⟩
            rotate_left 1
            · (simp only [List.getElem?_toArray, List.getElem?_cons_succ, List.getElem?_cons_zero]; exact rfl)
            go_simp
            skip
            go_wp2_with fail
            have g3' : (w5.setCell ⟨R, 2, none⟩ (.slice ao1 (Qv.length + 1) ac1)).cell? ⟨R, 3, none⟩ = some (.int .i64 (last + 1)) := by rw [HEND.out.1.head.cell]; rfl
            refine hK.out _ _ g3' (fun hHeld => ?_)
            clear hK K
            (try simp only [Act.put, List.setIfInBounds_toArray, List.set_cons_zero, List.set_cons_succ])
            refine wpAnyH_done (by kernel_rfl) ?_ _
            clear hHeld g2 g3 gf
            go_wp2
            simp only [Exit.jump]
            go_ret2
            obtain ⟨q1, q2, q3⟩ := HEND.out
            rw [← HR2.out]
            exact ⟨rfl, _, ⟨M, _, _, _, _, q1⟩, (HL2.out.trans q2 (fun x hx => .inl hx)), fun k hk => by rcases q3 k hk with hq | hq; exact .inl hq; exact .inr (by have := HL2.out.size; omega)⟩
          case B =>
            refine ⟨?_, ?_, fun K hK => ?_⟩
            rotate_left 1
            · (simp only [List.getElem?_toArray, List.getElem?_cons_succ, List.getElem?_cons_zero]; exact rfl)
            go_simp
            (go_at_call 38; refine HCP.out.mono ?_; rintro e w3 ⟨x, rfl, hown, hb3⟩; obtain ⟨xo, xc, rfl, _, _⟩ := (Rd.of_own hown).form)
            have HX : Hid (w3.ownsRow w2.heap.size 5 1 (.slice xo b.length xc) b.length (u8s b)) := Lib.hid hown
            have HB3 : Hid (Below w2.heap.size w2 w3) := Lib.hid ⟨hb3.os, hb3.tape, hb3.output, hb3.size, hb3.block⟩
            have e3 : w3.cell? ⟨R, 3, none⟩ = some (.int .i64 (last + 1)) := cell_left' d3 (Left.of_below HB3.out []) (by simp)
            have e2 : w3.cell? ⟨R, 2, none⟩ = some (.slice wo Qv.length wc) := cell_left' d2 (Left.of_below HB3.out []) (by simp)
            clear hown hb3
            go_wp2_with fail
            refine hK.out _ _ e3 (fun hHeld => ?_)
            clear hK K
            (try simp only [Act.put, List.setIfInBounds_toArray, List.set_cons_zero, List.set_cons_succ])
            refine take_h 13 ⟨?_, ?_, ?_, by kernel_rfl, by kernel_rfl, by kernel_rfl, ?_, ?_, by assumption, ?_⟩
            rotate_left 2
            · (simp only [List.getElem?_toArray, List.getElem?_cons_succ, List.getElem?_cons_zero]; exact rfl)
            · exact fun _ _ _ h => h
            · first
                | (refine Or.inr ⟨by rfl, ?_⟩; exact rfl)
                | (refine Or.inl ⟨by rfl, ?_⟩
                   intro w hSw
                   (try dsimp only at hSw)
                   (try go_split_ands)
                   go_simp
                   (first | done | with_reducible rfl))
            try simp only [Act.put, List.setIfInBounds_toArray, List.set_cons_zero, List.set_cons_succ]
            refine wpAnyH_ready (rs := [4, 14]) (by kernel_rfl) (by simp) ?_
            refine call_h2 4 14 ?A ?B
            case A =>
              refine ⟨?_, ?_, fun K hK => ?_⟩
              rotate_left 1
              · (simp only [List.getElem?_toArray, List.getElem?_cons_succ, List.getElem?_cons_zero]; exact rfl)
              go_simp
              go_wp2_with fail
              refine hK.out _ _ e3 (fun hHeld => ?_)
              clear hK K
              (try simp only [Act.put, List.setIfInBounds_toArray, List.set_cons_zero, List.set_cons_succ])
              refine wpAnyH_ready (rs := [14]) (by kernel_rfl) (by simp) ?_
              refine call_h 14 ⟨?_, ?_, fun K hK => ?_⟩
              rotate_left 1
              · (simp only [List.getElem?_toArray, List.getElem?_cons_succ, List.getElem?_cons_zero]; exact rfl)
              go_simp
              skip
              go_wp2_with fail
              refine hK.out _ _ (cell_left' e3 ((Left.refl [] w3).alloc _) (by simp)) (fun hHeld => ?_)
              clear hK K
              (try simp only [Act.put, List.setIfInBounds_toArray, List.set_cons_zero, List.set_cons_succ])
              have hlz := (Left.refl [] w3).alloc (.cells #[.int .i64 (last + 1), .int .i64 kind, .int .i64 n, .slice xo b.length xc] 100)
              have HRT := Lib.hid (own_leftB (own_leftB HD2.out.waits (Left.of_below HB3.out []) (by simp)) hlz (by simp))
              have hz3 := HB3.out.size
              have e3' := cell_left' e3 hlz (by simp)
              refine wpAnyH_ready (rs := [15]) (by kernel_rfl) (by simp) ?_
              refine call_h 15 ⟨?_, ?_, fun K hK => ?_⟩
              rotate_left 1
              · (simp only [List.getElem?_toArray, List.getElem?_cons_succ, List.getElem?_cons_zero]; exact rfl)
              rw [if_pos (by rfl)]
              refine oper_app (.tmp 36) (.tmp 46) 66 rfl base 100 wZ 4 48 Try.underlying66 inf_w rfl (by omega) _ Qv.length (wCells Qv) rfl HRT.out _ _ 1 (wC (⟨last + 1, kind, n, b⟩, .slice xo b.length xc)) rfl (one_newR w3 (⟨last + 1, kind, n, b⟩, .slice xo b.length xc)) (wC_one _ rfl) ?_ ?_ ?_ ?_
              · unfold maxLen; omega
              · omega
              · simp; omega
              intro v1 w5 hrow hg hat
              obtain ⟨ao1, ac1, rfl, _, _⟩ := (Rd.of_own hrow).form
              obtain ⟨q1, q2, q3, q4⟩ := HD2.out.push (q := ⟨last + 1, kind, n, b⟩) HX.out HB3.out hlz (by omega) HQK.out (by omega) hrow hg hat
              have g2 : w5.cell? ⟨R, 2, none⟩ = some (.slice wo Qv.length wc) := by rw [q4.cell]; rfl
              have g3 : w5.cell? ⟨R, 3, none⟩ = some (.int .i64 (last + 1)) := by rw [q4.cell]; rfl
              have gf := q4.free 2
              have HEND := Lib.hid (And.intro q1 (And.intro q2 q3))
              clear q1 q2 q3 q4 hrow hg hat e2 e3 e3'
              refine hK.out _ _ g3 (fun hHeld => ?_)
              clear hK K
              (try simp only [Act.put, List.setIfInBounds_toArray, List.set_cons_zero, List.set_cons_succ])
              refine take_h 16 ⟨?_, ?_, ?_, by kernel_rfl, by kernel_rfl, by kernel_rfl, ?_, ?_, by assumption, ?_⟩
              rotate_left 2
              · (simp only [List.getElem?_toArray, List.getElem?_cons_succ, List.getElem?_cons_zero]; exact rfl)
              · exact fun _ _ _ h => h
              · first
                  | (refine Or.inr ⟨by rfl, ?_⟩; exact rfl)
                  | (refine Or.inl ⟨by rfl, ?_⟩
                     intro w hSw
                     (try dsimp only at hSw)
                     (try go_split_ands)
                     go_simp
                     (first | done | with_reducible rfl))
              try simp only [Act.put, List.setIfInBounds_toArray, List.set_cons_zero, List.set_cons_succ]
              refine take_h 17 ⟨?_, ?_, ?_, by kernel_rfl, by kernel_rfl, by kernel_rfl, ?_, ?_, by assumption, ?_⟩
              rotate_left 2
              · (simp only [List.getElem?_toArray, List.getElem?_cons_succ, List.getElem?_cons_zero]; exact rfl)
              · exact fun _ _ _ h => h
              · first
                  | (refine Or.inr ⟨by rfl, ?_⟩; exact rfl)
                  | (refine Or.inl ⟨by rfl, ?_⟩
                     intro w hSw
                     (try dsimp only at hSw)
                     (try go_split_ands)
                     go_simp
                     (first | done | with_reducible rfl))
              try simp only [Act.put, List.setIfInBounds_toArray, List.set_cons_zero, List.set_cons_succ]
              refine wpAnyH_ready (rs := [18]) (by kernel_rfl) (by simp) ?_
              refine call_h 18 ⟨?_, ?_, fun K hK => ?_⟩
              rotate_left 1
              · (simp only [List.getElem?_toArray, List.getElem?_cons_succ, List.getElem?_cons_zero]; exact rfl)
              go_simp
              skip
              go_wp2_with fail
              have g3' : (w5.setCell ⟨R, 2, none⟩ (.slice ao1 (Qv.length + 1) ac1)).cell? ⟨R, 3, none⟩ = some (.int .i64 (last + 1)) := by rw [HEND.out.1.head.cell]; rfl
              refine hK.out _ _ g3' (fun hHeld => ?_)
              clear hK K
              (try simp only [Act.put, List.setIfInBounds_toArray, List.set_cons_zero, List.set_cons_succ])
              refine wpAnyH_done (by kernel_rfl) ?_ _
              clear hHeld g2 g3 gf
              go_wp2
              simp only [Exit.jump]
              go_ret2
              obtain ⟨q1, q2, q3⟩ := HEND.out
              rw [← HR2.out]
              exact ⟨rfl, _, ⟨M, _, _, _, _, q1⟩, (HL2.out.trans q2 (fun x hx => .inl hx)), fun k hk => by rcases q3 k hk with hq | hq; exact .inl hq; exact .inr (by have := HL2.out.size; omega)⟩
            case B =>
              refine ⟨?_, ?_, fun K hK => ?_⟩
              rotate_left 1
              · (simp only [List.getElem?_toArray, List.getElem?_cons_succ, List.getElem?_cons_zero]; exact rfl)
              go_simp
              go_wp2_with fail
              refine hK.out _ _ (cell_left' e3 ((Left.refl [] w3).alloc _) (by simp)) (fun hHeld => ?_)
              clear hK K
              (try simp only [Act.put, List.setIfInBounds_toArray, List.set_cons_zero, List.set_cons_succ])
              have e2' := cell_left' e2 ((Left.refl [] w3).alloc (.cells #[.int .i64 (last + 1), .int .i64 kind, .int .i64 n, .slice xo b.length xc] 100)) (by simp)
              refine wpAnyH_ready (rs := [4]) (by kernel_rfl) (by simp) ?_
              refine call_h 4 ⟨?_, ?_, fun K hK => ?_⟩
              rotate_left 1
              · (simp only [List.getElem?_toArray, List.getElem?_cons_succ, List.getElem?_cons_zero]; exact rfl)
              go_simp
              skip
              go_wp2_with fail
              refine hK.out _ _ (cell_left' e3 ((Left.refl [] w3).alloc _) (by simp)) (fun hHeld => ?_)
              clear hK K
              (try simp only [Act.put, List.setIfInBounds_toArray, List.set_cons_zero, List.set_cons_succ])
              clear e2'
              have hlz := (Left.refl [] w3).alloc (.cells #[.int .i64 (last + 1), .int .i64 kind, .int .i64 n, .slice xo b.length xc] 100)
              have HRT := Lib.hid (own_leftB (own_leftB HD2.out.waits (Left.of_below HB3.out []) (by simp)) hlz (by simp))
              have hz3 := HB3.out.size
              have e3' := cell_left' e3 hlz (by simp)
              refine wpAnyH_ready (rs := [15]) (by kernel_rfl) (by simp) ?_
              refine call_h 15 ⟨?_, ?_, fun K hK => ?_⟩
              rotate_left 1
              · (simp only [List.getElem?_toArray, List.getElem?_cons_succ, List.getElem?_cons_zero]; exact rfl)
              rw [if_pos (by rfl)]
              refine oper_app (.tmp 36) (.tmp 46) 66 rfl base 100 wZ 4 48 Try.underlying66 inf_w rfl (by omega) _ Qv.length (wCells Qv) rfl HRT.out _ _ 1 (wC (⟨last + 1, kind, n, b⟩, .slice xo b.length xc)) rfl (one_newR w3 (⟨last + 1, kind, n, b⟩, .slice xo b.length xc)) (wC_one _ rfl) ?_ ?_ ?_ ?_
              · unfold maxLen; omega
              · omega
              · simp; omega
              intro v1 w5 hrow hg hat
              obtain ⟨ao1, ac1, rfl, _, _⟩ := (Rd.of_own hrow).form
              obtain ⟨q1, q2, q3, q4⟩ := HD2.out.push (q := ⟨last + 1, kind, n, b⟩) HX.out HB3.out hlz (by omega) HQK.out (by omega) hrow hg hat
              have g2 : w5.cell? ⟨R, 2, none⟩ = some (.slice wo Qv.length wc) := by rw [q4.cell]; rfl
              have g3 : w5.cell? ⟨R, 3, none⟩ = some (.int .i64 (last + 1)) := by rw [q4.cell]; rfl
              have gf := q4.free 2
              have HEND := Lib.hid (And.intro q1 (And.intro q2 q3))
              clear q1 q2 q3 q4 hrow hg hat e2 e3 e3'
              refine hK.out _ _ g3 (fun hHeld => ?_)
              clear hK K
              (try simp only [Act.put, List.setIfInBounds_toArray, List.set_cons_zero, List.set_cons_succ])
              refine take_h 16 ⟨?_, ?_, ?_, by kernel_rfl, by kernel_rfl, by kernel_rfl, ?_, ?_, by assumption, ?_⟩
              rotate_left 2
              · (simp only [List.getElem?_toArray, List.getElem?_cons_succ, List.getElem?_cons_zero]; exact rfl)
              · exact fun _ _ _ h => h
              · first
                  | (refine Or.inr ⟨by rfl, ?_⟩; exact rfl)
                  | (refine Or.inl ⟨by rfl, ?_⟩
                     intro w hSw
                     (try dsimp only at hSw)
                     (try go_split_ands)
                     go_simp
                     (first | done | with_reducible rfl))
              try simp only [Act.put, List.setIfInBounds_toArray, List.set_cons_zero, List.set_cons_succ]
              refine take_h 17 ⟨?_, ?_, ?_, by kernel_rfl, by kernel_rfl, by kernel_rfl, ?_, ?_, by assumption, ?_⟩
              rotate_left 2
              · (simp only [List.getElem?_toArray, List.getElem?_cons_succ, List.getElem?_cons_zero]; exact rfl)
              · exact fun _ _ _ h => h
              · first
                  | (refine Or.inr ⟨by rfl, ?_⟩; exact rfl)
                  | (refine Or.inl ⟨by rfl, ?_⟩
                     intro w hSw
                     (try dsimp only at hSw)
                     (try go_split_ands)
                     go_simp
                     (first | done | with_reducible rfl))
              try simp only [Act.put, List.setIfInBounds_toArray, List.set_cons_zero, List.set_cons_succ]
              refine wpAnyH_ready (rs := [18]) (by kernel_rfl) (by simp) ?_
              refine call_h 18 ⟨?_, ?_, fun K hK => ?_⟩
              rotate_left 1
              · (simp only [List.getElem?_toArray, List.getElem?_cons_succ, List.getElem?_cons_zero]; exact rfl)
              go_simp
              skip
              go_wp2_with fail
              have g3' : (w5.setCell ⟨R, 2, none⟩ (.slice ao1 (Qv.length + 1) ac1)).cell? ⟨R, 3, none⟩ = some (.int .i64 (last + 1)) := by rw [HEND.out.1.head.cell]; rfl
              refine hK.out _ _ g3' (fun hHeld => ?_)
              clear hK K
              (try simp only [Act.put, List.setIfInBounds_toArray, List.set_cons_zero, List.set_cons_succ])
              refine wpAnyH_done (by kernel_rfl) ?_ _
              clear hHeld g2 g3 gf
              go_wp2
              simp only [Exit.jump]
              go_ret2
              obtain ⟨q1, q2, q3⟩ := HEND.out
              rw [← HR2.out]
              exact ⟨rfl, _, ⟨M, _, _, _, _, q1⟩, (HL2.out.trans q2 (fun x hx => .inl hx)), fun k hk => by rcases q3 k hk with hq | hq; exact .inl hq; exact .inr (by have := HL2.out.size; omega)⟩
    · rw [if_pos rfl] at hA
      have HR2 := Lib.hid hA
      clear hD1 hl1 hA hs1
      go_wp2
      simp only [Exit.jump]
      go_ret2
      rw [← HR2.out]
      exact ⟨rfl, F, ⟨M, _, _, _, _, HD1.out⟩, HL1.out.mono (by simpa using hRF), fun k hk => .inl hk⟩
  · rintro a' w' ⟨hD1, hA1, hl1, u, rfl⟩
    have HD1 := Lib.hid hD1
    have HR2 := Lib.hid hA1
    have HL1 := Lib.hid hl1
    clear hD1 hA1 hl1
    go_wp2
    simp only [Exit.jump]
    go_ret2
    rw [HR2.out]
    exact ⟨rfl, F, ⟨M, _, _, _, _, HD1.out⟩, HL1.out.mono (by simpa using hRF), fun k hk => .inl hk⟩
end
end Go.Proofs.Ytcgdlmlolmfinaa
