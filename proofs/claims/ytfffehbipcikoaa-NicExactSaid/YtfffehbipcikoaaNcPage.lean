/- The page's network card: two queues of frames. -/


import Derived.Test.YtfffehbipcikoaaNcNew2
namespace Go.Proofs.Ytfffehbipcikoaa
open Go.RowKit Go.MapKept

section
variable {P : Program} {w : World}
/-- An append onto a row of our own, as one operation. -/
theorem oper_row {o : Oper} {a : Act} {K : Act → World → Prop} {Q : Exit → Act → World → Prop} (s x : Operand) (t : TypeId)
    (ho : o.op = .call { callee := .builtin .append, args := #[s, x], argTypes := #[t, t] })
    (base : Nat) (e : TypeId) (z : Value) (size bytes : Nat) (ht : P.underlying t = some (.slice e)) (hi : (P.info? e).map (fun i => (i.zero, i.size, i.bytes)) = some (some z, size, bytes))
    (hzs : z.cells.size = size) (hsz : 0 < size)
    (v : Value) (n : Nat) (xs : List Value) (hs : a.eval s = v) (hown : Row w base e size v n xs)
    (ad : Addr) (m c : Nat) (news : List Value) (hx : a.eval x = .slice (some ad) m c) (hl : news.length = m * size) (hnews : ∀ j u, news[j]? = some u → w.cell? (ad.add j) = some u) (h1 : ∀ u ∈ news, u.oneCell' = true)
    (h63 : n + m ≤ maxLen) (hbytes : (n + m) * bytes ≤ 140737488355328) (hbase : base ≤ w.heap.size)
    (h : ∀ v' w', Row w' base e size v' (n + m) (xs ++ news) → w.grownBy w' v.ownBlock → (v'.ownBlock = v.ownBlock ∨ v'.ownBlock = some w.heap.size) → K (a.put o.dst v') w') : Oper.wp P o a w K Q := by
  obtain ⟨v', w', hrun, h2, h3, h4⟩ := run_row_app (P := P) w base t o.type e z size bytes ht hi hzs hsz v n xs hown ad m c news hl hnews h1 h63 hbytes hbase
  unfold Oper.wp execOp
  simp only [ho, resolve, invoke, builtin, Sem.run_bind, Sem.run_pure, Result.andThen_ok, List.map_toArray, List.map_cons, List.map_nil, hs, hx, hrun]
  exact h v' w' h2 h3 h4
end

theorem info_bss : (Try.prog.info? 39).map (fun i => (i.zero, i.size, i.bytes)) = some (some (.slice none 0 0), 1, 24) := by kernel_rfl
set_option maxHeartbeats 400000 in
theorem Whole1_any (w : World) (ao : Option Addr) (n cap : Nat) :
    Calls Try.prog 88 #[.slice ao n cap] w fun e w' => e = .returned (.bool (wholeB n)) ∧ w = w' := by
  by_cases h : 14 ≤ n
  · have hx : Hid (wholeB n = decide ((n : Int) ≤ 1514)) := Lib.hid (by
      unfold wholeB
      rw [decide_eq_true h, Bool.true_and]
      exact decide_eq_decide.2 (by omega))
    go_enter Try.func88, Try.ntmps88
    go_wp2
    go_ret
    exact ⟨by rw [hx.out]; rfl, rfl⟩
  · have hx : Hid (wholeB n = false) := Lib.hid (by simp [wholeB, h])
    go_enter Try.func88, Try.ntmps88
    go_wp2
    go_ret
    exact ⟨by rw [hx.out]; rfl, rfl⟩

/-- A row of frames; each lies in a block of D. -/
def FRow (w : World) (base : Nat) (D : List Nat) (v : Value) (F : List (List UInt8)) : Prop :=
  ∃ ws, Row w base 39 1 v F.length ws ∧ ∀ (j : Nat) (f : List UInt8) (x : Value), F[j]? = some f → ws[j]? = some x → w.ownsRow base 5 1 x f.length (u8s f) ∧ ∀ k, x.ownBlock = some k → k ∈ D
section
variable {w w' : World} {base : Nat} {D D' S : List Nat} {v v' : Value} {F : List (List UInt8)}
theorem FRow.left (h : FRow w base D v F) (hl : Left S w w') (hS : ∀ k ∈ S, k < base ∨ (k ∉ D ∧ v.ownBlock ≠ some k)) : FRow w' base D v F := by
  obtain ⟨ws, h1, h2⟩ := h
  refine ⟨ws, h1.left hl (fun k hk e => ?_), fun j f x hj hx => ?_⟩
  · rcases hS k hk with g | g
    · have := (h1.lt e).1; omega
    · exact g.2 e
  · obtain ⟨a, b⟩ := h2 j f x hj hx
    refine ⟨own_leftB a hl (fun k hk e => ?_), b⟩
    rcases hS k hk with g | g
    · have := (a.lt k e).1; omega
    · exact g.1 (b k e)
theorem FRow.more (h : FRow w base D v F) (hD : ∀ k ∈ D, k ∈ D') : FRow w base D' v F := by
  obtain ⟨ws, h1, h2⟩ := h
  exact ⟨ws, h1, fun j f x hj hx => ⟨(h2 j f x hj hx).1, fun k hk => hD k ((h2 j f x hj hx).2 k hk)⟩⟩
theorem FRow.ty (h : FRow w base D v F) {k : Nat} (hk : v.ownBlock = some k) : Ty w k 39 ∧ base ≤ k ∧ k < w.heap.size := by
  obtain ⟨ws, h1, _⟩ := h
  exact ⟨h1.ty hk, h1.lt hk⟩
theorem FRow.app {x : Value} {f : List UInt8} (hx : w.ownsRow base 5 1 x f.length (u8s f)) {ws : List Value} (h1 : Row w base 39 1 v F.length ws) (h2 : ∀ (j : Nat) (f : List UInt8) (x : Value), F[j]? = some f → ws[j]? = some x → w.ownsRow base 5 1 x f.length (u8s f) ∧ ∀ k, x.ownBlock = some k → k ∈ D)
    (hr : Row w' base 39 1 v' (F.length + 1) (ws ++ [x])) (hg : Left (Value.ownL v) w w') : FRow w' base (Value.ownL x ++ D) v' (F ++ [f]) := by
  have hb : ∀ {y : Value} {n : Nat} {xs : List Value}, w.ownsRow base 5 1 y n xs → w'.ownsRow base 5 1 y n xs := fun hy => own_leftB hy hg (fun k hk e => (own_ty hy e).ne (h1.ty (mem_ownL.1 hk)) (by decide) rfl)
  have hwl : ws.length = F.length := by have := h1.1; omega
  refine ⟨ws ++ [x], by simpa using hr, fun j g y hj hy => ?_⟩
  rcases Nat.lt_or_ge j F.length with hl | hl
  · rw [List.getElem?_append_left hl] at hj
    rw [List.getElem?_append_left (by omega)] at hy
    obtain ⟨a, b⟩ := h2 j g y hj hy
    exact ⟨hb a, fun k hk => List.mem_append.2 (.inr (b k hk))⟩
  · have hjn := (List.getElem?_eq_some_iff.1 hj).1
    have hje : j = F.length := by simp at hjn; omega
    subst hje
    rw [List.getElem?_append_right (Nat.le_refl _), Nat.sub_self] at hj
    rw [List.getElem?_append_right (by omega), show F.length - ws.length = 0 by omega] at hy
    injection hj with hj
    injection hy with hy
    subst hj hy
    exact ⟨hb hx, fun k hk => List.mem_append.2 (.inl (mem_ownL.2 hk))⟩
theorem FRow.first {f : List UInt8} (h : FRow w base D v (f :: F)) : ∃ g off cap x, v = .slice (some ⟨g, off, none⟩) (F.length + 1) cap ∧ F.length + 1 ≤ cap ∧ cap ≤ maxLen ∧ w.cell? ⟨g, off, none⟩ = some x ∧ w.ownsRow base 5 1 x f.length (u8s f) ∧ (∀ k, x.ownBlock = some k → k ∈ D) ∧
    (1 < cap → FRow w base D (.slice (some ⟨g, off + 1, none⟩) F.length (cap - 1)) F) ∧ (cap = 1 → FRow w base D (.slice (some ⟨g, off, none⟩) 0 0) F ∧ F.length = 0) := by
  obtain ⟨ws, h1, h2⟩ := h
  obtain ⟨g, off, cap, rfl, hb, hgl, hc, hm, hcell⟩ := h1.at_ (by simp)
  have hwl : ws.length = F.length + 1 := by have := h1.1; simp at this; omega
  cases ws with
  | nil => simp at hwl
  | cons x ws =>
    have hx := hcell 0 x rfl
    rw [Nat.add_zero] at hx
    obtain ⟨x1, x2⟩ := h2 0 f x rfl rfl
    refine ⟨g, off, cap, x, rfl, by simpa using hc, hm, hx, x1, x2, fun hc1 => ?_, fun hc1 => ?_⟩
    · exact ⟨ws, Row.tail (x := [x]) h1 rfl hc1, fun j g y hj hy => h2 (j + 1) g y (by simpa using hj) (by simpa using hy)⟩
    · subst hc1
      obtain ⟨e1, e2, e3⟩ := Row.tail0 (x := [x]) h1 rfl
      have : F = [] := List.eq_nil_of_length_eq_zero e1
      subst this
      exact ⟨⟨[], e3, fun j g y hj _ => by simp at hj⟩, rfl⟩
end
structure PageAt (w : World) (base P : Nat) (D : List Nat) (iv ov : Value) (In Out : List (List UInt8)) (lost : Nat) : Prop where
  head : Whole w P 100 [iv, ov, .int .i64 lost]
  inr : FRow w base D iv In
  outr : FRow w base D ov Out
  ne : ∀ k, iv.ownBlock = some k → ov.ownBlock ≠ some k
  dlt : ∀ k ∈ D, Ty w k 5 ∧ base ≤ k ∧ k < w.heap.size
  plt : P < base
theorem Ty.left {w w' : World} {k : Nat} {t : TypeId} {S : List Nat} (h : Ty w k t) (hl : Left S w w') (hk : k ∉ S) : Ty w' k t := by
  obtain ⟨c, f, h⟩ := h
  exact ⟨c, f, (hl.block k (Array.getElem?_eq_some_iff.1 h).1 hk).trans h⟩
section
variable {w w' : World} {base P : Nat} {D S : List Nat} {iv ov : Value} {In Out : List (List UInt8)} {lost : Nat}
theorem PageAt.left (h : PageAt w base P D iv ov In Out lost) (hl : Left S w w') (hS : ∀ k ∈ S, k ≠ P ∧ (k < base ∨ (k ∉ D ∧ ¬ Ty w k 39))) : PageAt w' base P D iv ov In Out lost := by
  refine ⟨h.head.left hl (fun hm => (hS _ hm).1 rfl), h.inr.left hl (fun k hk => ?_), h.outr.left hl (fun k hk => ?_), h.ne, fun k hk => ?_, h.plt⟩
  · rcases (hS k hk).2 with g | g
    · exact .inl g
    · exact .inr ⟨g.1, fun e => g.2 (h.inr.ty e).1⟩
  · rcases (hS k hk).2 with g | g
    · exact .inl g
    · exact .inr ⟨g.1, fun e => g.2 (h.outr.ty e).1⟩
  · obtain ⟨a, b, c⟩ := h.dlt k hk
    have hz := hl.size
    refine ⟨a.left hl (fun hm => ?_), b, by omega⟩
    rcases (hS k hm).2 with g | g
    · omega
    · exact g.1 hk
theorem PageAt.left0 (h : PageAt w base P D iv ov In Out lost) (hl : Left [] w w') : PageAt w' base P D iv ov In Out lost := h.left hl (by simp)
/-- What the page's steps write. -/
def PStep (w w' : World) (base P : Nat) : Prop := ∃ S, Left S w w' ∧ ∀ k ∈ S, k = P ∨ (base ≤ k ∧ Ty w k 39)

set_option maxHeartbeats 1000000 in
theorem rRecv_no (h : PageAt w base P D iv ov In Out lost) (ao : Option Addr) (n cap : Nat) (hb : wholeB n = false ∨ In.length = 16) (hin : In.length ≤ 16) (hd : lost ≤ 1000000) :
    Calls Try.prog 59 #[.pointer (some ⟨P, 0, none⟩), .slice ao n cap] w fun e w' => e = .returned (.bool false) ∧ PageAt w' base P D iv ov In Out (lost + 1) ∧ Left [P] w w' := by
  have hW := h.head
  obtain ⟨io, ic, rfl, hic, hicm⟩ := (show ∃ ao cap, iv = .slice ao In.length cap ∧ In.length ≤ cap ∧ cap ≤ maxLen from by obtain ⟨ws, h1, _⟩ := h.inr; exact h1.form)
  have c0 : w.cell? ⟨P, 0, none⟩ = some (.slice io In.length ic) := by rw [hW.cell]; rfl
  have c2 : w.cell? ⟨P, 2, none⟩ = some (.int .i64 lost) := by rw [hW.cell]; rfl
  have f2 := hW.free 2
  have HEND : Hid (∀ v : Value, v = .int .i64 ((lost + 1 : Nat) : Int) → PageAt (w.setCell ⟨P, 2, none⟩ v) base P D (.slice io In.length ic) ov In Out (lost + 1) ∧ Left [P] w (w.setCell ⟨P, 2, none⟩ v)) := Lib.hid (by
    rintro v rfl
    have hl : Left [P] w (w.setCell ⟨P, 2, none⟩ (.int .i64 ((lost + 1 : Nat) : Int))) := (Left.refl _ _).setCell (Or.inl (by simp)) _
    have hp := h.plt
    have hx : ∀ k ∈ [P], k < base := fun k hk => by simp only [List.mem_singleton] at hk; omega
    refine ⟨⟨h.head.put 2 _, h.inr.left hl (fun k hk => .inl (hx k hk)), h.outr.left hl (fun k hk => .inl (hx k hk)), h.ne, fun k hk => ?_, h.plt⟩, hl⟩
    obtain ⟨a, b, c⟩ := h.dlt k hk
    have hz := hl.size
    exact ⟨a.left hl (fun hm => by have := hx k hm; omega), b, by omega⟩)
  clear h hW hicm
  go_enter Try.func59, Try.ntmps59
  cases hw : wholeB n
  · have HWB := Lib.hid hw
    clear hw
    go_wp2_with (go_at_call 88; refine (Whole1_any _ _ _ _).mono ?_; rintro e w' ⟨rfl, rfl⟩; rw [HWB.out])
    go_ret
    obtain ⟨x1, x2⟩ := HEND.out (.int .i64 ((lost : Int) + 1)) (by simp)
    exact ⟨rfl, x1, x2⟩
  · have HWB := Lib.hid hw
    have hlen : In.length = 16 := by rcases hb with e | e; rw [hw] at e; cases e; exact e
    have hlen2 : (16 : Int) ≤ (In.length : Int) := by omega
    clear hw hb hlen
    go_wp2_with (go_at_call 88; refine (Whole1_any _ _ _ _).mono ?_; rintro e w' ⟨rfl, rfl⟩; rw [HWB.out])
    go_ret
    obtain ⟨x1, x2⟩ := HEND.out (.int .i64 ((lost : Int) + 1)) (by simp)
    exact ⟨rfl, x1, x2⟩
end
end Go.Proofs.Ytfffehbipcikoaa
