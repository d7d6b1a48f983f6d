/- Appending any row that can be read onto one of our own that may begin inside its block. Over any program. -/
import Derived.Test.YtndidkaoigjbiaaTy
namespace Go.Proofs.Ytndidkaoigjbiaa
section
variable {P : Program} {w : World} {base n size : Nat} {e : TypeId} {v : Value} {xs : List Value}
theorem run_row_rd (base : Nat) (t ty e : TypeId) (z : Value) (size bytes : Nat) (ht : P.underlying t = some (.slice e)) (hi : (P.info? e).map (fun i => (i.zero, i.size, i.bytes)) = some (some z, size, bytes))
    (hzs : z.cells.size = size) (hsz : 0 < size) (v : Value) (n : Nat) (xs : List Value) (hrow : Row w base e size v n xs)
    (Bd : Nat) (x : Value) (m : Nat) (news : List Value) (hr : Rd w Bd size x m news) (h1 : ∀ u ∈ news, u.oneCell' = true)
    (h63 : n + m ≤ maxLen) (hbytes : (n + m) * bytes ≤ 140737488355328) (hbase : base ≤ w.heap.size) :
    ∃ v' w', (Builtin.append_ #[t, t] ty #[v, x]).run P w = .ok v' w' ∧ Row w' base e size v' (n + m) (xs ++ news) ∧ w.grownBy w' v.ownBlock ∧
      (v'.ownBlock = v.ownBlock ∨ v'.ownBlock = some w.heap.size) := by
  obtain ⟨hl, ao, cap, rfl, h3, h4, h5, h6⟩ := hr
  rcases ao with _ | ad
  · have hc := h5 rfl
    subst hc
    have hm : m = 0 := by omega
    subst hm
    have hn : news = [] := List.eq_nil_of_length_eq_zero (by omega)
    subst hn
    obtain ⟨i, hi', hz, hs, hby⟩ := info_parts hi
    have hrow' := hrow
    rcases hrow'.2 with ⟨rfl, rfl⟩ | ⟨g, off, cap, cur, rfl, hbg, hg, hnc, hcm, hcs, hcc⟩
    · have hx : xs = [] := List.eq_nil_of_length_eq_zero (by simpa using hrow.1)
      subst hx
      exact ⟨_, w, run_app_none w base t ty e i size ht hi' (.slice none 0 0) 0 [] (World.ownsRow_nil w base e size), by simpa using hrow, World.grownBy.refl w _, .inl rfl⟩
    · have hr := run_append_room_src (P := P) (w := w) t t ty e i ht hi' g off n cap (.slice none 0 0) 0 [] (Src.ofNil (P := P) w ht 0) (by omega) (fun j hj => by simp at hj) (fun j hj => by simp at hj)
      exact ⟨_, w, hr, by simpa using hrow, World.grownBy.refl w _, .inl rfl⟩
  · refine run_row_app (P := P) w base t ty e z size bytes ht hi hzs hsz v n xs hrow ad m cap news hl (fun j u hu => ?_) h1 h63 hbytes hbase
    rcases Nat.eq_zero_or_pos m with h0 | h0
    · subst h0
      have hn : news = [] := List.eq_nil_of_length_eq_zero (by omega)
      subst hn
      simp at hu
    · obtain ⟨b, o, e', _, hc⟩ := h6 h0
      injection e' with e'
      subst e'
      rw [add_flat]
      exact hc j u hu
theorem wpList_rowrd {ops : Array Oper} {rest : List Oper} {o : Oper} {a : Act} {Q : Exit → Act → World → Prop} (hgd : o.guard = none) (s x : Operand) (t : TypeId)
    (ho : o.op = .call { callee := .builtin .append, args := #[s, x], argTypes := #[t, t] })
    (base : Nat) (e : TypeId) (z : Value) (size bytes : Nat) (ht : P.underlying t = some (.slice e)) (hi : (P.info? e).map (fun i => (i.zero, i.size, i.bytes)) = some (some z, size, bytes))
    (hzs : z.cells.size = size) (hsz : 0 < size)
    (v : Value) (n : Nat) (xs : List Value) (hs : a.eval s = v) (hown : Row w base e size v n xs)
    (Bd : Nat) (xv : Value) (m : Nat) (news : List Value) (hx : a.eval x = xv) (hr : Rd w Bd size xv m news) (h1 : ∀ u ∈ news, u.oneCell' = true)
    (h63 : n + m ≤ maxLen) (hbytes : (n + m) * bytes ≤ 140737488355328) (hbase : base ≤ w.heap.size)
    (h : ∀ v' w', Row w' base e size v' (n + m) (xs ++ news) → w.grownBy w' v.ownBlock → (v'.ownBlock = v.ownBlock ∨ v'.ownBlock = some w.heap.size) → wpList P ops Q rest (a.put o.dst v') w') : wpList P ops Q (o :: rest) a w := by
  refine wpList_plain hgd fun K hK => ?_
  obtain ⟨v', w', hrun, h2, h3, h4⟩ := run_row_rd (P := P) (w := w) base t o.type e z size bytes ht hi hzs hsz v n xs hown Bd xv m news hr h1 h63 hbytes hbase
  unfold Oper.wp execOp
  simp only [ho, resolve, invoke, builtin, Sem.run_bind, Sem.run_pure, Result.andThen_ok, List.map_toArray, List.map_cons, List.map_nil, hs, hx, hrun]
  exact hK _ _ (h v' w' h2 h3 h4)
end
end Go.Proofs.Ytndidkaoigjbiaa
