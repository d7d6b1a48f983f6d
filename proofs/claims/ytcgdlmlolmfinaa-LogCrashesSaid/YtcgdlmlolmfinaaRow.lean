/- Slices of our own that begin inside their block: read, cut at the front, appended onto. Over any program. -/
import Derived.Test.YtcgdlmlolmfinaaSli
import Derived.Deep.AppendSrc
import Derived.Deep.Upon
namespace Go.Proofs.Ytcgdlmlolmfinaa
open Go.RowKit

/-- The slice value v, of n elements of so many cells, is a row of our own in a block of number base at least; it reads as xs. -/
def Row (w : World) (base : Nat) (e : TypeId) (size : Nat) (v : Value) (n : Nat) (xs : List Value) : Prop :=
  xs.length = n * size ∧
  ((v = .slice none 0 0 ∧ n = 0) ∨
   ∃ g off cap cur, v = .slice (some ⟨g, off, none⟩) n cap ∧ base ≤ g ∧ w.heap[g]? = some (.cells cur e (0, 0)) ∧ n ≤ cap ∧ cap ≤ maxLen ∧ off + cap * size ≤ cur.size ∧ ∀ j u, xs[j]? = some u → cur[off + j]? = some u)

section
variable {w w' : World} {base size n : Nat} {e : TypeId} {v : Value} {xs : List Value}
theorem Row.nil_ (w : World) (base : Nat) (e : TypeId) (size : Nat) : Row w base e size (.slice none 0 0) 0 [] := ⟨by simp, .inl ⟨rfl, rfl⟩⟩
theorem Row.form (h : Row w base e size v n xs) : ∃ ao cap, v = .slice ao n cap ∧ n ≤ cap ∧ cap ≤ maxLen := by
  rcases h.2 with ⟨rfl, rfl⟩ | ⟨g, off, cap, cur, rfl, _, _, h1, h2, _⟩
  · exact ⟨none, 0, rfl, by omega, by omega⟩
  · exact ⟨_, cap, rfl, h1, h2⟩
theorem Row.at_ (h : Row w base e size v n xs) (hn : 0 < n) : ∃ g off cap, v = .slice (some ⟨g, off, none⟩) n cap ∧ base ≤ g ∧ g < w.heap.size ∧ n ≤ cap ∧ cap ≤ maxLen ∧ ∀ j u, xs[j]? = some u → w.cell? ⟨g, off + j, none⟩ = some u := by
  rcases h.2 with ⟨_, h0⟩ | ⟨g, off, cap, cur, rfl, hb, hg, h1, h2, _, hc⟩
  · omega
  · refine ⟨g, off, cap, rfl, hb, (Array.getElem?_eq_some_iff.1 hg).1, h1, h2, fun j u hu => ?_⟩
    have := hc j u hu
    simp [World.cell?, hg, this]
theorem Row.left {S : List Nat} (h : Row w base e size v n xs) (hl : Left S w w') (hS : ∀ k ∈ S, v.ownBlock ≠ some k) : Row w' base e size v n xs := by
  refine ⟨h.1, ?_⟩
  rcases h.2 with hn | ⟨g, off, cap, cur, rfl, hb, hg, rest⟩
  · exact .inl hn
  · exact .inr ⟨g, off, cap, cur, rfl, hb, (hl.block g (Array.getElem?_eq_some_iff.1 hg).1 (fun hm => hS g hm rfl)).trans hg, rest⟩
theorem Row.lt (h : Row w base e size v n xs) {k : Nat} (hk : v.ownBlock = some k) : base ≤ k ∧ k < w.heap.size := by
  rcases h.2 with ⟨rfl, _⟩ | ⟨g, off, cap, cur, rfl, hb, hg, rest⟩
  · cases hk
  · simp only [Value.ownBlock] at hk
    injection hk with hk
    subst hk
    exact ⟨hb, (Array.getElem?_eq_some_iff.1 hg).1⟩
theorem Row.of_own (h : w.ownsRow base e size v n xs) : Row w base e size v n xs := by
  refine ⟨h.1, ?_⟩
  rcases h.2 with hn | ⟨g, cap, cur, rfl, hb, hg, h1, h2, h3, h4⟩
  · exact .inl hn
  · refine .inr ⟨g, 0, cap, cur, rfl, hb, hg, h1, h2, by omega, fun j u hu => ?_⟩
    rw [Nat.zero_add, ← Array.getElem?_toList]
    rw [← h4] at hu
    rw [List.getElem?_take] at hu
    split at hu
    · exact hu
    · cases hu
/-- Cut at the front: the first element is gone. -/
theorem Row.tail {x : List Value} {g off cap : Nat} (h : Row w base e size (.slice (some ⟨g, off, none⟩) (n + 1) cap) (n + 1) (x ++ xs)) (hx : x.length = size) (hcap : 1 < cap) : Row w base e size (.slice (some ⟨g, off + size, none⟩) n (cap - 1)) n xs := by
  have hl := h.1
  rw [List.length_append, hx, Nat.add_mul, Nat.one_mul] at hl
  refine ⟨by omega, ?_⟩
  rcases h.2 with ⟨hh, _⟩ | ⟨g', off', cap', cur, hv, hb, hg, h1, h2, h3, hc⟩
  · cases hh
  · injection hv with hv1 _ hv3
    injection hv1 with hv1
    injection hv1 with e1 e2
    subst e1 e2 hv3
    obtain ⟨c, rfl⟩ : ∃ c, cap = c + 1 := ⟨cap - 1, by omega⟩
    rw [Nat.add_mul, Nat.one_mul] at h3
    refine .inr ⟨g, off + size, c, cur, rfl, hb, hg, by omega, by omega, by omega, fun j u hu => ?_⟩
    have := hc (size + j) u (by rw [List.getElem?_append_right (by omega), hx, Nat.add_sub_cancel_left]; exact hu)
    rwa [Nat.add_assoc]
/-- .. and it was the last room. -/
theorem Row.tail0 {x : List Value} {g off : Nat} (h : Row w base e size (.slice (some ⟨g, off, none⟩) (n + 1) 1) (n + 1) (x ++ xs)) (hx : x.length = size) : n = 0 ∧ xs = [] ∧ Row w base e size (.slice (some ⟨g, off, none⟩) 0 0) 0 [] := by
  have hl := h.1
  rw [List.length_append, hx, Nat.add_mul, Nat.one_mul] at hl
  rcases h.2 with ⟨hh, _⟩ | ⟨g', off', cap', cur, hv, hb, hg, h1, h2, h3, hc⟩
  · cases hh
  · injection hv with hv1 _ hv3
    injection hv1 with hv1
    injection hv1 with e1 e2
    subst e1 e2 hv3
    have h0 : n = 0 := by omega
    subst h0
    refine ⟨rfl, List.eq_nil_of_length_eq_zero (by omega), by simp, .inr ⟨g, off, 0, cur, rfl, hb, hg, by omega, by omega, by omega, fun j u hu => by simp at hu⟩⟩
end

section
variable {P : Program} (w : World)
theorem setCells_heap (w : World) (b off : Nat) (news : List Value) {cur : Array Value} {e : TypeId} (hg : w.heap[b]? = some (.cells cur e (0, 0))) (hf : off + news.length ≤ cur.size) :
    ∃ cur', (w.setCells b off news).heap[b]? = some (.cells cur' e (0, 0)) ∧ cur'.size = cur.size ∧ (∀ j u, news[j]? = some u → cur'[off + j]? = some u) ∧ (∀ j, j < off → cur'[j]? = cur[j]?) ∧ Left [b] w (w.setCells b off news) := by
  induction news generalizing w off cur with
  | nil => exact ⟨cur, hg, rfl, fun j u hu => by simp at hu, fun _ _ => rfl, Left.refl _ _⟩
  | cons x r ih =>
    have hw : (w.setCell ⟨b, off, none⟩ x).heap[b]? = some (.cells (cur.setIfInBounds off x) e (0, 0)) := by
      simp [World.setCell, Array.getElem?_modify, hg]
    obtain ⟨cur', h1, h2, h3, h4, h5⟩ := ih (w.setCell ⟨b, off, none⟩ x) (off + 1) hw (by simp at hf ⊢; omega)
    refine ⟨cur', h1, by simpa using h2, fun j u hu => ?_, fun j hj => ?_, ?_⟩
    · cases j with
      | zero =>
        simp at hu
        subst hu
        rw [Nat.add_zero, h4 off (by omega), Array.getElem?_setIfInBounds_self_of_lt (by simp at hf; omega)]
      | succ j =>
        have := h3 j u (by simpa using hu)
        rwa [show off + (j + 1) = off + 1 + j by omega]
    · rw [h4 j (by omega), Array.getElem?_setIfInBounds_ne (by omega)]
    · exact (((Left.refl [b] w).setCell (p := ⟨b, off, none⟩) (Or.inl (by simp)) x)).trans (T := [b]) h5 (by simp)

theorem run_row_app (base : Nat) (t ty e : TypeId) (z : Value) (size bytes : Nat) (ht : P.underlying t = some (.slice e)) (hi : (P.info? e).map (fun i => (i.zero, i.size, i.bytes)) = some (some z, size, bytes))
    (hzs : z.cells.size = size) (hsz : 0 < size) (v : Value) (n : Nat) (xs : List Value) (hrow : Row w base e size v n xs)
    (ad : Addr) (m c : Nat) (news : List Value) (hl : news.length = m * size) (hnews : ∀ j u, news[j]? = some u → w.cell? (ad.add j) = some u) (h1 : ∀ u ∈ news, u.oneCell' = true)
    (h63 : n + m ≤ maxLen) (hbytes : (n + m) * bytes ≤ 140737488355328) (hbase : base ≤ w.heap.size) :
    ∃ v' w', (Builtin.append_ #[t, t] ty #[v, .slice (some ad) m c]).run P w = .ok v' w' ∧ Row w' base e size v' (n + m) (xs ++ news) ∧ w.grownBy w' v.ownBlock ∧
      (v'.ownBlock = v.ownBlock ∨ v'.ownBlock = some w.heap.size) := by
  obtain ⟨i, hi', hz, hs, hby⟩ := info_parts hi
  clear hi
  rcases hrow.2 with ⟨rfl, rfl⟩ | ⟨g, off, cap, cur, rfl, hbg, hg, hnc, hcm, hcs, hcc⟩
  · have hx : xs = [] := List.eq_nil_of_length_eq_zero (by simpa using hrow.1)
    subst hx
    obtain ⟨v', w', hr, h2, h3, _, h5⟩ := run_append_own_at (P := P) w base t ty e i z size bytes ht hi' hz hs hby hzs hsz (.slice none 0 0) 0 [] (World.ownsRow_nil w base e size) ad m c news hl hnews h1 h63 hbytes hbase
    exact ⟨v', w', hr, Row.of_own h2, h3, h5⟩
  · subst hs
    subst hby
    have hlen : (xs ++ news).length = (n + m) * i.size := by rw [List.length_append, hrow.1, hl, Nat.add_mul]
    have hsrc : Src P i.size t (.slice (some ad) m c) m news w := Src.ofSlice (P := P) w ht ad m c news hl hnews h1
    by_cases hroom : n + m ≤ cap
    · have hfit : off + n * i.size + news.length ≤ cur.size := by
        have := Nat.mul_le_mul_right i.size hroom
        rw [Nat.add_mul] at this
        omega
      have hr := run_append_room_src (P := P) w t t ty e i ht hi' g off n cap (.slice (some ad) m c) m news hsrc hroom (fun j hj => by
        have : off + n * i.size + j < cur.size := by omega
        simp [World.cell?, hg, this]) (fun j hj => by simp [World.frozen?, hg])
      obtain ⟨cur', k1, k2, k3, k4, k5⟩ := setCells_heap w g (off + n * i.size) news hg hfit
      refine ⟨_, _, hr, ⟨hlen, .inr ⟨g, off, cap, cur', rfl, hbg, k1, hroom, hcm, by omega, fun j u hu => ?_⟩⟩, ⟨k5.os, k5.tape, k5.output, k5.size, fun k hk hne => k5.block k hk (by simpa [Value.ownBlock, eq_comm] using hne)⟩, .inl rfl⟩
      by_cases hj : j < xs.length
      · rw [List.getElem?_append_left hj] at hu
        rw [k4 _ (by have := hrow.1; omega)]
        exact hcc j u hu
      · rw [List.getElem?_append_right (by omega)] at hu
        have := k3 _ u hu
        rwa [show off + n * i.size + (j - xs.length) = off + j by have := hrow.1; omega] at this
    · have holds : ∀ j u, xs[j]? = some u → w.drew.cell? ((⟨g, off, none⟩ : Addr).add j) = some u := fun j u hu => by
        rw [add_flat]
        have := hcc j u hu
        show w.cell? _ = _
        simp [World.cell?, hg, this]
      have hold := run_firstCells_some (P := P) w.drew i.size n ⟨g, off, none⟩ n cap xs hrow.1 holds
      have hr := run_append_grow_src (P := P) w t t ty e i z ht hi' hz (some ⟨g, off, none⟩) n cap xs hold (.slice (some ad) m c) m news hsrc (by omega) (by unfold maxLen at h63; omega) (growslice_fits (by omega) hbytes)
      have hge := grownCap_ge w (n + m) cap e
      have hcm' : grownCap w (n + m) cap e ≤ maxLen := grownCap_le_maxLen w (n + m) cap e h63
      refine ⟨_, _, hr, ⟨hlen, .inr ⟨w.heap.size, 0, _, _, rfl, hbase, heap_alloc_new w.drew _, hge, hcm', ?_, fun j u hu => ?_⟩⟩, ⟨rfl, rfl, rfl, by simp, fun k hk _ => heap_alloc_old w.drew _ hk⟩, .inr rfl⟩
      · simp only [Array.size_append, List.size_toArray, size_zeroCells, hzs, hlen, ← Nat.add_mul]
        rw [Nat.zero_add]
        exact Nat.mul_le_mul_right _ (by omega)
      · rw [Nat.zero_add, Array.getElem?_append_left (by simpa using (List.getElem?_eq_some_iff.1 hu).1)]
        simpa using hu

theorem wpList_row {ops : Array Oper} {rest : List Oper} {o : Oper} {a : Act} {Q : Exit → Act → World → Prop} (hgd : o.guard = none) (s x : Operand) (t : TypeId)
    (ho : o.op = .call { callee := .builtin .append, args := #[s, x], argTypes := #[t, t] })
    (base : Nat) (e : TypeId) (z : Value) (size bytes : Nat) (ht : P.underlying t = some (.slice e)) (hi : (P.info? e).map (fun i => (i.zero, i.size, i.bytes)) = some (some z, size, bytes))
    (hzs : z.cells.size = size) (hsz : 0 < size)
    (v : Value) (n : Nat) (xs : List Value) (hs : a.eval s = v) (hown : Row w base e size v n xs)
    (ad : Addr) (m c : Nat) (news : List Value) (hx : a.eval x = .slice (some ad) m c) (hl : news.length = m * size) (hnews : ∀ j u, news[j]? = some u → w.cell? (ad.add j) = some u) (h1 : ∀ u ∈ news, u.oneCell' = true)
    (h63 : n + m ≤ maxLen) (hbytes : (n + m) * bytes ≤ 140737488355328) (hbase : base ≤ w.heap.size)
    (h : ∀ v' w', Row w' base e size v' (n + m) (xs ++ news) → w.grownBy w' v.ownBlock → (v'.ownBlock = v.ownBlock ∨ v'.ownBlock = some w.heap.size) → wpList P ops Q rest (a.put o.dst v') w') : wpList P ops Q (o :: rest) a w := by
  refine wpList_plain hgd fun K hK => ?_
  obtain ⟨v', w', hrun, h2, h3, h4⟩ := run_row_app (P := P) w base t o.type e z size bytes ht hi hzs hsz v n xs hown ad m c news hl hnews h1 h63 hbytes hbase
  unfold Oper.wp execOp
  simp only [ho, resolve, invoke, builtin, Sem.run_bind, Sem.run_pure, Result.andThen_ok, List.map_toArray, List.map_cons, List.map_nil, hs, hx, hrun]
  exact hK _ _ (h v' w' h2 h3 h4)
end
end Go.Proofs.Ytcgdlmlolmfinaa
