/- Slices that read as lists of cells; append onto a slice of the call's own from whatever is read. Over any program. -/
import Derived.Test.YtcgdlmlolmfinaaKit
import Derived.Maps.AppendAt
import Derived.OwnWalk
import Derived.Deep.OwnRows
namespace Go.Proofs.Ytcgdlmlolmfinaa
open Go.RowKit

theorem add_flat (b o k : Nat) : (⟨b, o, none⟩ : Addr).add k = ⟨b, o + k, none⟩ := by
  unfold Addr.add
  split
  · simp_all
  · rfl

/-- The slice value v, of n elements of so many cells each, reads as the cells xs, in a block below Bd (nil and empty let in). -/
def Rd (w : World) (Bd size : Nat) (v : Value) (n : Nat) (xs : List Value) : Prop :=
  xs.length = n * size ∧ ∃ ao cap, v = .slice ao n cap ∧ n ≤ cap ∧ cap ≤ maxLen ∧ (ao = none → cap = 0) ∧
    (0 < n → ∃ b o, ao = some ⟨b, o, none⟩ ∧ b < Bd ∧ ∀ j u, xs[j]? = some u → w.cell? ⟨b, o + j, none⟩ = some u)

section
variable {w w' : World} {Bd B' size n : Nat} {v : Value} {xs : List Value}
theorem Rd.keep (h : Rd w Bd size v n xs) (hk : ∀ p : Addr, p.block < Bd → w'.cell? p = w.cell? p) : Rd w' Bd size v n xs := by
  obtain ⟨h1, ao, cap, h2, h3, h4, h5, h6⟩ := h
  exact ⟨h1, ao, cap, h2, h3, h4, h5, fun hn => by
    obtain ⟨b, o, e, hb, hc⟩ := h6 hn
    exact ⟨b, o, e, hb, fun j u hu => (hk _ hb).trans (hc j u hu)⟩⟩
theorem Rd.more (h : Rd w Bd size v n xs) (hB : Bd ≤ B') : Rd w B' size v n xs := by
  obtain ⟨h1, ao, cap, h2, h3, h4, h5, h6⟩ := h
  exact ⟨h1, ao, cap, h2, h3, h4, h5, fun hn => by
    obtain ⟨b, o, e, hb, hc⟩ := h6 hn
    exact ⟨b, o, e, by omega, hc⟩⟩
theorem Rd.below (h : Rd w Bd size v n xs) (hb : Below Bd w w') : Rd w' Bd size v n xs := h.keep fun _ hp => hb.cell hp
theorem Rd.belowH (h : Rd w Bd size v n xs) (hb : Below w.heap.size w w') (hB : Bd ≤ w.heap.size) : Rd w' Bd size v n xs := h.below (hb.mono hB)
theorem Rd.nil_ (w : World) (Bd size : Nat) : Rd w Bd size (.slice none 0 0) 0 [] := ⟨by simp, none, 0, rfl, by omega, by unfold maxLen; omega, fun _ => rfl, fun h => absurd h (by omega)⟩
theorem Rd.form (h : Rd w Bd size v n xs) : ∃ ao cap, v = .slice ao n cap ∧ n ≤ cap ∧ cap ≤ maxLen := by
  obtain ⟨h1, ao, cap, h2, h3, h4, h5, h6⟩ := h
  exact ⟨ao, cap, h2, h3, h4⟩
theorem Rd.of_own {base : Nat} {e : TypeId} (h : w.ownsRow base e size v n xs) : Rd w w.heap.size size v n xs := by
  refine ⟨h.1, ?_⟩
  rcases h.2 with ⟨rfl, rfl⟩ | ⟨g, cap, cur, rfl, _, hg, hn, hc, hs, ht⟩
  · exact ⟨none, 0, rfl, by omega, by unfold maxLen; omega, fun _ => rfl, fun h => absurd h (by omega)⟩
  · refine ⟨_, cap, rfl, hn, hc, (fun e => by cases e), fun _ => ⟨g, 0, rfl, ?_, fun j u hu => ?_⟩⟩
    · exact (h.lt g rfl).2
    · have := h.cells (g := g) rfl j u hu
      rwa [add_flat] at this
theorem Rd.of_whole {g : Nat} {t : TypeId} (h : Whole w g t xs) (hn : xs.length ≤ maxLen) : Rd w w.heap.size 1 (.slice (some ⟨g, 0, none⟩) xs.length xs.length) xs.length xs :=
  ⟨by omega, _, _, rfl, Nat.le_refl _, hn, (fun e => by cases e), fun _ => ⟨g, 0, rfl, h.lt, fun j u hu => by rw [Nat.zero_add, h.cell]; exact hu⟩⟩
/-- A cut of a block that is known whole. -/
theorem Rd.of_cut {g p : Nat} {t : TypeId} {ys : List Value} (h : Whole w g t xs) (hx : xs.length ≤ maxLen) (hn : p + n ≤ xs.length) (hys : ys = (xs.drop p).take n) : Rd w w.heap.size 1 (.slice (some ⟨g, p, none⟩) n (xs.length - p)) n ys := by
  subst hys
  refine ⟨by simp; omega, _, _, rfl, by omega, by omega, (fun e => by cases e), fun _ => ⟨g, p, rfl, h.lt, fun j u hu => ?_⟩⟩
  rw [h.cell]
  rw [List.getElem?_take] at hu
  split at hu
  · rwa [List.getElem?_drop] at hu
  · cases hu
theorem Rd.of_end {g c : Nat} {ys : List Value} (hys : ys = []) (hc : c ≤ maxLen) : Rd w w.heap.size 1 (.slice (some ⟨g, 0, none⟩) 0 c) 0 ys := by
  subst hys
  exact ⟨by simp, _, _, rfl, by omega, hc, (fun e => by cases e), fun h => absurd h (by omega)⟩
/-- One cell of it. -/
theorem Rd.at_ {ao : Option Addr} {cap k : Nat} (h : Rd w Bd size (.slice ao n cap) n xs) (hk : k < n * size) : ∃ b o u, ao = some ⟨b, o, none⟩ ∧ b < Bd ∧ xs[k]? = some u ∧ w.cell? ⟨b, o + k, none⟩ = some u := by
  obtain ⟨h1, ao', cap', h2, h3, h4, h5, h6⟩ := h
  injection h2 with e1 e2 e3
  subst e1
  obtain ⟨b, o, e, hb, hc⟩ := h6 (by rcases Nat.eq_zero_or_pos n with h0 | h0; subst h0; omega; exact h0)
  have hl : k < xs.length := by omega
  exact ⟨b, o, xs[k], e, hb, List.getElem?_eq_getElem hl, hc k _ (List.getElem?_eq_getElem hl)⟩
end

section
variable {P : Program} (w : World)
theorem run_app_none (base : Nat) (t ty e : TypeId) (i : TypeInfo) (size : Nat) (ht : P.underlying t = some (.slice e)) (hi : P.info? e = some i)
    (v : Value) (n : Nat) (xs : List Value) (hown : w.ownsRow base e size v n xs) : (Builtin.append_ #[t, t] ty #[v, .slice none 0 0]).run P w = .ok v w :=
  run_append_owned_none (P := P) (w := w) base t ty e i size ht hi v n xs hown

theorem run_app (base : Nat) (t ty e : TypeId) (z : Value) (size bytes : Nat) (ht : P.underlying t = some (.slice e)) (hi : (P.info? e).map (fun i => (i.zero, i.size, i.bytes)) = some (some z, size, bytes))
    (hzs : z.cells.size = size) (hsz : 0 < size)
    (v : Value) (n : Nat) (xs : List Value) (hown : w.ownsRow base e size v n xs)
    (Bd : Nat) (x : Value) (m : Nat) (news : List Value) (hr : Rd w Bd size x m news) (h1 : ∀ u ∈ news, u.oneCell' = true)
    (h63 : n + m ≤ maxLen) (hbytes : (n + m) * bytes ≤ 140737488355328) (hbase : base ≤ w.heap.size) :
    ∃ v' w', (Builtin.append_ #[t, t] ty #[v, x]).run P w = .ok v' w' ∧ w'.ownsRow base e size v' (n + m) (xs ++ news) ∧ w.grownBy w' v.ownBlock ∧
      (v'.ownBlock = v.ownBlock ∨ v'.ownBlock = some w.heap.size) := by
  obtain ⟨i, hi, hz, hs, hby⟩ := info_parts hi
  obtain ⟨hl, ao, cap, rfl, h3, h4, h5, h6⟩ := hr
  rcases ao with _ | ad
  · have hc := h5 rfl
    subst hc
    have hm : m = 0 := by omega
    subst hm
    have hn : news = [] := List.eq_nil_of_length_eq_zero (by omega)
    subst hn
    exact ⟨v, w, run_app_none w base t ty e i size ht hi v n xs hown, by simpa using hown, World.grownBy.refl w _, .inl rfl⟩
  · have hcells : ∀ j u, news[j]? = some u → w.cell? (ad.add j) = some u := by
      intro j u hu
      rcases Nat.eq_zero_or_pos m with h0 | h0
      · subst h0
        have hn : news = [] := List.eq_nil_of_length_eq_zero (by omega)
        subst hn
        simp at hu
      · obtain ⟨b, o, e', _, hc⟩ := h6 h0
        injection e' with e'
        subst e'
        rw [add_flat]
        exact hc j u hu
    obtain ⟨v', w', hrun, h2, h3', _, h5'⟩ := run_append_own_at (P := P) w base t ty e i z size bytes ht hi hz hs hby hzs hsz v n xs hown ad m cap news hl hcells h1 h63 hbytes hbase
    exact ⟨v', w', hrun, h2, h3', h5'⟩

theorem wpList_app {ops : Array Oper} {rest : List Oper} {o : Oper} {a : Act} {Q : Exit → Act → World → Prop} (hgd : o.guard = none) (s x : Operand) (t : TypeId)
    (ho : o.op = .call { callee := .builtin .append, args := #[s, x], argTypes := #[t, t] })
    (base : Nat) (e : TypeId) (z : Value) (size bytes : Nat) (ht : P.underlying t = some (.slice e)) (hi : (P.info? e).map (fun i => (i.zero, i.size, i.bytes)) = some (some z, size, bytes))
    (hzs : z.cells.size = size) (hsz : 0 < size)
    (v : Value) (n : Nat) (xs : List Value) (hs : a.eval s = v) (hown : w.ownsRow base e size v n xs)
    (Bd : Nat) (xv : Value) (m : Nat) (news : List Value) (hx : a.eval x = xv) (hr : Rd w Bd size xv m news) (h1 : ∀ u ∈ news, u.oneCell' = true)
    (h63 : n + m ≤ maxLen) (hbytes : (n + m) * bytes ≤ 140737488355328) (hbase : base ≤ w.heap.size)
    (h : ∀ v' w', w'.ownsRow base e size v' (n + m) (xs ++ news) → w.grownBy w' v.ownBlock → (v'.ownBlock = v.ownBlock ∨ v'.ownBlock = some w.heap.size) → wpList P ops Q rest (a.put o.dst v') w') : wpList P ops Q (o :: rest) a w := by
  refine wpList_plain hgd fun K hK => ?_
  obtain ⟨v', w', hrun, h2, h3, h4⟩ := run_app (P := P) w base t o.type e z size bytes ht hi hzs hsz v n xs hown Bd xv m news hr h1 h63 hbytes hbase
  unfold Oper.wp execOp
  simp only [ho, resolve, invoke, builtin, Sem.run_bind, Sem.run_pure, Result.andThen_ok, List.map_toArray, List.map_cons, List.map_nil, hs, hx, hrun]
  exact hK _ _ (h v' w' h2 h3 h4)
end

/-- The builtin copy into a block that is known whole. -/
theorem wpList_copy {P : Program} {w : World} {ops : Array Oper} {rest : List Oper} {o : Oper} {a : Act} {Q : Exit → Act → World → Prop} (hgd : o.guard = none) (d s : Operand) (dT sT : TypeId)
    (ho : o.op = .call { callee := .builtin .copy, args := #[d, s], argTypes := #[dT, sT] }) (elem : TypeId) (hu : P.underlying dT = some (.slice elem)) (hsz : (P.info? elem).map (·.size) = some 1)
    (dp : Option Addr) (dLen dCap sLen : Nat) (sv : Value) (hd : a.eval d = .slice dp dLen dCap) (hs : a.eval s = sv)
    (g off : Nat) (cur : List Value) (t : TypeId) (hg : Whole w g t cur) (Bd : Nat) (cs : List Value) (hr : Rd w Bd 1 sv sLen cs) (hn : sLen ≤ dLen)
    (hpos : 0 < sLen → dp = some ⟨g, off, none⟩) (hfit : off + sLen ≤ cur.length) (h1 : ∀ v ∈ cs, v.oneCell' = true)
    (h : ∀ w', Whole w' g t (cur.take off ++ (cs ++ cur.drop (off + sLen))) → Left [g] w w' → wpList P ops Q rest (a.put o.dst (goInt sLen)) w') :
    wpList P ops Q (o :: rest) a w := by
  obtain ⟨hl, ao, cap, rfl, h3, h4, h5, h6⟩ := hr
  have hlen : cs.length = sLen := by omega
  by_cases h0 : sLen = 0
  · subst h0
    obtain rfl : cs = [] := List.eq_nil_of_length_eq_zero (by omega)
    refine wpList_copy_nothing hgd d s dT sT ho elem hu hsz dp ao dLen dCap 0 cap hd hs (by simp) ?_
    exact h w (by simpa using hg) (Left.refl _ _)
  · obtain ⟨b, oo, rfl, _, hc⟩ := h6 (by omega)
    obtain rfl := hpos (by omega)
    refine wpList_copy_own hgd d s dT sT ho elem hu hsz g off dLen dCap ⟨b, oo, none⟩ sLen cap hd hs cur.toArray t hg cs ?_ ?_ (by simpa [hlen] using hfit) h1 ?_
    · rw [hlen]; exact (Nat.min_eq_left hn).symm
    · intro j v hv
      rw [add_flat]
      exact hc j v hv
    · rw [hlen]
      refine h _ ?_ ⟨rfl, rfl, rfl, by simp [World.setRow], fun k hk hne => setRow_other w g k _ (by simpa using hne)⟩
      exact setRow_heap w g _ _ t _ hg

theorem u8s_one (B : List UInt8) : ∀ u ∈ u8s B, u.oneCell' = true := by
  intro u hu
  obtain ⟨b, _, rfl⟩ := List.mem_map.1 hu
  rfl
theorem left_grown {S : List Nat} {w w' w'' : World} {row : Option Nat} (h : Left S w w') (hg : w'.grownBy w'' row) (hr : ∀ k, row = some k → k ∈ S ∨ w.heap.size ≤ k) : Left S w w'' := by
  cases row with
  | none => exact h.trans (T := []) ⟨hg.os, hg.tape, hg.output, hg.size, fun k hk _ => hg.block k hk (by simp)⟩ (by simp)
  | some r => exact h.trans (T := [r]) ⟨hg.os, hg.tape, hg.output, hg.size, fun k hk hn => hg.block k hk (by simpa using hn)⟩ (by simpa using hr r rfl)
theorem own_left {w w' : World} {base : Nat} {e : TypeId} {size n : Nat} {v : Value} {xs : List Value} {S : List Nat} (h : w.ownsRow base e size v n xs) (hl : Left S w w') (hS : ∀ k ∈ S, k < base) : w'.ownsRow base e size v n xs := by
  refine ⟨h.1, ?_⟩
  rcases h.2 with hn | ⟨g, cap, cur, rfl, hb, hgg, rest⟩
  · exact .inl hn
  · exact .inr ⟨g, cap, cur, rfl, hb, (hl.block g (h.lt g rfl).2 (fun hm => by have := hS g hm; omega)).trans hgg, rest⟩
theorem own_below {w w' : World} {base : Nat} {e : TypeId} {size n : Nat} {v : Value} {xs : List Value} (h : w.ownsRow base e size v n xs) (hb : Below w.heap.size w w') : w'.ownsRow base e size v n xs :=
  own_left h (Left.of_below hb []) (by simp)
theorem own_base {w : World} {base base' : Nat} {e : TypeId} {size n : Nat} {v : Value} {xs : List Value} (h : w.ownsRow base e size v n xs) (hb : base' ≤ base) : w.ownsRow base' e size v n xs := by
  refine ⟨h.1, ?_⟩
  rcases h.2 with hn | ⟨g, cap, cur, hv, hg, rest⟩
  · exact .inl hn
  · exact .inr ⟨g, cap, cur, hv, by omega, rest⟩
end Go.Proofs.Ytcgdlmlolmfinaa
