/- Builtins inside a fence: copy into a block that is known whole; append of a row that may be read, of a string. Over any program. -/
import Derived.Test.YtcgdlmlolmfinaaSli
import Derived.OwnWalkIn
import Derived.Lib.AppendStr
namespace Go.Proofs.Ytcgdlmlolmfinaa
open Go.RowKit
section
variable {F : Fence} {n' : Nat} {P : Program} {w : World} {ops : Array Oper} {rest : List Oper} {o : Oper} {a : Act} {Q : Exit → Act → World → Prop}
theorem run_copyW (dT sT ty elem : TypeId) (hu : P.underlying dT = some (.slice elem)) (hsz : (P.info? elem).map (·.size) = some 1)
    (dp : Option Addr) (dLen dCap sLen : Nat) (sv : Value)
    (g off : Nat) (cur : List Value) (t : TypeId) (hg : Whole w g t cur) (Bd : Nat) (cs : List Value) (hr : Rd w Bd 1 sv sLen cs) (hn : sLen ≤ dLen)
    (hpos : 0 < sLen → dp = some ⟨g, off, none⟩) (hfit : off + sLen ≤ cur.length) (h1 : ∀ v ∈ cs, v.oneCell' = true) :
    ∃ w', (Builtin.copy_ #[dT, sT] ty #[.slice dp dLen dCap, sv]).run P w = .ok (goInt sLen) w' ∧ Whole w' g t (cur.take off ++ (cs ++ cur.drop (off + sLen))) ∧ Left [g] w w' := by
  obtain ⟨hl, ao, cap, rfl, h3, h4, h5, h6⟩ := hr
  have hlen : cs.length = sLen := by omega
  by_cases h0 : sLen = 0
  · subst h0
    obtain rfl : cs = [] := List.eq_nil_of_length_eq_zero (by omega)
    exact ⟨w, run_copy_none (P := P) w dT sT ty elem dp ao dLen dCap 0 cap hu hsz (by simp), by simpa using hg, Left.refl _ _⟩
  · obtain ⟨b, oo, rfl, _, hc⟩ := h6 (by omega)
    obtain rfl := hpos (by omega)
    have hrun := run_copy_row (P := P) w dT sT ty elem g off dLen dCap ⟨b, oo, none⟩ sLen cap cur.toArray t cs hu hsz hg (by rw [hlen]; exact (Nat.min_eq_left hn).symm) (fun j v hv => by
      rw [add_flat]
      exact hc j v hv) (by simpa [hlen] using hfit) h1
    rw [hlen, List.append_assoc] at hrun
    exact ⟨_, hrun, setRow_heap w g _ _ t _ hg, rfl, rfl, rfl, by simp [World.setRow], fun k hk hne => setRow_other w g k _ (by simpa using hne)⟩
theorem wpListIn_copyW (hgd : o.guard = none) (d s : Operand) (dT sT : TypeId)
    (ho : o.op = .call { callee := .builtin .copy, args := #[d, s], argTypes := #[dT, sT] }) (elem : TypeId) (hu : P.underlying dT = some (.slice elem)) (hsz : (P.info? elem).map (·.size) = some 1)
    (dp : Option Addr) (dLen dCap sLen : Nat) (sv : Value) (hd : a.eval d = .slice dp dLen dCap) (hs : a.eval s = sv)
    (g off : Nat) (cur : List Value) (t : TypeId) (hg : Whole w g t cur) (Bd : Nat) (cs : List Value) (hr : Rd w Bd 1 sv sLen cs) (hn : sLen ≤ dLen)
    (hpos : 0 < sLen → dp = some ⟨g, off, none⟩) (hfit : off + sLen ≤ cur.length) (h1 : ∀ v ∈ cs, v.oneCell' = true)
    (h : ∀ w', Whole w' g t (cur.take off ++ (cs ++ cur.drop (off + sLen))) → Left [g] w w' → wpListIn F n' P ops Q rest (a.put o.dst (goInt sLen)) w') : wpListIn F n' P ops Q (o :: rest) a w := by
  refine wpListIn_plain hgd fun K hK => ?_
  obtain ⟨w', hrun, h2, h3⟩ := run_copyW (P := P) dT sT o.type elem hu hsz dp dLen dCap sLen sv g off cur t hg Bd cs hr hn hpos hfit h1
  unfold Oper.wpIn
  refine ⟨?_, ?_⟩
  · simp [Oper.about, ho, resolve, Target.leads, Sem.run_pure]
  · rw [Oper.semAt_plain F _ _ (by rw [ho]; intro c hc'; cases hc')]
    simp [execOp, ho, resolve, invoke, builtin, hd, hs, hrun, Result.andThen]
    exact hK _ _ (h w' h2 h3)
theorem wpListIn_appW (hgd : o.guard = none) (s x : Operand) (t : TypeId)
    (ho : o.op = .call { callee := .builtin .append, args := #[s, x], argTypes := #[t, t] })
    (base : Nat) (e : TypeId) (z : Value) (size bytes : Nat) (ht : P.underlying t = some (.slice e)) (hi : (P.info? e).map (fun i => (i.zero, i.size, i.bytes)) = some (some z, size, bytes))
    (hzs : z.cells.size = size) (hsz : 0 < size)
    (v : Value) (n : Nat) (xs : List Value) (hs : a.eval s = v) (hown : w.ownsRow base e size v n xs)
    (Bd : Nat) (xv : Value) (m : Nat) (news : List Value) (hx : a.eval x = xv) (hr : Rd w Bd size xv m news) (h1 : ∀ u ∈ news, u.oneCell' = true)
    (h63 : n + m ≤ maxLen) (hbytes : (n + m) * bytes ≤ 140737488355328) (hbase : base ≤ w.heap.size)
    (h : ∀ v' w', w'.ownsRow base e size v' (n + m) (xs ++ news) → w.grownBy w' v.ownBlock → (v'.ownBlock = v.ownBlock ∨ v'.ownBlock = some w.heap.size) → wpListIn F n' P ops Q rest (a.put o.dst v') w') : wpListIn F n' P ops Q (o :: rest) a w := by
  refine wpListIn_plain hgd fun K hK => ?_
  obtain ⟨v', w', hrun, h2, h3, h4⟩ := run_app (P := P) (w := w) base t o.type e z size bytes ht hi hzs hsz v n xs hown Bd xv m news hr h1 h63 hbytes hbase
  unfold Oper.wpIn
  refine ⟨?_, ?_⟩
  · simp [Oper.about, ho, resolve, Target.leads, Sem.run_pure]
  · rw [Oper.semAt_plain F _ _ (by rw [ho]; intro c hc'; cases hc')]
    simp [execOp, ho, resolve, invoke, builtin, hs, hx, hrun, Result.andThen]
    exact hK _ _ (h v' w' h2 h3 h4)
theorem wpListIn_appS (hgd : o.guard = none) (sl x : Operand) (t u : TypeId)
    (ho : o.op = .call { callee := .builtin .append, args := #[sl, x], argTypes := #[t, u] })
    (base : Nat) (e : TypeId) (ht : P.underlying t = some (.slice e)) (hu : P.underlying u = some .string) (hi : (P.info? e).map (fun i => (i.zero, i.size, i.bytes)) = some (some (.int .u8 0), 1, 1))
    (v : Value) (n : Nat) (xs : List Value) (hs : a.eval sl = v) (hown : w.ownsRow base e 1 v n xs) (s : ByteArray) (hx : a.eval x = .string s)
    (h63 : n + s.size ≤ maxLen) (hbytes : n + s.size ≤ 140737488355328) (hbase : base ≤ w.heap.size)
    (h : ∀ v' w', w'.ownsRow base e 1 v' (n + s.size) (xs ++ Lib.strCells s) → w.grownBy w' v.ownBlock → wpListIn F n' P ops Q rest (a.put o.dst v') w') : wpListIn F n' P ops Q (o :: rest) a w := by
  refine wpListIn_plain hgd fun K hK => ?_
  obtain ⟨i, hi, hz, hs1, hb1⟩ := info_parts hi
  obtain ⟨v', w', hrun, h2, h3, _⟩ := Lib.run_append_own_string (P := P) (w := w) base t u o.type e i ht hu hi hz hs1 hb1 v n xs hown s h63 hbytes hbase
  unfold Oper.wpIn
  refine ⟨?_, ?_⟩
  · simp [Oper.about, ho, resolve, Target.leads, Sem.run_pure]
  · rw [Oper.semAt_plain F _ _ (by rw [ho]; intro c hc'; cases hc')]
    simp [execOp, ho, resolve, invoke, builtin, hs, hx, hrun, Result.andThen]
    exact hK _ _ (h v' w' h2 h3)
end
end Go.Proofs.Ytcgdlmlolmfinaa
