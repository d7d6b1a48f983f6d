/- slices.Chunk at bytes: the iterator's contract. Builtins inside a fence: copy into a block that is known whole; append of a row that may be read, of a string. Over any program. -/

import Derived.Test.YtcgdlmlolmfinaaLgRcd
import Derived.RangeFuncBox
import Derived.RangeFuncNested
import Derived.RangeFuncBound
import Derived.RangeFuncCalls
import Derived.RangeFuncLeaves
import Derived.Shelf.Abstract
import Derived.Shelf.RegionOpen
import Derived.WalkKit
import Derived.OwnWalkIn
import Derived.TacticsInMore
import Derived.LoopNIn
import Derived.LoopIn
import Derived.Sort.QuietTacIn
import Derived.Test.YtcgdlmlolmfinaaSli
import Derived.Lib.AppendStr
namespace Go.Proofs.Ytcgdlmlolmfinaa
section
open Go.RowKit Go.Shelf
attribute [local go_sem] Oper.semAt_some
/-- Chunk number k of N bytes of block g. -/
def chV (g N k : Nat) : Value := .slice (some ⟨g, 62 * k, none⟩) (min 62 (N - 62 * k)) (min 62 (N - 62 * k))
def chN (N : Nat) : Nat := (N + 61) / 62
/-- What a round keeps. -/
def KpC (B1 : Nat) (W W' : World) : Prop := W'.heap[B1]? = W.heap[B1]? ∧ W'.heap[B1 + 1]? = W.heap[B1 + 1]?
set_option maxRecDepth 100000 in
set_option maxHeartbeats 2000000 in
theorem chunk1_in (l B1 g N cap : Nat) (hN : N ≤ 1000000) (hcap : N ≤ cap) (hcap2 : cap ≤ 9223372036854775807) (J Jx : List Nat → World → Prop) (B : Nat) (hJ : AbidesFrom B J)
    (hY : ∀ pre x W, J pre W → pre.length < chN N → YieldAt Fence.wide 2 Try.prog l #[chV g N x] W fun e W' =>
      (e = .returned (.bool true) ∧ J (pre ++ [x]) W' ∧ KpC B1 W W') ∨ (e = .returned (.bool false) ∧ Jx (pre ++ [x]) W'))
    (W : World) (h1 : Boxed W B1 33 (.slice (some ⟨g, 0, none⟩) N cap)) (h2 : Boxed W (B1 + 1) 3 (.int .i64 62)) (h0 : J [] W) :
    CallsIn Fence.wide 3 Try.prog 63 #[.func (.yield l) #[] #[], .pointer (some ⟨B1, 0, none⟩), .pointer (some ⟨B1 + 1, 0, none⟩)] W fun e W' => (∃ v, e = .returned v) ∧
      ((∃ ys, ys = List.range (chN N) ∧ J ys W') ∨ (∃ pre, (∃ k, k ≤ chN N ∧ pre = List.range k) ∧ Jx pre W')) := by
  refine callsIn_of_wp Try.func63 rfl trivial ?_ rfl
  simp only [Try.ntmps63, List.size_toArray, List.length_cons, List.length_nil, Nat.reduceAdd, Nat.reduceSub, Array.replicate_succ, Array.replicate_zero, List.push_toArray, List.append_toArray, List.nil_append, List.cons_append]
  gi_wp2
  gi_loopw [4] (fun i wr => ∃ (k q : Nat), Hid (q = 62 * k) ∧ k ≤ chN N ∧ i = .int .i64 q ∧ Hid (J (List.range k) wr) ∧ Boxed wr B1 33 (.slice (some ⟨g, 0, none⟩) N cap) ∧ Boxed wr (B1 + 1) 3 (.int .i64 62))
    (fun i _ => N + 62 - (intOf i).toNat)
  case atStart => exact ⟨0, 0, Lib.hid rfl, Nat.zero_le _, rfl, Lib.hid h0, h1, h2⟩
  case round =>
    obtain ⟨k, q, HQ, hk, rfl, HJS, hb1, hb2⟩ := hrel
    have c1 := hb1.cell
    have c2 := hb2.cell
    have hq3 : q ≤ 1000062 := by have := HQ.out; unfold chN at hk; omega
    have HK := Lib.hid hk
    have HY := Lib.hid hY
    have HB := Lib.hid (And.intro hb1 hb2)
    have HJ := Lib.hid hJ
    have H0 := Lib.hid h0
    clear hb1 hb2 hY h1 h2 h0 hJ hk
    by_cases hlt : q < N
    · have hlt1 : (q : Int) < (N : Int) := by omega
      have hlt2 : (q : Int) ≤ (N : Int) := by omega
      have hcn : ¬ (cap = q) := by omega
      gi_wp2
      gi_quiet_th (fail)
      obtain ⟨m, hm⟩ : ∃ m : Nat, (if ((N - q : Nat) : Int) < 62 then ((N - q : Nat) : Int) else 62) = (m : Int) := ⟨min 62 (N - q), by split <;> omega⟩
      have hmm : m = min 62 (N - q) := by split at hm <;> omega
      rw [hm]
      have hkN : k < chN N := by have := HQ.out; unfold chN; omega
      have hgr : wr.grownBy (wr.drewN nq) none := ⟨rfl, rfl, rfl, Nat.le_refl _, fun _ _ _ => rfl⟩
      obtain ⟨fn, tmps, assign, body, hy, hR⟩ := HY.out (List.range k) k (wr.drewN nq) (HJ.out _ _ _ none HJS.out hgr (fun r e => by cases e)) (by rw [List.length_range]; exact hkN)
      have hch : chV g N k = .slice (some ⟨g, q, none⟩) m m := by unfold chV; rw [← HQ.out, ← hmm]
      rw [hch] at hy
      have HR2 := Lib.hid hR
      have hm1 : 0 < m := by omega
      have hm2 : (q : Int) + (m : Int) ≤ (N : Int) := by omega
      have hm3 : (q : Int) + (m : Int) ≤ (cap : Int) := by omega
      have HM := Lib.hid hmm
      clear hR hm hmm hch hgr
      gi_wp2
      refine HR2.out.mono ?_
      rintro e W3 (⟨rfl, hJ3, hk3⟩ | ⟨rfl, hJx3⟩)
      · have hb1 : Boxed W3 B1 33 (.slice (some ⟨g, 0, none⟩) N cap) := hk3.1.trans HB.out.1
        have hb2 : Boxed W3 (B1 + 1) 3 (.int .i64 62) := hk3.2.trans HB.out.2
        have c3 := hb2.cell
        have HB3 := Lib.hid (And.intro hb1 hb2)
        have HJ3 : Hid (J (List.range (k + 1)) W3) := Lib.hid (by rw [List.range_succ]; exact hJ3)
        have HK3 := Lib.hid hk3
        clear hb1 hb2 hJ3 hk3
        gi_wp2
        go_roundw
        case rel => exact ⟨k + 1, q + 62, Lib.hid (by have := HQ.out; omega), by omega, by go_num, HJ3, HB3.out.1, HB3.out.2⟩
        case measure => simp [intOf]; omega
      · gi_wp2
        refine bodyPost_ret (results_none rfl _ _ _) rfl ?_
        exact ⟨⟨_, rfl⟩, .inr ⟨_, ⟨k + 1, by omega, List.range_succ.symm⟩, hJx3⟩⟩
    · have hlt1 : ¬ ((q : Int) < (N : Int)) := by omega
      have hkN : k = chN N := by have := HQ.out; have := HK.out; unfold chN at *; omega
      gi_wp2
      go_end0
      exact ⟨⟨_, rfl⟩, .inl (by rw [← hkN]; exact HJS.out)⟩
/-- slices.Chunk. -/
theorem chunk_in (ao : Option Addr) (N cap : Nat) (w : World) :
    CallsIn Fence.wide 3 Try.prog 52 #[.slice ao N cap, .int .i64 62] w fun e w' => e = .returned (.func (.func 63) #[] #[.pointer (some ⟨w.heap.size, 0, none⟩), .pointer (some ⟨w.heap.size + 1, 0, none⟩)]) ∧ w' = (w.alloc (.cells #[.slice ao N cap] 33)).alloc (.cells #[.int .i64 62] 3) := by
  refine callsIn_of_wp Try.func52 rfl trivial ?_ rfl
  simp only [Try.ntmps52, List.size_toArray, List.length_cons, List.length_nil, Nat.reduceAdd, Nat.reduceSub, Array.replicate_succ, Array.replicate_zero, List.push_toArray, List.append_toArray, List.nil_append, List.cons_append]
  gi_wp2
  go_ret
  exact ⟨rfl, rfl⟩
theorem chunk_stops (B1 g N cap : Nat) (hN : N ≤ 1000000) (hcap : N ≤ cap) (hcap2 : cap ≤ 9223372036854775807) (w : World) (hB : B1 + 1 < w.heap.size)
    (h1 : Boxed w B1 33 (.slice (some ⟨g, 0, none⟩) N cap)) (h2 : Boxed w (B1 + 1) 3 (.int .i64 62)) :
    SeqStopsK Fence.wide 3 Try.prog 63 #[.pointer (some ⟨B1, 0, none⟩), .pointer (some ⟨B1 + 1, 0, none⟩)] (fun x : Nat => #[chV g N x]) (KpC B1) (fun ys => ys = List.range (chN N)) (fun pre => ∃ k, k ≤ chN N ∧ pre = List.range k) (chN N) w := fun l J Jx W hW hJ _ hY h0 =>
  chunk1_in l B1 g N cap hN hcap hcap2 J Jx W.heap.size hJ hY W ((hW.block _ (by omega)).trans h1) ((hW.block _ (by omega)).trans h2) h0
end
section
open Go.RowKit
section
variable {F : Fence} {n' : Nat} {P : Program} {w : World} {ops : Array Oper} {rest : List Oper} {o : Oper} {a : Act} {Q : Exit → Act → World → Prop}
theorem run_copyW (dT sT ty elem : TypeId) (hu : P.underlying dT = some (.slice elem)) (hsz : (P.info? elem).map (·.size) = some 1)
    (dp : Option Addr) (dLen dCap sLen : Nat) (sv : Value)
    (g off : Nat) (cur : List Value) (t : TypeId) (hg : Whole w g t cur) (Bd : Nat) (cs : List Value) (hr : Rd w Bd 1 sv sLen cs) (hn : sLen ≤ dLen)
    (hpos : 0 < sLen → dp = some ⟨g, off, none⟩) (hfit : off + sLen ≤ cur.length) (h1 : ∀ v ∈ cs, v.oneCell' = true) :
    ∃ w', (Builtin.copy_ #[dT, sT] ty #[.slice dp dLen dCap, sv]).run P w = .ok (goInt sLen) w' ∧ Whole w' g t (cur.take off ++ (cs ++ cur.drop (off + sLen))) ∧ Left [g] w w' := by
  obtain ⟨hl, ao, cap, rfl, h3, h4, h5, h6⟩ := hr
  have hlen : cs.length = sLen := by omega
  by_cases h0 : sLen = 0
  · subst h0
    obtain rfl : cs = [] := List.eq_nil_of_length_eq_zero (by omega)
    exact ⟨w, run_copy_none (P := P) w dT sT ty elem dp ao dLen dCap 0 cap hu hsz (by simp), by simpa using hg, Left.refl _ _⟩
  · obtain ⟨b, oo, rfl, _, hc⟩ := h6 (by omega)
    obtain rfl := hpos (by omega)
    have hrun := run_copy_row (P := P) w dT sT ty elem g off dLen dCap ⟨b, oo, none⟩ sLen cap cur.toArray t cs hu hsz hg (by rw [hlen]; exact (Nat.min_eq_left hn).symm) (fun j v hv => by
      rw [add_flat]
      exact hc j v hv) (by simpa [hlen] using hfit) h1
    rw [hlen, List.append_assoc] at hrun
    exact ⟨_, hrun, setRow_heap w g _ _ t _ hg, rfl, rfl, rfl, by simp [World.setRow], fun k hk hne => setRow_other w g k _ (by simpa using hne)⟩
theorem wpListIn_copyW (hgd : o.guard = none) (d s : Operand) (dT sT : TypeId)
    (ho : o.op = .call { callee := .builtin .copy, args := #[d, s], argTypes := #[dT, sT] }) (elem : TypeId) (hu : P.underlying dT = some (.slice elem)) (hsz : (P.info? elem).map (·.size) = some 1)
    (dp : Option Addr) (dLen dCap sLen : Nat) (sv : Value) (hd : a.eval d = .slice dp dLen dCap) (hs : a.eval s = sv)
    (g off : Nat) (cur : List Value) (t : TypeId) (hg : Whole w g t cur) (Bd : Nat) (cs : List Value) (hr : Rd w Bd 1 sv sLen cs) (hn : sLen ≤ dLen)
    (hpos : 0 < sLen → dp = some ⟨g, off, none⟩) (hfit : off + sLen ≤ cur.length) (h1 : ∀ v ∈ cs, v.oneCell' = true)
    (h : ∀ w', Whole w' g t (cur.take off ++ (cs ++ cur.drop (off + sLen))) → Left [g] w w' → wpListIn F n' P ops Q rest (a.put o.dst (goInt sLen)) w') : wpListIn F n' P ops Q (o :: rest) a w := by
  refine wpListIn_plain hgd fun K hK => ?_
  obtain ⟨w', hrun, h2, h3⟩ := run_copyW (P := P) dT sT o.type elem hu hsz dp dLen dCap sLen sv g off cur t hg Bd cs hr hn hpos hfit h1
  unfold Oper.wpIn
  refine ⟨?_, ?_⟩
  · simp [Oper.about, ho, resolve, Target.leads, Sem.run_pure]
  · rw [Oper.semAt_plain F _ _ (by rw [ho]; intro c hc'; cases hc')]
    simp [execOp, ho, resolve, invoke, builtin, hd, hs, hrun, Result.andThen]
    exact hK _ _ (h w' h2 h3)
theorem wpListIn_appW (hgd : o.guard = none) (s x : Operand) (t : TypeId)
    (ho : o.op = .call { callee := .builtin .append, args := #[s, x], argTypes := #[t, t] })
    (base : Nat) (e : TypeId) (z : Value) (size bytes : Nat) (ht : P.underlying t = some (.slice e)) (hi : (P.info? e).map (fun i => (i.zero, i.size, i.bytes)) = some (some z, size, bytes))
    (hzs : z.cells.size = size) (hsz : 0 < size)
    (v : Value) (n : Nat) (xs : List Value) (hs : a.eval s = v) (hown : w.ownsRow base e size v n xs)
    (Bd : Nat) (xv : Value) (m : Nat) (news : List Value) (hx : a.eval x = xv) (hr : Rd w Bd size xv m news) (h1 : ∀ u ∈ news, u.oneCell' = true)
    (h63 : n + m ≤ maxLen) (hbytes : (n + m) * bytes ≤ 140737488355328) (hbase : base ≤ w.heap.size)
    (h : ∀ v' w', w'.ownsRow base e size v' (n + m) (xs ++ news) → w.grownBy w' v.ownBlock → (v'.ownBlock = v.ownBlock ∨ v'.ownBlock = some w.heap.size) → wpListIn F n' P ops Q rest (a.put o.dst v') w') : wpListIn F n' P ops Q (o :: rest) a w := by
  refine wpListIn_plain hgd fun K hK => ?_
  obtain ⟨v', w', hrun, h2, h3, h4⟩ := run_app (P := P) (w := w) base t o.type e z size bytes ht hi hzs hsz v n xs hown Bd xv m news hr h1 h63 hbytes hbase
  unfold Oper.wpIn
  refine ⟨?_, ?_⟩
  · simp [Oper.about, ho, resolve, Target.leads, Sem.run_pure]
  · rw [Oper.semAt_plain F _ _ (by rw [ho]; intro c hc'; cases hc')]
    simp [execOp, ho, resolve, invoke, builtin, hs, hx, hrun, Result.andThen]
    exact hK _ _ (h v' w' h2 h3 h4)
theorem wpListIn_appS (hgd : o.guard = none) (sl x : Operand) (t u : TypeId)
    (ho : o.op = .call { callee := .builtin .append, args := #[sl, x], argTypes := #[t, u] })
    (base : Nat) (e : TypeId) (ht : P.underlying t = some (.slice e)) (hu : P.underlying u = some .string) (hi : (P.info? e).map (fun i => (i.zero, i.size, i.bytes)) = some (some (.int .u8 0), 1, 1))
    (v : Value) (n : Nat) (xs : List Value) (hs : a.eval sl = v) (hown : w.ownsRow base e 1 v n xs) (s : ByteArray) (hx : a.eval x = .string s)
    (h63 : n + s.size ≤ maxLen) (hbytes : n + s.size ≤ 140737488355328) (hbase : base ≤ w.heap.size)
    (h : ∀ v' w', w'.ownsRow base e 1 v' (n + s.size) (xs ++ Lib.strCells s) → w.grownBy w' v.ownBlock → wpListIn F n' P ops Q rest (a.put o.dst v') w') : wpListIn F n' P ops Q (o :: rest) a w := by
  refine wpListIn_plain hgd fun K hK => ?_
  obtain ⟨i, hi, hz, hs1, hb1⟩ := info_parts hi
  obtain ⟨v', w', hrun, h2, h3, _⟩ := Lib.run_append_own_string (P := P) (w := w) base t u o.type e i ht hu hi hz hs1 hb1 v n xs hown s h63 hbytes hbase
  unfold Oper.wpIn
  refine ⟨?_, ?_⟩
  · simp [Oper.about, ho, resolve, Target.leads, Sem.run_pure]
  · rw [Oper.semAt_plain F _ _ (by rw [ho]; intro c hc'; cases hc')]
    simp [execOp, ho, resolve, invoke, builtin, hs, hx, hrun, Result.andThen]
    exact hK _ _ (h v' w' h2 h3)
end
end
end Go.Proofs.Ytcgdlmlolmfinaa
