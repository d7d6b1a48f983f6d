/- Plain laws: numbers in bytes, the lowest first. Reading a state's bytes: whatever they are. Reading a state's bytes, whatever they are: messages. A region whose order is drawn, where what is held is held only until operation k comes up; k and all behind it come in one forced order. (After the library's wpAnyH and its laws.) Over any program. Reading a state's bytes, whatever they are: a session. Lists copied: numbers, messages, wishes, flights: of any. An outbox, a session copied: of any. -/
import Derived.Laws.BitsAllLaws
import Derived.Laws.Bits64
import Derived.Laws.Bits
import Derived.Test.YtknnaeejkmlnbaaGreatDoorGa
import Derived.Test.YtknnaeejkmlnbaaGreatDoorGc
import Derived.Handy
import Derived.IntWalk
import Derived.Deep.DeepCutAuto
import Derived.Test.YtknnaeejkmlnbaaGreatDoorGb
import Derived.StillTail
import Derived.Test.YtknnaeejkmlnbaaGreatDoorRcMay2
namespace Go.Proofs.YtknnaeejkmlnbaaGreatDoor

/-- Bytes as a number, the lowest first. -/
def le : List UInt8 → Nat
  | [] => 0
  | b :: r => b.toNat + 256 * le r

end Go.Proofs.YtknnaeejkmlnbaaGreatDoor
namespace Go.Proofs.YtknnaeejkmlnbaaGreatDoor
open Go.RowKit
/-- Texts that are not too long. -/
def MN (N : Nat) (m : Msg) : Prop := m.t.size ≤ N ∧ m.p.size ≤ N
end Go.Proofs.YtknnaeejkmlnbaaGreatDoor
namespace Go.Proofs.YtknnaeejkmlnbaaGreatDoor
open Go.RowKit
theorem enc_new {α : Type} (E : Enc α) (w : World) (t : TypeId) (x : α) : Rd (w.alloc (.cells (E.c x).toArray t)) (w.heap.size + 1) E.sz (.slice (some ⟨w.heap.size, 0, none⟩) 1 1) 1 (E.c x) := by
  refine ⟨by rw [E.len]; omega, _, _, rfl, by omega, by unfold maxLen; omega, (fun e => by cases e), fun _ => ⟨w.heap.size, 0, rfl, by omega, fun j u hu => ?_⟩⟩
  rw [Nat.zero_add, (Whole.new w t (E.c x)).cell]
  exact hu
/-- Rows of messages of one's own. -/
def OwnM (w : World) (B : Nat) (v : Value) (Q : List Msg) : Prop := w.ownsRow B 83 4 v Q.length (eM.cells Q)
theorem OwnM.to {w : World} {B n : Nat} {v : Value} {Q : List Msg} {m : Msg} (h : w.ownsRow B 83 4 v n (eM.cells Q ++ eM.c m)) (hn : n = Q.length + 1) : OwnM w B v (Q ++ [m]) := by
  subst hn
  unfold OwnM
  rw [eM.cells_app, eM.cells_one, List.length_append]
  exact h
end Go.Proofs.YtknnaeejkmlnbaaGreatDoor
namespace Go.Proofs.YtknnaeejkmlnbaaGreatDoor
section
variable {P : Program} {ops : Array Oper} {Q : Exit → Act → World → Prop} {md : Region.Mode} {S : World → Prop} {k : Nat}
/-- Whatever order is picked from here on; until k has come up, S holds behind every operation. -/
def wpAnyK (P : Program) (md : Region.Mode) (ops : Array Oper) (Q : Exit → Act → World → Prop) (k : Nat) (S : World → Prop) : Nat → Array Bool → Act → World → Prop
  | 0, listed, a, w => Region.ready md ops listed = [] ∧ Q .normal a w
  | fuel + 1, listed, a, w =>
    (Region.ready md ops listed = [] → Q .normal a w) ∧
    ∀ i ∈ Region.ready md ops listed, wpOp P ops Q i (fun a' w' => ((listed.setIfInBounds i true).getD k false = true ∨ S w') ∧ wpAnyK P md ops Q k S fuel (listed.setIfInBounds i true) a' w') a w
theorem wpAny_of_k : ∀ (fuel : Nat) (listed : Array Bool) (a : Act) (w : World), wpAnyK P md ops Q k S fuel listed a w → wpAny P md ops Q fuel listed a w
  | 0, _, _, _, h => h
  | fuel + 1, _, _, _, h => ⟨h.1, fun i hi => wpOp_mono (fun a' w' h' => wpAny_of_k fuel _ a' w' h'.2) (h.2 i hi)⟩
def Closed (md : Region.Mode) (ops : Array Oper) (L : Array Bool) : Prop := ∀ j oj, ops[j]? = some oj → L.getD j false = true → ∀ e ∈ oj.after, Region.binds md e = true → L.getD e.on false = true
def closedB (md : Region.Mode) (ops : Array Oper) (L : Array Bool) : Bool := (List.range ops.size).all fun j => match ops[j]? with
  | some o => !L.getD j false || o.after.all fun e => !Region.binds md e || L.getD e.on false
  | none => true
theorem closedB_spec {L : Array Bool} (h : closedB md ops L = true) : Closed md ops L := fun j oj hj hl e he hb => by
  have h4 := List.all_eq_true.1 h j (List.mem_range.2 (Array.getElem?_eq_some_iff.1 hj).1)
  rw [hj] at h4
  simp only [Bool.or_eq_true, Bool.not_eq_true'] at h4
  rcases h4 with h4 | h4
  · rw [hl] at h4; cases h4
  · have h5 := Array.all_eq_true'.1 h4 e he
    simpa [hb] using h5
theorem Closed.set {L : Array Bool} {j : Nat} (h : Closed md ops L) (hj : j ∈ Region.ready md ops L) : Closed md ops (L.setIfInBounds j true) := fun t ot ht hl e he hb => by
  obtain ⟨_, oj, hoj, hall⟩ := mem_ready.1 hj
  by_cases hjt : j = t
  · subst hjt
    have : ot = oj := Option.some.inj (ht.symm.trans hoj)
    subst this
    exact getD_set_true (hall e he hb)
  · rw [getD_set_ne false hjt] at hl
    exact getD_set_true (h t ot ht hl e he hb)
theorem wpAnyK_first {S' : World → Prop} {i : Nat} {oi : Oper} {v : Value} (hik : i ≠ k) (hi : ops[i]? = some oi) (hsel : ∀ (j : Nat) (o : Oper) cs b, ops[j]? = some o → o.op ≠ .select cs b)
    (hQ : ∀ c a w, Q (.panic c) (a.put oi.dst v) w → Q (.panic c) a w)
    (hS' : ∀ (L : Array Bool) (w : World), Closed md ops L → L.getD i true = false → (L.getD k false = true ∨ S w) → S' w) :
    ∀ (fuel : Nat) (listed : Array Bool) (a : Act) (w : World), Closed md ops listed →
      (∀ j oj, ops[j]? = some oj → j ≠ i → listed.getD j true = false → (∀ e ∈ oj.after, Region.binds md e = true → e.on ≠ i) → oi.apart ops oj = true) →
      i ∈ Region.ready md ops listed → YieldsIf P ops S' oi v a → (listed.getD k false = true ∨ S w) →
      wpAnyK P md ops Q k S fuel (listed.setIfInBounds i true) (a.put oi.dst v) w → wpAnyK P md ops Q k S (fuel + 1) listed a w := by
  have hset : ∀ (L : Array Bool) (w : World), (L.getD k false = true ∨ S w) → ((L.setIfInBounds i true).getD k false = true ∨ S w) := fun L w h => h.imp (fun h => getD_set_true h) id
  intro fuel
  induction fuel with
  | zero =>
    intro listed a w hcl _ hr hy hS H
    refine ⟨fun h => (by rw [h] at hr; cases hr), fun j hj => ?_⟩
    by_cases hji : j = i
    · subst hji; exact hy.wpOp hi (hS' listed w hcl (mem_ready.1 hr).1 hS) ⟨hset _ _ hS, H⟩
    · have := ready_mono hj hji
      rw [H.1] at this
      cases this
  | succ fuel ih =>
    intro listed a w hcl hfree hr hy hS H
    refine ⟨fun h => (by rw [h] at hr; cases hr), fun j hj => ?_⟩
    by_cases hji : j = i
    · subst hji; exact hy.wpOp hi (hS' listed w hcl (mem_ready.1 hr).1 hS) ⟨hset _ _ hS, H⟩
    · have h1 := H.2 j (ready_mono hj hji)
      obtain ⟨hjun, oj, hoj, hall⟩ := mem_ready.1 hj
      have hnot : ∀ e ∈ oj.after, Region.binds md e = true → e.on ≠ i := fun e he hb heq => by
        have h1 := hall e he hb
        have h0 := (mem_ready.1 hr).1
        rw [heq] at h1
        rcases Nat.lt_or_ge i listed.size with h' | h'
        · simp [h'] at h0 h1; rw [h0] at h1; cases h1
        · simp [Array.getElem?_eq_none h'] at h1
      have h2 := wpOp_putIf hoj (hfree j oj hoj hji hjun hnot) (fun cs b => hsel i oi cs b hi) (fun cs b => hsel j oj cs b hoj) hQ hy h1
      have hfree' : ∀ t ok, ops[t]? = some ok → t ≠ i → (listed.setIfInBounds j true).getD t true = false →
          (∀ e ∈ ok.after, Region.binds md e = true → e.on ≠ i) → oi.apart ops ok = true := fun t ok hk hki hun hno => by
        refine hfree t ok hk hki ?_ hno
        by_cases hjk : j = t
        · subst hjk; exact hjun
        · rw [getD_set_ne true hjk] at hun; exact hun
      have hback : ∀ w', (((listed.setIfInBounds i true).setIfInBounds j true).getD k false = true ∨ S w') → ((listed.setIfInBounds j true).getD k false = true ∨ S w') := fun w' h => by
        rw [Array.setIfInBounds_comm _ _ (Ne.symm hji)] at h
        rwa [getD_set_ne false hik] at h
      refine wpOp_mono (fun a' w' h3 => ⟨hback w' h3.2.1, ih (listed.setIfInBounds j true) a' w' (hcl.set hj) hfree' (ready_mono hr (Ne.symm hji)) h3.1 (hback w' h3.2.1) ?_⟩) h2
      rw [Array.setIfInBounds_comm _ _ hji]
      exact h3.2.2
/-- A load (k waits for it) is taken first. -/
theorem take_kl {fuel : Nat} {listed : Array Bool} {a : Act} {w : World} (i : Nat)
    (H : ∃ (oi : Oper) (v : Value), ops[i]? = some oi ∧ Region.noSelect ops = true ∧ Region.free md ops listed i = true ∧ (Region.ready md ops listed).contains i = true ∧
      (Nat.beq i k = false ∧ closedB md ops listed = true ∧ Region.waitsFor md ops k i = true) ∧ (∀ c a w, Q (.panic c) (a.put oi.dst v) w → Q (.panic c) a w) ∧ YieldsIf P ops S oi v a ∧ S w ∧ wpAnyK P md ops Q k S fuel (listed.setIfInBounds i true) (a.put oi.dst v) w) : wpAnyK P md ops Q k S (fuel + 1) listed a w := by
  obtain ⟨oi, v, h1, h2, h3, h4, ⟨h9, h10, h11⟩, h5, h6, h7, h8⟩ := H
  refine wpAnyK_first (S' := S) (fun e => by subst e; simp at h9) h1 (Region.noSelect_spec h2) h5 (fun L w hcl hun hS => ?_) fuel listed a w (closedB_spec h10) (Region.free_spec h1 h3) (by simpa using h4) h6 (.inr h7) h8
  rcases hS with hS | hS
  · obtain ⟨ok, hok, e, he, hb, hon⟩ := Region.waitsFor_spec h11
    have := hcl k ok hok hS e he hb
    rw [hon, getD_both hun] at this
    cases this
  · exact hS
/-- One that looks at no world is taken first. -/
theorem take_kp {fuel : Nat} {listed : Array Bool} {a : Act} {w : World} (i : Nat)
    (H : ∃ (oi : Oper) (v : Value), ops[i]? = some oi ∧ Region.noSelect ops = true ∧ Region.free md ops listed i = true ∧ (Region.ready md ops listed).contains i = true ∧
      (Nat.beq i k = false ∧ closedB md ops listed = true) ∧ (∀ c a w, Q (.panic c) (a.put oi.dst v) w → Q (.panic c) a w) ∧ YieldsIf P ops (fun _ => True) oi v a ∧ S w ∧ wpAnyK P md ops Q k S fuel (listed.setIfInBounds i true) (a.put oi.dst v) w) : wpAnyK P md ops Q k S (fuel + 1) listed a w := by
  obtain ⟨oi, v, h1, h2, h3, h4, ⟨h9, h10⟩, h5, h6, h7, h8⟩ := H
  exact wpAnyK_first (S' := fun _ => True) (fun e => by subst e; simp at h9) h1 (Region.noSelect_spec h2) h5 (fun L w hcl hun hS => trivial) fuel listed a w (closedB_spec h10) (Region.free_spec h1 h3) (by simpa using h4) h6 (.inr h7) h8
/-- The one that may come up. -/
theorem call_k {fuel : Nat} {listed : Array Bool} {a : Act} {w : World} (i : Nat) (hr : Region.ready md ops listed = [i])
    (H : ∃ o : Oper, ops[i]? = some o ∧ ∀ K' : Act → World → Prop, Shut (∀ a w, S w → (S w → wpAnyK P md ops Q k S fuel (listed.setIfInBounds i true) a w) → K' a w) → if Region.wanted o (yielded ops a.tmps) = true then Oper.wp P o a w K' Q else K' (a.put o.dst undef) w) :
    wpAnyK P md ops Q k S (fuel + 1) listed a w := by
  obtain ⟨o, h1, h2⟩ := H
  refine ⟨fun h0 => (by rw [hr] at h0; cases h0), fun j hj => ?_⟩
  rw [hr] at hj
  have hji : j = i := by simpa using hj
  subst hji
  unfold wpOp
  simp only [h1]
  have h3 := h2 (fun a' w' => ((listed.setIfInBounds j true).getD k false = true ∨ S w') ∧ wpAnyK P md ops Q k S fuel (listed.setIfInBounds j true) a' w') (fun a w hS h => ⟨.inr hS, h hS⟩)
  split
  · rename_i hw
    rw [if_pos hw] at h3
    exact .inl h3
  · rename_i hw
    rw [if_neg hw] at h3
    exact h3
theorem tail_k' : ∀ (l : List Oper) (t : Nat) (listed : Array Bool) (a : Act) (w : World), (t = k ∨ listed.getD k false = true) → t + l.length ≤ listed.size → (∀ j, l[j]? = ops[t + j]?) →
    Region.seqB md ops l.length t listed = true → wpList P ops Q l a w → wpAnyK P md ops Q k S l.length listed a w
  | [], t, listed, a, w, _, _, _, hB, h => ⟨by simpa [Region.seqB] using hB, h⟩
  | o :: l, t, listed, a, w, hk, hsz, hl, hB, h => by
    have h0 : ops[t]? = some o := by simpa using (hl 0).symm
    simp only [List.length_cons, Region.seqB, Bool.and_eq_true, decide_eq_true_eq] at hB
    have hk' : (listed.setIfInBounds t true).getD k false = true := by
      rcases hk with rfl | hk
      · simp only [List.length_cons] at hsz
        rw [Array.getD_eq_getD_getElem?, Array.getElem?_setIfInBounds, if_pos rfl, if_pos (by omega)]
        rfl
      · exact getD_set_true hk
    refine ⟨fun h1 => (by rw [hB.1] at h1; cases h1), fun i hi => ?_⟩
    rw [hB.1] at hi
    have hik : i = t := by simpa using hi
    subst hik
    have hw : wpOp P ops Q i (wpList P ops Q l) a w := by unfold wpOp; simp only [h0]; exact h
    exact wpOp_mono (fun a' w' h' => ⟨.inl hk', tail_k' l (i + 1) _ a' w' (.inr hk') (by simp only [List.length_cons] at hsz; simp; omega) (fun j => by have := hl (j + 1); simpa [Nat.add_assoc, Nat.add_comm 1 j] using this) hB.2 h'⟩) hw
/-- k and all behind it, one by one. -/
theorem tail_k {l : List Oper} {fuel : Nat} {listed : Array Bool} {a : Act} {w : World} (hf : Nat.beq fuel (l.drop k).length = true) (hsz : Nat.ble (k + (l.drop k).length) listed.size = true)
    (hB : Region.seqB md l.toArray (l.drop k).length k listed = true) (h : wpList P l.toArray Q (l.drop k) a w) : wpAnyK P md l.toArray Q k S fuel listed a w := by
  have hf := Nat.eq_of_beq_eq_true hf
  subst hf
  exact tail_k' (l.drop k) k listed a w (.inl rfl) (Nat.le_of_ble_eq_true hsz) (fun j => by simp [List.getElem?_drop]) hB h
theorem region_k {id : Nat} {a : Act} {w : World} (k : Nat) (hm : P.follows .mixedOrders = true) (hS : S w.drew)
    (h : S w.drew → wpAnyK P .any ops Q k S ops.size (Array.replicate ops.size false) a w.drew) : (Code.region id ops true).wp P Q a w :=
  wp_region_any hm (wpAny_of_k _ _ _ _ (h hS))
end
end Go.Proofs.YtknnaeejkmlnbaaGreatDoor
namespace Go.Proofs.YtknnaeejkmlnbaaGreatDoor
open Go.RowKit
theorem inf_W : (Tryz.prog.info? 106).map (fun i => (i.zero, i.size, i.bytes)) = some (some (.agg #[.string ⟨#[]⟩, .int .i64 0]), 2, 24) := by kernel_rfl
theorem inf_I : (Tryz.prog.info? 3).map (fun i => (i.zero, i.size, i.bytes)) = some (some (.int .i64 0), 1, 8) := by kernel_rfl
/-- A session's cells, as they are read. -/
def sc (c : ByteArray) (sv : Value) (last : Int) (fv qv iv : Value) : List Value := [.string c, .bool false, .int .i64 0, sv, .int .i64 last, fv, qv, iv, .bool false, .string ⟨#[]⟩, .string ⟨#[]⟩, .int .i64 0, .bool false, .int .i64 0, .int .i64 0]
section
variable {w wr w' : World} {Bd RB N B T T2 : Nat} {c : ByteArray} {sv v' : Value} {S : List Wish1} {last : Int} {fv : Value} {F : List Fl} {qv : Value} {Q : List Msg} {iv : Value} {I : List Int}
theorem set1 (w : World) (T j : Nat) (u : Value) : Left [T] w (w.setCell ⟨T, j, none⟩ u) := (Left.refl [T] w).setCell (.inl (by simp)) _
end
/-- A session that was read: rows of its own, no text too long. -/
structure SOwn (w : World) (B N : Nat) (r : Rs) : Prop where
  s : w.ownsRow B 106 2 (.slice r.sa r.s.S.length r.sc) r.s.S.length (eW.cells r.s.S)
  f : w.ownsRow B 108 6 (.slice r.fa r.s.o.F.length r.fc) r.s.o.F.length (eF.cells r.s.o.F)
  q : w.ownsRow B 83 4 (.slice r.qa r.s.o.Q.length r.qc) r.s.o.Q.length (eM.cells r.s.o.Q)
  i : w.ownsRow B 3 1 (.slice r.ia r.s.I.length r.ic) r.s.I.length (eI.cells r.s.I)
structure SN (N : Nat) (y : Se) : Prop where
  zc : y.c.size ≤ N
  zs : y.S.length ≤ N ∧ ∀ x ∈ y.S, x.f.size ≤ N
  zf : y.o.F.length ≤ N ∧ ∀ x ∈ y.o.F, MN N x.m
  zq : y.o.Q.length ≤ N ∧ ∀ x ∈ y.o.Q, MN N x
  zi : y.I.length ≤ N
  zw : y.wl.t.size ≤ N ∧ y.wl.p.size ≤ N
end Go.Proofs.YtknnaeejkmlnbaaGreatDoor
namespace Go.Proofs.YtknnaeejkmlnbaaGreatDoor
open Go.RowKit
set_option maxRecDepth 20000 in
set_option maxHeartbeats 1000000 in
theorem cpI_any (w : World) (v : Value) (L : List Int) (Bd : Nat) (h : Rd w Bd 1 v L.length (eI.cells L)) (hBd : Bd ≤ w.heap.size) (hn : L.length ≤ 1000000000) :
    Calls Tryz.prog 16 #[v] w fun e w' => ∃ v', e = .returned v' ∧ w'.ownsRow w.heap.size 3 1 v' L.length (eI.cells L) ∧ Below w.heap.size w w' := by
  obtain ⟨ao, cap, rfl, hc, hm⟩ := h.form
  have hm' : cap ≤ 9223372036854775807 := by unfold maxLen at hm; omega
  have H := Lib.hid h
  clear h hm
  go_enter Tryz.func16, Tryz.ntmps16
  go_wp2
  go_loopw [3, 4] (fun v i wr => ∃ k : Nat, k ≤ L.length ∧ i = .int .i64 k ∧ wr.ownsRow w.heap.size 3 1 v k (eI.cells (L.take k)) ∧ Below w.heap.size w wr) (fun _ i _ => L.length - (intOf i).toNat)
  case atStart => exact ⟨0, by omega, rfl, by simpa using World.ownsRow_nil _ _ _ _, Below.refl _ _⟩
  case round =>
    obtain ⟨k, hk, rfl, hown, hb⟩ := hrel
    have HO := Lib.hid hown
    have hzs := hb.size
    clear hown
    by_cases hlt : k < L.length
    · have hlt' : (k : Int) < (L.length : Int) := by omega
      obtain ⟨x, hx⟩ : ∃ x, L[k]? = some x := ⟨_, List.getElem?_eq_getElem hlt⟩
      obtain ⟨b, o, rfl, _, hcs⟩ := Enc.rd_cell (E := eI) (H.out.below (hb.mono hBd)) rfl hx
      obtain x0 := (show wr.cell? ⟨b, o + k, none⟩ = some (.int .i64 x) by simpa [eI] using hcs 0 _ rfl)
      have HS : Hid (eI.cells (L.take k) ++ eI.c x = eI.cells (L.take (k + 1))) := Lib.hid (by rw [← eI.cells_one x, ← eI.cells_app, List.take_add_one, hx]; rfl)
      have HA := Lib.hid (enc_new eI wr 3 x)
      clear hx hcs
      simp only [eI] at HA
      go_wp2_with (at_builtin; refine wpList_app _ rfl (.tmp 11) (.tmp 16) _ rfl w.heap.size 3 (.int .i64 0) 1 8 Tryz.underlying22 inf_I rfl (by omega) _ k (eI.cells (L.take k)) rfl (HO.out.alloc _) _ _ 1 (eI.c x) rfl HA.out (eI.one _) ?_ ?_ ?_ ?_)
      · unfold maxLen; omega
      · omega
      · simp; omega
      intro v1 w1 hown1 hg1 _
      have hb1 := (hb.alloc hzs _).grown hg1 (by simp; omega) (fun g hg => (HO.out.lt g hg).1)
      rw [HS.out] at hown1
      have HO1 := Lib.hid hown1
      clear hown1 hg1
      go_wp2
      go_roundw
      case rel => exact ⟨k + 1, by omega, by go_num, HO1.out, hb1⟩
      case measure => simp [intOf]; omega
    · have : k = L.length := by omega
      subst this
      go_wp2
      go_ret
      exact ⟨_, rfl, by simpa using HO.out, hb⟩
set_option maxRecDepth 20000 in
set_option maxHeartbeats 1000000 in
theorem cpM_any (w : World) (v : Value) (L : List Msg) (Bd : Nat) (h : Rd w Bd 4 v L.length (eM.cells L)) (hBd : Bd ≤ w.heap.size) (hn : L.length ≤ 1000000000) :
    Calls Tryz.prog 18 #[v] w fun e w' => ∃ v', e = .returned v' ∧ w'.ownsRow w.heap.size 83 4 v' L.length (eM.cells L) ∧ Below w.heap.size w w' := by
  obtain ⟨ao, cap, rfl, hc, hm⟩ := h.form
  have hm' : cap ≤ 9223372036854775807 := by unfold maxLen at hm; omega
  have H := Lib.hid h
  clear h hm
  go_enter Tryz.func18, Tryz.ntmps18
  go_wp2
  go_loopw [3, 4] (fun v i wr => ∃ k : Nat, k ≤ L.length ∧ i = .int .i64 k ∧ wr.ownsRow w.heap.size 83 4 v k (eM.cells (L.take k)) ∧ Below w.heap.size w wr) (fun _ i _ => L.length - (intOf i).toNat)
  case atStart => exact ⟨0, by omega, rfl, by simpa using World.ownsRow_nil _ _ _ _, Below.refl _ _⟩
  case round =>
    obtain ⟨k, hk, rfl, hown, hb⟩ := hrel
    have HO := Lib.hid hown
    have hzs := hb.size
    clear hown
    by_cases hlt : k < L.length
    · have hlt' : (k : Int) < (L.length : Int) := by omega
      obtain ⟨x, hx⟩ : ∃ x, L[k]? = some x := ⟨_, List.getElem?_eq_getElem hlt⟩
      obtain ⟨b, o, rfl, _, hcs⟩ := Enc.rd_cell (E := eM) (H.out.below (hb.mono hBd)) rfl hx
      obtain ⟨x0, x1, x2, x3⟩ := msg_cells (show World.rangeAt _ b (o + k * 4) (eM.c x) from hcs)
      have HS : Hid (eM.cells (L.take k) ++ eM.c x = eM.cells (L.take (k + 1))) := Lib.hid (by rw [← eM.cells_one x, ← eM.cells_app, List.take_add_one, hx]; rfl)
      have HA := Lib.hid (enc_new eM wr 83 x)
      clear hx hcs
      simp only [eM, msgC] at HA
      go_wp2_with (at_builtin; refine wpList_app _ rfl (.tmp 11) (.tmp 16) _ rfl w.heap.size 83 (.agg #[.string ⟨#[]⟩, .string ⟨#[]⟩, .int .i64 0, .bool false]) 4 48 Tryz.underlying24 inf_M rfl (by omega) _ k (eM.cells (L.take k)) rfl (HO.out.alloc _) _ _ 1 (eM.c x) rfl HA.out (eM.one _) ?_ ?_ ?_ ?_)
      · unfold maxLen; omega
      · omega
      · simp; omega
      intro v1 w1 hown1 hg1 _
      have hb1 := (hb.alloc hzs _).grown hg1 (by simp; omega) (fun g hg => (HO.out.lt g hg).1)
      rw [HS.out] at hown1
      have HO1 := Lib.hid hown1
      clear hown1 hg1
      go_wp2
      go_roundw
      case rel => exact ⟨k + 1, by omega, by go_num, HO1.out, hb1⟩
      case measure => simp [intOf]; omega
    · have : k = L.length := by omega
      subst this
      go_wp2
      go_ret
      exact ⟨_, rfl, by simpa using HO.out, hb⟩
set_option maxRecDepth 20000 in
set_option maxHeartbeats 1000000 in
theorem cpW_any (w : World) (v : Value) (L : List Wish1) (Bd : Nat) (h : Rd w Bd 2 v L.length (eW.cells L)) (hBd : Bd ≤ w.heap.size) (hn : L.length ≤ 1000000000) :
    Calls Tryz.prog 60 #[v] w fun e w' => ∃ v', e = .returned v' ∧ w'.ownsRow w.heap.size 106 2 v' L.length (eW.cells L) ∧ Below w.heap.size w w' := by
  obtain ⟨ao, cap, rfl, hc, hm⟩ := h.form
  have hm' : cap ≤ 9223372036854775807 := by unfold maxLen at hm; omega
  have H := Lib.hid h
  clear h hm
  go_enter Tryz.func60, Tryz.ntmps60
  go_wp2
  go_loopw [3, 4] (fun v i wr => ∃ k : Nat, k ≤ L.length ∧ i = .int .i64 k ∧ wr.ownsRow w.heap.size 106 2 v k (eW.cells (L.take k)) ∧ Below w.heap.size w wr) (fun _ i _ => L.length - (intOf i).toNat)
  case atStart => exact ⟨0, by omega, rfl, by simpa using World.ownsRow_nil _ _ _ _, Below.refl _ _⟩
  case round =>
    obtain ⟨k, hk, rfl, hown, hb⟩ := hrel
    have HO := Lib.hid hown
    have hzs := hb.size
    clear hown
    by_cases hlt : k < L.length
    · have hlt' : (k : Int) < (L.length : Int) := by omega
      obtain ⟨x, hx⟩ : ∃ x, L[k]? = some x := ⟨_, List.getElem?_eq_getElem hlt⟩
      obtain ⟨b, o, rfl, _, hcs⟩ := Enc.rd_cell (E := eW) (H.out.below (hb.mono hBd)) rfl hx
      obtain ⟨x0, x1⟩ := (show wr.cell? ⟨b, o + k * 2, none⟩ = some (.string x.f) ∧ wr.cell? ⟨b, o + k * 2 + 1, none⟩ = some (.int .i64 x.q) from ⟨hcs 0 _ rfl, hcs 1 _ rfl⟩)
      have HS : Hid (eW.cells (L.take k) ++ eW.c x = eW.cells (L.take (k + 1))) := Lib.hid (by rw [← eW.cells_one x, ← eW.cells_app, List.take_add_one, hx]; rfl)
      have HA := Lib.hid (enc_new eW wr 106 x)
      clear hx hcs
      simp only [eW] at HA
      go_wp2_with (at_builtin; refine wpList_app _ rfl (.tmp 11) (.tmp 16) _ rfl w.heap.size 106 (.agg #[.string ⟨#[]⟩, .int .i64 0]) 2 24 Tryz.underlying45 inf_W rfl (by omega) _ k (eW.cells (L.take k)) rfl (HO.out.alloc _) _ _ 1 (eW.c x) rfl HA.out (eW.one _) ?_ ?_ ?_ ?_)
      · unfold maxLen; omega
      · omega
      · simp; omega
      intro v1 w1 hown1 hg1 _
      have hb1 := (hb.alloc hzs _).grown hg1 (by simp; omega) (fun g hg => (HO.out.lt g hg).1)
      rw [HS.out] at hown1
      have HO1 := Lib.hid hown1
      clear hown1 hg1
      go_wp2
      go_roundw
      case rel => exact ⟨k + 1, by omega, by go_num, HO1.out, hb1⟩
      case measure => simp [intOf]; omega
    · have : k = L.length := by omega
      subst this
      go_wp2
      go_ret
      exact ⟨_, rfl, by simpa using HO.out, hb⟩
set_option maxRecDepth 20000 in
set_option maxHeartbeats 1000000 in
theorem cpF_any (w : World) (v : Value) (L : List Fl) (Bd : Nat) (h : Rd w Bd 6 v L.length (eF.cells L)) (hBd : Bd ≤ w.heap.size) (hn : L.length ≤ 1000000000) :
    Calls Tryz.prog 102 #[v] w fun e w' => ∃ v', e = .returned v' ∧ w'.ownsRow w.heap.size 108 6 v' L.length (eF.cells L) ∧ Below w.heap.size w w' := by
  obtain ⟨ao, cap, rfl, hc, hm⟩ := h.form
  have hm' : cap ≤ 9223372036854775807 := by unfold maxLen at hm; omega
  have H := Lib.hid h
  clear h hm
  go_enter Tryz.func102, Tryz.ntmps102
  go_wp2
  go_loopw [3, 4] (fun v i wr => ∃ k : Nat, k ≤ L.length ∧ i = .int .i64 k ∧ wr.ownsRow w.heap.size 108 6 v k (eF.cells (L.take k)) ∧ Below w.heap.size w wr) (fun _ i _ => L.length - (intOf i).toNat)
  case atStart => exact ⟨0, by omega, rfl, by simpa using World.ownsRow_nil _ _ _ _, Below.refl _ _⟩
  case round =>
    obtain ⟨k, hk, rfl, hown, hb⟩ := hrel
    have HO := Lib.hid hown
    have hzs := hb.size
    clear hown
    by_cases hlt : k < L.length
    · have hlt' : (k : Int) < (L.length : Int) := by omega
      obtain ⟨x, hx⟩ : ∃ x, L[k]? = some x := ⟨_, List.getElem?_eq_getElem hlt⟩
      obtain ⟨b, o, rfl, _, hcs⟩ := Enc.rd_cell (E := eF) (H.out.below (hb.mono hBd)) rfl hx
      obtain ⟨x0, x1, x2, x3, x4, x5⟩ := fl_cells (show World.rangeAt _ b (o + k * 6) (eF.c x) from hcs)
      have HS : Hid (eF.cells (L.take k) ++ eF.c x = eF.cells (L.take (k + 1))) := Lib.hid (by rw [← eF.cells_one x, ← eF.cells_app, List.take_add_one, hx]; rfl)
      have HA := Lib.hid (enc_new eF wr 108 x)
      clear hx hcs
      simp only [eF, flC] at HA
      go_wp2_with (at_builtin; refine wpList_app _ rfl (.tmp 11) (.tmp 16) _ rfl w.heap.size 108 (.agg #[.int .i64 0, .string ⟨#[]⟩, .string ⟨#[]⟩, .int .i64 0, .bool false, .bool false]) 6 64 Tryz.underlying57 inf_F rfl (by omega) _ k (eF.cells (L.take k)) rfl (HO.out.alloc _) _ _ 1 (eF.c x) rfl HA.out (eF.one _) ?_ ?_ ?_ ?_)
      · unfold maxLen; omega
      · omega
      · simp; omega
      intro v1 w1 hown1 hg1 _
      have hb1 := (hb.alloc hzs _).grown hg1 (by simp; omega) (fun g hg => (HO.out.lt g hg).1)
      rw [HS.out] at hown1
      have HO1 := Lib.hid hown1
      clear hown1 hg1
      go_wp2
      go_roundw
      case rel => exact ⟨k + 1, by omega, by go_num, HO1.out, hb1⟩
      case measure => simp [intOf]; omega
    · have : k = L.length := by omega
      subst this
      go_wp2
      go_ret
      exact ⟨_, rfl, by simpa using HO.out, hb⟩
end Go.Proofs.YtknnaeejkmlnbaaGreatDoor
namespace Go.Proofs.YtknnaeejkmlnbaaGreatDoor
open Go.RowKit
set_option maxRecDepth 20000 in
set_option maxHeartbeats 2000000 in
theorem cpO_any (w : World) (v : Value) (o : OB) (h : OR w v o) (hs : o.F.length ≤ 1000000 ∧ o.Q.length ≤ 1000000) :
    Calls Tryz.prog 61 #[v] w fun e w' => ∃ fo fc qo qc, e = .returned (.agg #[.int .i64 o.last, .slice fo o.F.length fc, .slice qo o.Q.length qc]) ∧ w'.ownsRow w.heap.size 108 6 (.slice fo o.F.length fc) o.F.length (eF.cells o.F) ∧ w'.ownsRow w.heap.size 83 4 (.slice qo o.Q.length qc) o.Q.length (eM.cells o.Q) ∧ Below w.heap.size w w' := by
  obtain ⟨last, F, Q⟩ := o
  obtain ⟨fv, qv, rfl, hF, hQ⟩ := h
  obtain ⟨hsF, hsQ⟩ := hs
  simp only at hF hQ hsF hsQ ⊢
  obtain ⟨fo, fc, rfl, _, _⟩ := hF.form
  obtain ⟨qo, qc, rfl, _, _⟩ := hQ.form
  have HCF := Lib.hid (fun (wx : World) (hx : Below w.heap.size w wx) => cpF_any wx _ F _ (hF.below hx) hx.size (by omega))
  have HCQ := Lib.hid (fun (wx : World) (hx : Below w.heap.size w wx) => cpM_any wx _ Q _ (hQ.below hx) hx.size (by omega))
  obtain ⟨B, hB⟩ : ∃ B, w.heap.size = B := ⟨_, rfl⟩
  obtain ⟨w1, hw1⟩ : ∃ w1, ((w.alloc (.cells #[.int .i64 last, .slice fo F.length fc, .slice qo Q.length qc] 59)).alloc (.cells #[.int .i64 0, .slice none 0 0, .slice none 0 0] 59)) = w1 := ⟨_, rfl⟩
  have hb1 : Below w.heap.size w w1 := by rw [← hw1]; go_grown
  have hz1 : w1.heap.size = B + 2 := by rw [← hw1]; simp [hB]
  have hA1 : Whole w1 B 59 [.int .i64 last, .slice fo F.length fc, .slice qo Q.length qc] := by rw [← hw1, ← hB]; exact (Whole.new w 59 _).alloc _
  have hR1 : Whole w1 (B + 1) 59 [.int .i64 0, .slice none 0 0, .slice none 0 0] := by
    rw [← hw1, ← hB]
    have := Whole.new (w.alloc (.cells #[.int .i64 last, .slice fo F.length fc, .slice qo Q.length qc] 59)) 59 [.int .i64 0, .slice none 0 0, .slice none 0 0]
    simpa using this
  obtain ⟨w2, hw2⟩ : ∃ w2, w1.alloc (.cells #[.int .i64 last, .slice fo F.length fc, .slice qo Q.length qc] 59) = w2 := ⟨_, rfl⟩
  have hb2 : Below w.heap.size w w2 := by rw [← hw2]; exact hb1.alloc (by omega) _
  have hz2 : w2.heap.size = B + 3 := by rw [← hw2]; simp [hz1]
  have hA2 : Whole w2 B 59 [.int .i64 last, .slice fo F.length fc, .slice qo Q.length qc] := by rw [← hw2]; exact hA1.alloc _
  have hR2 : Whole w2 (B + 1) 59 [.int .i64 0, .slice none 0 0, .slice none 0 0] := by rw [← hw2]; exact hR1.alloc _
  have hX2 : Whole w2 (B + 2) 59 [.int .i64 last, .slice fo F.length fc, .slice qo Q.length qc] := by
    rw [← hw2, ← hz1]
    exact Whole.new w1 59 _
  obtain ⟨a0, a1, a2, _, _, _⟩ := hA1.three
  have HW1 := Lib.hid hw1
  have HW2 := Lib.hid hw2
  have HZ2 := Lib.hid hz2
  have HBB := Lib.hid hB
  clear hF hQ hw1 hw2 hb1 hA1 hR1
  go_enter Tryz.func61, Tryz.ntmps61
  go_upto_region 1 with fail
  rw [HW1.out]
  go_upto_region 2 with fail
  rw [HW2.out]
  clear a0 a1 a2 hz1 hz2 hB
  obtain ⟨a0, a1, a2, _, _, _⟩ := hA2.three
  obtain ⟨x0, x1, x2, q0, q1, q2⟩ := hX2.three
  go_upto_region 3 with (go_at_call 102; refine (HCF.out _ hb2).mono ?_; rintro e wf ⟨vf, rfl, hf, hbf⟩; obtain ⟨vfo, vfc, rfl, _, _⟩ := (Rd.of_own hf).form; replace x1 := b_cell hbf x1; replace q1 := (hX2.belowH hbf).free 1)
  clear a0 a1 a2 x0 x1 x2 q0 q1 q2
  obtain ⟨w3, hw3⟩ : ∃ w3, wf.setCell ⟨B + 2, 1, none⟩ (.slice vfo F.length vfc) = w3 := ⟨_, rfl⟩
  have hl3 : Left [B + 2] wf w3 := by rw [← hw3]; exact (Left.refl _ wf).setCell (Or.inl (by simp)) _
  have hA3 : Whole w3 B 59 [.int .i64 last, .slice fo F.length fc, .slice qo Q.length qc] := by rw [← hw3]; exact (hA2.belowH hbf).other (by simp) _
  have hR3 : Whole w3 (B + 1) 59 [.int .i64 0, .slice none 0 0, .slice none 0 0] := by rw [← hw3]; exact (hR2.belowH hbf).other (by simp) _
  have hX3 : Whole w3 (B + 2) 59 [.int .i64 last, .slice vfo F.length vfc, .slice qo Q.length qc] := by rw [← hw3]; exact (hX2.belowH hbf).put 1 _
  have hz3 := hbf.size
  have hb3 : Below w.heap.size w w3 := (b_tr hb2 hbf).trans (hl3.belowB (B := w.heap.size) (Nat.le_trans hb2.size hz3) (by simp; have := HBB.out; omega))
  have hf3 := own_left (own_base (base' := B + 3) hf (by have := HZ2.out; omega)) hl3 (by simp)
  rw [hw3]
  clear hw3 hA2 hR2 hX2 hf hbf hb2
  have HF3 := Lib.hid hf3
  clear hf3
  obtain ⟨a0, a1, a2, _, _, _⟩ := hA3.three
  obtain ⟨x0, x1, x2, q0, q1, q2⟩ := hX3.three
  go_upto_region 4 with (go_at_call 18; refine (HCQ.out _ hb3).mono ?_; rintro e wq ⟨vq, rfl, hq, hbq⟩; obtain ⟨vqo, vqc, rfl, _, _⟩ := (Rd.of_own hq).form; replace x2 := b_cell hbq x2; replace q2 := (hX3.belowH hbq).free 2)
  clear a0 a1 a2 x0 x1 x2 q0 q1 q2
  obtain ⟨w4, hw4⟩ : ∃ w4, wq.setCell ⟨B + 2, 2, none⟩ (.slice vqo Q.length vqc) = w4 := ⟨_, rfl⟩
  have hl4 : Left [B + 2] wq w4 := by rw [← hw4]; exact (Left.refl _ wq).setCell (Or.inl (by simp)) _
  have hR4 : Whole w4 (B + 1) 59 [.int .i64 0, .slice none 0 0, .slice none 0 0] := by rw [← hw4]; exact (hR3.belowH hbq).other (by simp) _
  have hX4 : Whole w4 (B + 2) 59 [.int .i64 last, .slice vfo F.length vfc, .slice vqo Q.length vqc] := by rw [← hw4]; exact (hX3.belowH hbq).put 2 _
  have hz4 := hbq.size
  have hz5 := hl3.size
  have hb4 : Below w.heap.size w w4 := (b_tr hb3 hbq).trans (hl4.belowB (B := w.heap.size) (Nat.le_trans hb3.size hz4) (by simp; have := HBB.out; omega))
  have hf4 := own_left (own_below HF3.out hbq) hl4 (by simp)
  have hq4 := own_left (own_base (base' := B + 3) hq (by have := HZ2.out; omega)) hl4 (by simp)
  rw [hw4]
  clear hw4 hA3 hR3 hX3 hq hbq hb3
  have HF4 := Lib.hid hf4
  have HQ4 := Lib.hid hq4
  have HR4 := Lib.hid hR4
  have HB4 := Lib.hid hb4
  obtain ⟨x0, x1, x2, _, _, _⟩ := hX4.three
  obtain ⟨r0, r1, r2, s0, s1, s2⟩ := hR4.three
  have hl5 : Left [B + 1] w4 (((w4.setCell ⟨B + 1, 0, none⟩ (.int .i64 last)).setCell ⟨B + 1, 1, none⟩ (.slice vfo F.length vfc)).setCell ⟨B + 1, 2, none⟩ (.slice vqo Q.length vqc)) := (((Left.refl _ w4).setCell (Or.inl (by simp)) _).setCell (Or.inl (by simp)) _).setCell (Or.inl (by simp)) _
  have HL5 := Lib.hid hl5
  clear hf4 hq4 hR4 hX4 hl5 hb4 hl3 hl4
  go_wp2
  (try simp only [Exit.inBlock, Exit.then])
  refine bodyPost_ret (results_cell_row (P := Tryz.prog) (p := 2) (ty := 59) rfl _ _ (B + 1) 59 _ (0, 0) _ rfl (((HR4.out.put 0 _).put 1 _).put 2 _) Tryz.underlying59 rfl (by kernel_rfl)) rfl ?_
  have hbb := HBB.out
  exact ⟨_, _, _, _, rfl, own_base (own_left HF4.out HL5.out (by simp)) (by omega), own_base (own_left HQ4.out HL5.out (by simp)) (by omega), HB4.out.trans (HL5.out.belowB (B := w.heap.size) HB4.out.size (by simp; omega))⟩
def zS : List Value := [.string ⟨#[]⟩, .bool false, .int .i64 0, .slice none 0 0, .int .i64 0, .slice none 0 0, .slice none 0 0, .slice none 0 0, .bool false, .string ⟨#[]⟩, .string ⟨#[]⟩, .int .i64 0, .bool false, .int .i64 0, .int .i64 0]
set_option maxRecDepth 20000 in
set_option maxHeartbeats 8000000 in
theorem cpS_any (w : World) (r : Rs) (h : SRd w w.heap.size r) (hs : r.s.S.length ≤ 1000000 ∧ r.s.o.F.length ≤ 1000000 ∧ r.s.o.Q.length ≤ 1000000 ∧ r.s.I.length ≤ 1000000) :
    Calls Tryz.prog 31 #[seV r] w fun e w' => ∃ r' : Rs, r'.s = r.s ∧ e = .returned (seV r') ∧ SOwn w' w.heap.size 0 r' ∧ Below w.heap.size w w' := by
  obtain ⟨hs1, hs2, hs3, hs4⟩ := hs
  have HCW := Lib.hid (fun (wx : World) (hx : Below w.heap.size w wx) => cpW_any wx _ r.s.S _ (h.s.below hx) hx.size (by omega))
  have HCI := Lib.hid (fun (wx : World) (hx : Below w.heap.size w wx) => cpI_any wx _ r.s.I _ (h.i.below hx) hx.size (by omega))
  have HCO := Lib.hid (fun (wx : World) (hx : Below w.heap.size w wx) => cpO_any wx (.agg #[.int .i64 r.s.o.last, .slice r.fa r.s.o.F.length r.fc, .slice r.qa r.s.o.Q.length r.qc]) r.s.o ⟨_, _, rfl, ((h.f.below hx).more hx.size), ((h.q.below hx).more hx.size)⟩ ⟨hs2, hs3⟩)
  obtain ⟨B, hB⟩ : ∃ B, w.heap.size = B := ⟨_, rfl⟩
  obtain ⟨w1, hw1⟩ : ∃ w1, ((w.alloc (.cells (seC r).toArray 61)).alloc (.cells zS.toArray 61)) = w1 := ⟨_, rfl⟩
  have hb1 : Below w.heap.size w w1 := by rw [← hw1]; exact ((Below.refl _ _).alloc (Nat.le_refl _) _).alloc (by simp) _
  have hz1 : w1.heap.size = B + 2 := by rw [← hw1]; simp [hB]
  have hA1 : Whole w1 B 61 (seC r) := by rw [← hw1, ← hB]; exact (Whole.new w 61 _).alloc _
  have hR1 : Whole w1 (B + 1) 61 zS := by
    rw [← hw1, ← hB]
    have := Whole.new (w.alloc (.cells (seC r).toArray 61)) 61 zS
    simpa using this
  obtain ⟨w2, hw2⟩ : ∃ w2, w1.alloc (.cells (seC r).toArray 61) = w2 := ⟨_, rfl⟩
  have hb2 : Below w.heap.size w w2 := by rw [← hw2]; exact hb1.alloc (by omega) _
  have hz2 : w2.heap.size = B + 3 := by rw [← hw2]; simp [hz1]
  have hA2 : Whole w2 B 61 (seC r) := by rw [← hw2]; exact hA1.alloc _
  have hR2 : Whole w2 (B + 1) 61 zS := by rw [← hw2]; exact hR1.alloc _
  have hX2 : Whole w2 (B + 2) 61 (seC r) := by
    rw [← hw2, ← hz1]
    exact Whole.new w1 61 _
  have HA1 := Lib.hid hA1
  simp only [seC, zS] at hw1 hw2
  have HW1 := Lib.hid hw1
  have HW2 := Lib.hid hw2
  have HZ2 := Lib.hid hz2
  have HBB := Lib.hid hB
  clear h hw1 hw2 hb1 hA1 hR1
  unfold seV
  go_enter Tryz.func31, Tryz.ntmps31
  go_upto_region 1 with fail
  rw [HW1.out]
  obtain ⟨a0, a1, a2, a3, a4, a5, a6, a7, a8, a9, a10, a11, a12, a13, a14⟩ := ses_whole HA1.out
  go_upto_region 2 with fail
  rw [HW2.out]
  clear a0 a1 a2 a3 a4 a5 a6 a7 a8 a9 a10 a11 a12 a13 a14
  clear hz1 hz2 hB HA1
  obtain ⟨a0, a1, a2, a3, a4, a5, a6, a7, a8, a9, a10, a11, a12, a13, a14⟩ := ses_whole hA2
  obtain ⟨x0, x1, x2, x3, x4, x5, x6, x7, x8, x9, x10, x11, x12, x13, x14⟩ := ses_whole hX2
  go_upto_region 3 with (go_at_call 60; refine (HCW.out _ hb2).mono ?_; rintro e wf ⟨vf, rfl, hf, hbf⟩; obtain ⟨vfo, vfc, rfl, _, _⟩ := (Rd.of_own hf).form; replace x3 := b_cell hbf x3; have q3 := (hX2.belowH hbf).free 3)
  clear a0 a1 a2 a3 a4 a5 a6 a7 a8 a9 a10 a11 a12 a13 a14
  clear x0 x1 x2 x3 x4 x5 x6 x7 x8 x9 x10 x11 x12 x13 x14
  clear q3
  obtain ⟨w3, hw3⟩ : ∃ w3, wf.setCell ⟨B + 2, 3, none⟩ (.slice vfo r.s.S.length vfc) = w3 := ⟨_, rfl⟩
  have hl3 : Left [B + 2] wf w3 := by rw [← hw3]; exact (Left.refl _ wf).setCell (Or.inl (by simp)) _
  have hA3 : Whole w3 B 61 (seC r) := by rw [← hw3]; exact (hA2.belowH hbf).other (by simp) _
  have hR3 : Whole w3 (B + 1) 61 zS := by rw [← hw3]; exact (hR2.belowH hbf).other (by simp) _
  have hX3 : Whole w3 (B + 2) 61 (seC ⟨r.s, vfo, vfc, r.fa, r.fc, r.qa, r.qc, r.ia, r.ic⟩) := by rw [← hw3]; exact (hX2.belowH hbf).put 3 _
  have hz3 := hbf.size
  have hb3 : Below w.heap.size w w3 := (b_tr hb2 hbf).trans (hl3.belowB (B := w.heap.size) (Nat.le_trans hb2.size hz3) (by simp; have := HBB.out; omega))
  have hf3 := own_left (own_base (base' := B + 3) hf (by have := HZ2.out; omega)) hl3 (by simp)
  rw [hw3]
  clear hw3 hA2 hR2 hX2 hf hbf hb2
  have HS3 := Lib.hid hf3
  clear hf3
  obtain ⟨a0, a1, a2, a3, a4, a5, a6, a7, a8, a9, a10, a11, a12, a13, a14⟩ := ses_whole hA3
  obtain ⟨x0, x1, x2, x3, x4, x5, x6, x7, x8, x9, x10, x11, x12, x13, x14⟩ := ses_whole hX3
  go_upto_region 4 with (go_at_call 61; refine (HCO.out _ hb3).mono ?_; rintro e wo ⟨vfa, vfk, vqa, vqk, rfl, hof, hoq, hbo⟩; replace x4 := b_cell hbo x4; replace x5 := b_cell hbo x5; replace x6 := b_cell hbo x6; have q4 := (hX3.belowH hbo).free 4; have q5 := (hX3.belowH hbo).free 5; have q6 := (hX3.belowH hbo).free 6)
  clear a0 a1 a2 a3 a4 a5 a6 a7 a8 a9 a10 a11 a12 a13 a14
  clear x0 x1 x2 x3 x4 x5 x6 x7 x8 x9 x10 x11 x12 x13 x14
  clear q4 q5 q6
  obtain ⟨w4, hw4⟩ : ∃ w4, ((wo.setCell ⟨B + 2, 4, none⟩ (.int .i64 r.s.o.last)).setCell ⟨B + 2, 5, none⟩ (.slice vfa r.s.o.F.length vfk)).setCell ⟨B + 2, 6, none⟩ (.slice vqa r.s.o.Q.length vqk) = w4 := ⟨_, rfl⟩
  have hl4 : Left [B + 2] wo w4 := by rw [← hw4]; exact (((Left.refl _ wo).setCell (Or.inl (by simp)) _).setCell (Or.inl (by simp)) _).setCell (Or.inl (by simp)) _
  have hA4 : Whole w4 B 61 (seC r) := by rw [← hw4]; exact (((hA3.belowH hbo).other (by simp) _).other (by simp) _).other (by simp) _
  have hR4 : Whole w4 (B + 1) 61 zS := by rw [← hw4]; exact (((hR3.belowH hbo).other (by simp) _).other (by simp) _).other (by simp) _
  have hX4 : Whole w4 (B + 2) 61 (seC ⟨r.s, vfo, vfc, vfa, vfk, vqa, vqk, r.ia, r.ic⟩) := by rw [← hw4]; exact (((hX3.belowH hbo).put 4 _).put 5 _).put 6 _
  have hz4 := hbo.size
  have hz5 := hl3.size
  have hb4 : Below w.heap.size w w4 := (b_tr hb3 hbo).trans (hl4.belowB (B := w.heap.size) (Nat.le_trans hb3.size hz4) (by simp; have := HBB.out; omega))
  have HS4 := Lib.hid (own_left (own_below HS3.out hbo) hl4 (by simp))
  have HF4 := Lib.hid (own_left (own_base (base' := B + 3) hof (by have := HZ2.out; omega)) hl4 (by simp))
  have HQ4 := Lib.hid (own_left (own_base (base' := B + 3) hoq (by have := HZ2.out; omega)) hl4 (by simp))
  rw [hw4]
  clear hw4 hA3 hR3 hX3 hof hoq hbo hb3 HS3
  obtain ⟨a0, a1, a2, a3, a4, a5, a6, a7, a8, a9, a10, a11, a12, a13, a14⟩ := ses_whole hA4
  obtain ⟨x0, x1, x2, x3, x4, x5, x6, x7, x8, x9, x10, x11, x12, x13, x14⟩ := ses_whole hX4
  go_upto_region 5 with (go_at_call 16; refine (HCI.out _ hb4).mono ?_; rintro e wi ⟨vi, rfl, hi, hbi⟩; obtain ⟨vio, vic, rfl, _, _⟩ := (Rd.of_own hi).form; replace x7 := b_cell hbi x7; have q7 := (hX4.belowH hbi).free 7)
  clear a0 a1 a2 a3 a4 a5 a6 a7 a8 a9 a10 a11 a12 a13 a14
  clear x0 x1 x2 x3 x4 x5 x6 x7 x8 x9 x10 x11 x12 x13 x14
  clear q7
  obtain ⟨w5, hw5⟩ : ∃ w5, wi.setCell ⟨B + 2, 7, none⟩ (.slice vio r.s.I.length vic) = w5 := ⟨_, rfl⟩
  have hl5 : Left [B + 2] wi w5 := by rw [← hw5]; exact (Left.refl _ wi).setCell (Or.inl (by simp)) _
  have hR5 : Whole w5 (B + 1) 61 zS := by rw [← hw5]; exact (hR4.belowH hbi).other (by simp) _
  obtain ⟨r2, hr2⟩ : ∃ r2 : Rs, (⟨r.s, vfo, vfc, vfa, vfk, vqa, vqk, vio, vic⟩ : Rs) = r2 := ⟨_, rfl⟩
  have hX5 : Whole w5 (B + 2) 61 (seC ⟨r.s, vfo, vfc, vfa, vfk, vqa, vqk, vio, vic⟩) := by rw [← hw5]; exact (hX4.belowH hbi).put 7 _
  have hz6 := hbi.size
  have hz7 := hl4.size
  have hb5 : Below w.heap.size w w5 := (b_tr hb4 hbi).trans (hl5.belowB (B := w.heap.size) (Nat.le_trans hb4.size hz6) (by simp; have := HBB.out; omega))
  have HS5 := Lib.hid (own_left (own_below HS4.out hbi) hl5 (by simp))
  have HF5 := Lib.hid (own_left (own_below HF4.out hbi) hl5 (by simp))
  have HQ5 := Lib.hid (own_left (own_below HQ4.out hbi) hl5 (by simp))
  have HI5 := Lib.hid (own_left (own_base (base' := B + 3) hi (by have := HZ2.out; omega)) hl5 (by simp))
  rw [hw5]
  clear hw5 hA4 hR4 hX4 hi hbi hb4 HS4 HF4 HQ4
  obtain ⟨x0, x1, x2, x3, x4, x5, x6, x7, x8, x9, x10, x11, x12, x13, x14⟩ := ses_whole hX5
  dsimp only at x0 x1 x2 x3 x4 x5 x6 x7 x8 x9 x10 x11 x12 x13 x14
  obtain ⟨ks, hks⟩ : ∃ ks, ks = seC ⟨r.s, vfo, vfc, vfa, vfk, vqa, vqk, vio, vic⟩ := ⟨_, rfl⟩
  have h1 : ∀ u ∈ ks, u.oneCell' = true := by
    rw [hks]
    exact eS.one ⟨r.s, vfo, vfc, vfa, vfk, vqa, vqk, vio, vic⟩
  have hzl : zS.length = ks.length := by rw [hks]; rfl
  obtain ⟨hW3, hl6⟩ := hR5.setAll hzl
  have hth := hR5.there
  rw [hzl] at hth
  have HW3 := Lib.hid hW3
  have HL6 := Lib.hid hl6
  have HTH := Lib.hid hth
  have HKS := Lib.hid hks
  have H1 := Lib.hid h1
  have HB5 := Lib.hid hb5
  clear hzl hW3 hl6 hth h1 hR5 hX5 hb5 hr2
  simp only [seC] at hks
  go_wp2_with (refine wpList_store_mid rfl _ _ _ rfl (B + 1) 0 ks.toArray rfl (by rw [hks]; rfl) (by simpa using HTH.out) (by rw [hks]; kernel_rfl) (all_oneCell_toArray H1.out) ?_)
  clear hks
  (try simp only [Exit.inBlock, Exit.then])
  refine bodyPost_ret (results_cell_row (P := Tryz.prog) (p := 2) (ty := 61) rfl _ _ (B + 1) 61 ks.toArray (0, 0) _ rfl HW3.out Tryz.underlying61 rfl (by rw [HKS.out]; kernel_rfl)) rfl ?_
  have hbb := HBB.out
  refine ⟨⟨r.s, vfo, vfc, vfa, vfk, vqa, vqk, vio, vic⟩, rfl, by rw [HKS.out]; rfl, ⟨?_, ?_, ?_, ?_⟩, HB5.out.trans (HL6.out.belowB (B := w.heap.size) HB5.out.size (by simp; omega))⟩
  · exact own_base (own_left HS5.out HL6.out (by simp)) (by omega)
  · exact own_base (own_left HF5.out HL6.out (by simp)) (by omega)
  · exact own_base (own_left HQ5.out HL6.out (by simp)) (by omega)
  · exact own_base (own_left HI5.out HL6.out (by simp)) (by omega)
end Go.Proofs.YtknnaeejkmlnbaaGreatDoor
