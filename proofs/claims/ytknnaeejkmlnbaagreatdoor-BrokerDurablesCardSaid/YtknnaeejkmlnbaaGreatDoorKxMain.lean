/- Parts of my evaluator, one behind the other: KxCode KxDraw1 KxDraw2 KxDraw3 KxDraw4 KxRun KxMain. -/
import Derived.Test.YtknnaeejkmlnbaaGreatDoorKxOp
import Derived.Scope
import Derived.OrdersHeld
import Derived.Below
import Derived.WideShapes
/- The evaluator's code: what it reckons the model's code does. -/
namespace Go.Proofs.YtknnaeejkmlnbaaGreatDoor.Kx

/-- As the model says how code is left. -/
def exitOf : XE → Exit
  | .normal => .normal
  | .exit id => .exit id
  | .goto l => .goto l
  | .ret => .ret
/-- The temporaries. -/
structure TR (g : G) (a : Tm) (n : Nat) (A : Act) : Prop where
  size : n ≤ A.tmps.size
  val : ∀ t, VR g (tmD (a.get t)) (A.tmps.getD t undef)
  dn : A.defers = []
theorem TR.mono {g g' : G} {a : Tm} {n : Nat} {A : Act} (h : TR g a n A) (hl : g.le g') : TR g' a n A := ⟨h.size, fun t => (h.val t).mono hl, h.dn⟩
theorem TR.put {g : G} {a : Tm} {n : Nat} {A : Act} (h : TR g a n A) {d : Option Tmp} (hd : dstOk n d = true) {v : AV} {v' : Value} (hv : VR g v v') : TR g (putD d v a) n (A.put d v') := by
  cases d with
  | none => exact h
  | some d =>
    have hd : d < n := by simpa [dstOk, Nat.blt_eq] using hd
    refine ⟨by simp [Act.put]; exact h.size, fun t => ?_, h.dn⟩
    show VR g (tmD ((a.set d v).get t)) ((A.tmps.setIfInBounds d v').getD t undef)
    rw [get_set]
    by_cases e : d = t
    · subst e
      rw [if_pos rfl]
      have : d < A.tmps.size := Nat.lt_of_lt_of_le hd h.size
      simp [Array.getD, this, tmD]
      exact hv
    · rw [if_neg e]
      have := h.val t
      simp only [Array.getD_eq_getD_getElem?, Array.getElem?_setIfInBounds_ne e]
      simpa [Array.getD_eq_getD_getElem?] using this
theorem TR.ev {g : G} {a : Tm} {n : Nat} {A : Act} (h : TR g a n A) (x : Operand) : VR g (ev x a) (A.eval x) := by
  cases x with
  | tmp t => exact h.val t
  | const v => exact ofV_VR g v
  | global i => exact .any _
  | func f => exact .fn (.func f) [] [] [] [] .nil .nil

def LoopWp (P : Program) (c : Code) (Q : Exit → Act → World → Prop) (A : Act) (w : World) : Prop :=
  ∀ (b : Frame) (k : List Item) (cs : List Frame), ∃ e a' w', Q e a' w' ∧ Arrives P (lone (b.at A (.code c :: .inLoop c :: k)) cs w) b k cs e a' w'
def ScopeWp (P : Program) (s c : Code) (Q : Exit → Act → World → Prop) (A : Act) (w : World) : Prop :=
  ∀ (b : Frame) (k : List Item) (cs : List Frame), ∃ e a' w', Q e a' w' ∧ Arrives P (lone (b.at A (.code c :: .inScope s :: k)) cs w) b k cs e a' w'
def CW (P : Program) : Code → (Exit → Act → World → Prop) → Act → World → Prop
  | .loop c, Q, A, w => LoopWp P c Q A w
  | c, Q, A, w => c.wp P Q A w
section
variable {P : Program} {Q : Exit → Act → World → Prop} {A : Act} {w : World}
theorem CW.wp {c : Code} (h : CW P c Q A w) : c.wp P Q A w := by
  cases c <;> first | exact h | skip
  intro b k cs
  obtain ⟨e, a', w', q, r⟩ := h b k cs
  exact ⟨e, a', w', q, .of_steps (.one step_loop) r⟩
theorem LoopWp.round {c : Code} (h : c.wp P (Exit.then (fun a w => LoopWp P c Q a w) Q) A w) : LoopWp P c Q A w := by
  intro b k cs
  obtain ⟨e, a₁, w₁, hq, harr⟩ := h b (.inLoop c :: k) cs
  cases e with
  | normal =>
    obtain ⟨e₂, a₂, w₂, hq₂, harr₂⟩ := hq b k cs
    exact ⟨e₂, a₂, w₂, hq₂, .of_steps (Steps.trans harr (.one step_inLoop)) harr₂⟩
  | exit id => exact ⟨_, a₁, w₁, hq, .pass (x := .inLoop c) rfl (fun _ _ => .inl (by simp)) harr⟩
  | goto l => exact ⟨_, a₁, w₁, hq, .pass (x := .inLoop c) rfl (fun _ _ => .inl (by simp)) harr⟩
  | ret => exact ⟨_, a₁, w₁, hq, .pass (x := .inLoop c) rfl (fun _ _ => .inl (by simp)) harr⟩
  | panic ch => exact ⟨_, a₁, w₁, hq, .pass (x := .inLoop c) rfl (fun _ _ => .inl (by simp)) harr⟩
  | outgrown => exact ⟨_, a₁, w₁, hq, .pass (x := .inLoop c) rfl (fun _ _ => .inl (by simp)) harr⟩
/-- As Q; but by a goto into the scope it goes on there. -/
def ScopeQ (P : Program) (s : Code) (Q : Exit → Act → World → Prop) : Exit → Act → World → Prop
  | .goto l, a, w => match findLabel s l with
    | some rest => ScopeWp P s rest Q a w
    | none => Q (.goto l) a w
  | e, a, w => Q e a w
theorem ScopeWp.round {s c : Code} (h : c.wp P (ScopeQ P s Q) A w) : ScopeWp P s c Q A w := by
  intro b k cs
  obtain ⟨e, a₁, w₁, hq, harr⟩ := h b (.inScope s :: k) cs
  cases e with
  | normal => exact ⟨.normal, a₁, w₁, hq, Steps.trans harr (.one step_inScope)⟩
  | exit id => exact ⟨.exit id, a₁, w₁, hq, fun k' hk => harr k' (by simp [exitTo, hk])⟩
  | goto l =>
    simp only [ScopeQ] at hq
    cases hf : findLabel s l with
    | none =>
      rw [hf] at hq
      exact ⟨.goto l, a₁, w₁, hq, fun k' hk => harr k' (by simp [gotoIn, hf, hk])⟩
    | some rest =>
      rw [hf] at hq
      obtain ⟨e₂, a₂, w₂, hq₂, harr₂⟩ := hq b k cs
      exact ⟨e₂, a₂, w₂, hq₂, .of_steps (harr _ (by simp [gotoIn, hf])) harr₂⟩
  | ret => exact ⟨_, a₁, w₁, hq, harr⟩
  | panic ch => exact ⟨_, a₁, w₁, hq, harr⟩
  | outgrown => exact ⟨_, a₁, w₁, hq, harr⟩
theorem ScopeWp.scope {c : Code} (h : ScopeWp P c c Q A w) : (Code.scope c).wp P Q A w := by
  intro b k cs
  obtain ⟨e, a', w', q, r⟩ := h b k cs
  exact ⟨e, a', w', q, .of_steps (.one step_scope) r⟩
end
theorem codeOk_label {n : Nat} : ∀ {c : Code} {l : Nat} {r : Code}, codeOk n c = true → findLabel c l = some r → codeOk n r = true
  | .seq a b, l, r, h, hf => by
    have h : bi (codeOk n a) (codeOk n b) false = true := h
    cases ha : codeOk n a
    · rw [ha] at h; cases h
    · rw [ha, bi_true] at h
      rw [findLabel] at hf
      cases hfa : findLabel a l with
      | none => rw [hfa] at hf; exact codeOk_label h hf
      | some x =>
        rw [hfa] at hf
        injection hf with hf
        subst hf
        show bi (codeOk n x) (codeOk n b) false = true
        rw [codeOk_label ha hfa, h]
        rfl
  | .label l', l, r, _, hf => by
    rw [findLabel] at hf
    split at hf
    · injection hf with hf; subst hf; rfl
    · cases hf
  | .skip, _, _, _, hf => by simp [findLabel] at hf
  | .region .., _, _, _, hf => by simp [findLabel] at hf
  | .cond .., _, _, _, hf => by simp [findLabel] at hf
  | .block .., _, _, _, hf => by simp [findLabel] at hf
  | .loop .., _, _, _, hf => by simp [findLabel] at hf
  | .rangeFunc .., _, _, _, hf => by simp [findLabel] at hf
  | .exit .., _, _, _, hf => by simp [findLabel] at hf
  | .scope .., _, _, _, hf => by simp [findLabel] at hf
  | .goto .., _, _, _, hf => by simp [findLabel] at hf
  | .ret, _, _, _, hf => by simp [findLabel] at hf
  | .refuse .., _, _, _, hf => by simp [findLabel] at hf
end Go.Proofs.YtknnaeejkmlnbaaGreatDoor.Kx

/- Regions whose order is drawn: what waits for what, as bits; values that are alike; which operations only reckon, only read, only lay a new block. -/
namespace Go.Proofs.YtknnaeejkmlnbaaGreatDoor.Kx

/-! Bits. -/
theorem bit_test (k j : Nat) : (Nat.shiftLeft 1 k).testBit j = decide (k = j) := by
  show (1 <<< k).testBit j = _
  rw [Nat.one_shiftLeft, Nat.testBit_two_pow]
theorem hasB_true {b k : Nat} (h : hasB b (Nat.shiftLeft 1 k) = true) : b.testBit k = true := by
  cases hb : b.testBit k with
  | true => rfl
  | false =>
    exfalso
    have : Nat.land b (Nat.shiftLeft 1 k) = 0 := by
      apply Nat.eq_of_testBit_eq
      intro j
      show (b &&& Nat.shiftLeft 1 k).testBit j = _
      rw [Nat.testBit_and, bit_test]
      by_cases e : k = j
      · subst e; simp [hb]
      · simp [e]
    unfold hasB at h
    rw [this] at h
    cases h
theorem lor_test (x y j : Nat) : (Nat.lor x y).testBit j = (x.testBit j || y.testBit j) := Nat.testBit_or x y j
theorem land_sub {m L : Nat} (h : Nat.beq (Nat.land m L) m = true) {k : Nat} (hk : m.testBit k = true) : L.testBit k = true := by
  have h := Nat.eq_of_beq_eq_true h
  have : (m &&& L).testBit k = true := by rw [show m &&& L = m from h]; exact hk
  rw [Nat.testBit_and] at this
  cases hl : L.testBit k
  · rw [hl] at this; simp at this
  · rfl
theorem edgeB_eq (e : Edge) : edgeB e.ground = Region.binds .any e := by
  cases e with | mk on gr => cases gr <;> rfl
theorem wL_test (l : List Edge) (k : Nat) : (wL l).testBit k = true ↔ ∃ e ∈ l, Region.binds .any e = true ∧ e.on = k := by
  induction l with
  | nil => constructor
           · intro h; replace h : (0 : Nat).testBit k = true := h; simp at h
           · rintro ⟨e, he, _⟩; cases he
  | cons e r ih =>
    show (bi (edgeB e.ground) (Nat.lor (Nat.shiftLeft 1 e.on) (wL r)) (wL r)).testBit k = true ↔ _
    rw [edgeB_eq]
    cases hb : Region.binds .any e
    · rw [bi_false, ih]
      constructor
      · rintro ⟨e', h1, h2⟩; exact ⟨e', .tail _ h1, h2⟩
      · rintro ⟨e', h1, h2⟩
        cases h1 with
        | head => rw [hb] at h2; cases h2.1
        | tail _ h1 => exact ⟨e', h1, h2⟩
    · rw [bi_true, lor_test, bit_test]
      constructor
      · intro h
        by_cases e1 : e.on = k
        · exact ⟨e, .head _, hb, e1⟩
        · simp [e1] at h
          obtain ⟨e', h1, h2⟩ := ih.1 h
          exact ⟨e', .tail _ h1, h2⟩
      · rintro ⟨e', h1, h2⟩
        cases h1 with
        | head => simp [h2.2]
        | tail _ h1 => rw [ih.2 ⟨e', h1, h2⟩]; simp
theorem clL_test (bs : T Nat) (l : List Edge) (k : Nat) (h : (clL bs l).testBit k = true) : ∃ e ∈ l, Region.binds .any e = true ∧ ∃ b, bs.get e.on = some b ∧ b.testBit k = true := by
  induction l with
  | nil => replace h : (0 : Nat).testBit k = true := h; simp at h
  | cons e r ih =>
    replace h : (bi (edgeB e.ground) (Nat.lor (oc 0 (fun n => n) (bs.get e.on)) (clL bs r)) (clL bs r)).testBit k = true := h
    rw [edgeB_eq] at h
    cases hb : Region.binds .any e
    · rw [hb, bi_false] at h
      obtain ⟨e', h1, h2⟩ := ih h
      exact ⟨e', .tail _ h1, h2⟩
    · rw [hb, bi_true, lor_test] at h
      cases h1 : (clL bs r).testBit k
      · rw [h1, Bool.or_false] at h
        cases hg : bs.get e.on with
        | none => rw [hg] at h; replace h : (0 : Nat).testBit k = true := h; simp at h
        | some b => rw [hg] at h; exact ⟨e, .head _, hb, b, hg, h⟩
      · obtain ⟨e', h2, h3⟩ := ih h1
        exact ⟨e', .tail _ h2, h3⟩

/-! What is ahead of what. -/
def Closed (ops : Array Oper) (D : Nat → Prop) : Prop := ∀ i o, ops[i]? = some o → D i → ∀ e ∈ o.after, Region.binds .any e = true → D e.on
structure XOk (ops : Array Oper) (x : OX) : Prop where
  op : ops[x.i]? = some x.o
  bit : x.bit = Nat.shiftLeft 1 x.i
  m : ∀ k, x.m.testBit k = true ↔ ∃ e ∈ x.o.after, Region.binds .any e = true ∧ e.on = k
  b : ∀ D : Nat → Prop, Closed ops D → D x.i → ∀ k, x.b.testBit k = true → D k
theorem prepL_ok (ops : Array Oper) : ∀ (l : List Oper) (i : Nat) (bs : T Nat), (∀ k o, l[k]? = some o → ops[i + k]? = some o) → (∀ j b, bs.get j = some b → ∀ D : Nat → Prop, Closed ops D → D j → ∀ k, b.testBit k = true → D k) →
    (∀ x ∈ prepL l i bs, XOk ops x ∧ i ≤ x.i) ∧ (∀ k, k < l.length → ∃ x ∈ prepL l i bs, x.i = i + k) ∧ ((prepL l i bs).map OX.i).Nodup := by
  intro l
  induction l with
  | nil => intro i bs _ _; exact ⟨fun x hx => (by cases hx), fun k hk => (by simp at hk), (by show ([] : List Nat).Nodup; simp)⟩
  | cons o r ih =>
    intro i bs hl hbs
    have e : prepL (o :: r) i bs = OX.mk i (Nat.shiftLeft 1 i) (wL o.after.toList) (Nat.lor (wL o.after.toList) (clL bs o.after.toList)) o :: prepL r (i + 1) (bs.set i (Nat.lor (wL o.after.toList) (clL bs o.after.toList))) := by
      show (nF i fun i => nF (wL o.after.toList) fun m => nF (Nat.lor m (clL bs o.after.toList)) fun b => nF (Nat.shiftLeft 1 i) fun bit => OX.mk i bit m b o :: prepL r (Nat.succ i) (bs.set i b)) = _
      simp only [nF_eq]
    rw [e]
    have ho : ops[i]? = some o := by have := hl 0 o rfl; simpa using this
    have hb : ∀ D : Nat → Prop, Closed ops D → D i → ∀ k, (Nat.lor (wL o.after.toList) (clL bs o.after.toList)).testBit k = true → D k := by
      intro D hD hi k hk
      rw [lor_test] at hk
      cases h1 : (wL o.after.toList).testBit k
      · rw [h1, Bool.false_or] at hk
        obtain ⟨e, he, hbi, b, hg, hbk⟩ := clL_test _ _ _ hk
        exact hbs _ _ hg D hD (hD i o ho hi e (by simpa using he) hbi) k hbk
      · obtain ⟨e, he, hbi, rfl⟩ := (wL_test _ _).1 h1
        exact hD i o ho hi e (by simpa using he) hbi
    obtain ⟨h1, h2, h3⟩ := ih (i + 1) (bs.set i (Nat.lor (wL o.after.toList) (clL bs o.after.toList))) (fun k o' hk => by have := hl (k + 1) o' (by simpa using hk); rw [show i + 1 + k = i + (k + 1) by omega]; exact this) (fun j b hj => by
      rw [get_set] at hj
      by_cases e : i = j
      · subst e
        rw [if_pos rfl] at hj
        injection hj with hj
        subst hj
        exact hb
      · rw [if_neg e] at hj; exact hbs j b hj)
    refine ⟨fun x hx => ?_, fun k hk => ?_, ?_⟩
    · cases hx with
      | head => exact ⟨⟨ho, rfl, fun k => by rw [wL_test]; simp, hb⟩, Nat.le_refl _⟩
      | tail _ hx => exact ⟨(h1 x hx).1, by have := (h1 x hx).2; omega⟩
    · cases k with
      | zero => exact ⟨_, .head _, rfl⟩
      | succ k =>
        obtain ⟨x, hx, hxi⟩ := h2 k (by simpa using hk)
        exact ⟨x, .tail _ hx, by omega⟩
    · rw [List.map_cons, List.nodup_cons]
      refine ⟨fun hm => ?_, h3⟩
      obtain ⟨x, hx, hxi⟩ := List.mem_map.1 hm
      have := (h1 x hx).2
      replace hxi : x.i = i := hxi
      omega
theorem prep_ok (ops : Array Oper) : (∀ x ∈ prep ops, XOk ops x) ∧ (∀ k o, ops[k]? = some o → ∃ x ∈ prep ops, x.i = k) ∧ ((prep ops).map OX.i).Nodup := by
  obtain ⟨h1, h2, h3⟩ := prepL_ok ops ops.toList 0 .e (fun k o hk => by simpa using hk) (fun j b hj => by simp at hj)
  refine ⟨fun x hx => (h1 x hx).1, fun k o hk => ?_, h3⟩
  have : k < ops.size := (Array.getElem?_eq_some_iff.1 hk).1
  obtain ⟨x, hx, hxi⟩ := h2 k (by simpa using this)
  exact ⟨x, hx, by omega⟩

/-! What was looked at of a region once. -/
theorem allL_mem {α : Type} {p : α → Bool} {l : List α} (h : allL p l = true) : ∀ x ∈ l, p x = true := by
  induction l with
  | nil => intro x hx; cases hx
  | cons a r ih =>
    replace h : bi (p a) (allL p r) false = true := h
    cases ha : p a
    · rw [ha] at h; cases h
    · rw [ha, bi_true] at h
      intro x hx
      cases hx with
      | head => exact ha
      | tail _ hx => exact ih h x hx
theorem tmL_mem (l : List Operand) (t : Nat) (h : Operand.tmp t ∈ l) : t ∈ tmL l := by
  induction l with
  | nil => cases h
  | cons x r ih =>
    cases h with
    | head => exact .head _
    | tail _ h =>
      have := ih h
      cases x <;> first | exact .tail _ this | exact this
/-- Which temporaries an operation looks at. -/
def Looks (ops : Array Oper) (o : Oper) (t : Nat) : Prop := (Operand.tmp t ∈ o.op.operands) ∨ ∃ p q, o.guard = some p ∧ ops[p.1]? = some q ∧ q.dst = some t
theorem looks_mem {ops : Array Oper} {o : Oper} {t : Nat} (h : Looks ops o t) : t ∈ looksL ops o := by
  unfold looksL
  rw [app_eq, List.mem_append]
  rcases h with h | ⟨p, q, h1, h2, h3⟩
  · exact .inr (tmL_mem _ _ (by simpa using h))
  · left
    unfold gdL
    rw [h1]
    simp only [oc_some, idx_eq]
    have h2 : ops.toList[p.1]? = some q := by simpa using h2
    rw [h2]
    simp [h3]
structure Once (ops : Array Oper) : Prop where
  back : ∀ i o, ops[i]? = some o → ∀ e ∈ o.after, Region.binds .any e = true → e.on < i
  one : ∀ (i j : Nat) (x y : Oper) (t : Nat), ops[i]? = some x → ops[j]? = some y → x.dst = some t → y.dst = some t → i = j
  sees : ∀ (i j : Nat) (x y : Oper) (t : Nat), ops[i]? = some x → ops[j]? = some y → Looks ops y t → x.dst = some t → i ≠ j → (∀ D, Closed ops D → D j → D i) ∨ (∀ D, Closed ops D → D i → D j)
theorem dstIs_some (t : Nat) : dstIs t (some t) = true := by unfold dstIs; simp
theorem bi3 {c d : Bool} (h : bi c d false = true) : c = true ∧ d = true := by cases c <;> simp at h ⊢; exact h
theorem drawOk_once {ops : Array Oper} (h : drawOk ops = true) : Once ops := by
  obtain ⟨hx, hall, _⟩ := prep_ok ops
  have h := allL_mem (show allL _ (prep ops) = true from h)
  refine ⟨fun i o ho e he hb => ?_, fun i j x y t hi hj hxt hyt => ?_, fun i j x y t hi hj hl hxt hne => ?_⟩
  · obtain ⟨z, hz, hzi⟩ := hall i o ho
    have h1 := (bi3 (h z hz)).1
    have hk := hx z hz
    rw [hk.bit, hzi] at h1
    have ho' : z.o = o := by have := hk.op; rw [hzi, ho] at this; injection this with this; exact this.symm
    have ht := (hk.m e.on).2 ⟨e, by rw [ho']; exact he, hb, rfl⟩
    have hlt : z.m < 2 ^ i := by
      have := Nat.le_of_ble_eq_true h1
      rwa [show Nat.shiftLeft 1 i = 2 ^ i from Nat.one_shiftLeft i] at this
    rcases Nat.lt_or_ge e.on i with h2 | h2
    · exact h2
    · rw [Nat.testBit_lt_two_pow (Nat.lt_of_lt_of_le hlt (Nat.pow_le_pow_right (by omega) h2))] at ht
      cases ht
  · obtain ⟨z, hz, hzi⟩ := hall j y hj
    obtain ⟨u, hu, hui⟩ := hall i x hi
    have hk := hx z hz
    have hku := hx u hu
    have hzo : z.o = y := by have := hk.op; rw [hzi, hj] at this; injection this with this; exact this.symm
    have huo : u.o = x := by have := hku.op; rw [hui, hi] at this; injection this with this; exact this.symm
    have h1 := (bi3 (bi3 (h z hz)).2).2
    unfold dk2 at h1
    rw [hzo, hyt] at h1
    have h2 := allL_mem (show allL _ (prep ops) = true from h1) u hu
    rw [huo, hxt, dstIs_some, bi_true] at h2
    have := Nat.eq_of_beq_eq_true h2
    omega
  · obtain ⟨z, hz, hzi⟩ := hall j y hj
    obtain ⟨u, hu, hui⟩ := hall i x hi
    have hk := hx z hz
    have hku := hx u hu
    have hzo : z.o = y := by have := hk.op; rw [hzi, hj] at this; injection this with this; exact this.symm
    have huo : u.o = x := by have := hku.op; rw [hui, hi] at this; injection this with this; exact this.symm
    have h1 := (bi3 (bi3 (h z hz)).2).1
    have h2 := allL_mem (show allL _ (prep ops) = true from allL_mem h1 t (looks_mem (by rw [hzo]; exact hl))) u hu
    rw [huo, hxt, dstIs_some, bi_true] at h2
    have hne' : Nat.beq u.i z.i = false := by
      cases hb : Nat.beq u.i z.i
      · rfl
      · have := Nat.eq_of_beq_eq_true hb; omega
    rw [hne', bi_false] at h2
    cases h3 : hasB z.b u.bit
    · rw [h3, bi_false, hk.bit] at h2
      right
      intro D hD hi'
      have := hku.b D hD (by rw [hui]; exact hi') _ (hasB_true h2)
      rw [← hzi]; exact this
    · rw [hku.bit] at h3
      left
      intro D hD hj'
      have := hk.b D hD (by rw [hzi]; exact hj') _ (hasB_true h3)
      rw [← hui]; exact this

/-! Values that are alike. -/
theorem ikN_eqT {j k : IntKind} (h : Nat.beq (ikN j) (ikN k) = true) : j = k := by cases j <;> cases k <;> first | rfl | cases h
theorem ieq_true {a b : Int} (h : ieq a b = true) : a = b := by
  cases a <;> cases b <;> first | (cases h; done) | exact congrArg _ (Nat.eq_of_beq_eq_true h) | exact congrArg _ (Nat.eq_of_beq_eq_true h).symm
theorem lbeq_true : ∀ {x y : List Nat}, lbeq x y = true → x = y
  | [], [], _ => rfl
  | [], _ :: _, h => by cases h
  | _ :: _, [], h => by cases h
  | a :: r, b :: s, h => by
    replace h : bi (Nat.beq a b) (lbeq r s) false = true := h
    obtain ⟨h1, h2⟩ := bi3 h
    rw [Nat.eq_of_beq_eq_true h1, lbeq_true h2]
theorem capEq_true {x y : Cap} (h : capEq x y = true) : x = y := by
  cases x <;> cases y <;> first | (cases h; done) | skip
  · exact congrArg _ (Nat.eq_of_beq_eq_true h)
  · obtain ⟨h1, h2⟩ := bi3 h
    rw [Nat.eq_of_beq_eq_true h1, Nat.eq_of_beq_eq_true h2]
theorem bbeq {b c : Bool} (h : bi b c (bi c false true) = true) : b = c := by cases b <;> cases c <;> first | rfl | cases h
theorem bbeq2 {b c : Bool} (h : bi b c (bi c false true) = true) : b = c := by cases b <;> cases c <;> first | rfl | cases h
theorem avEq_true (x : AV) : ∀ y, avEq x y = true → x = y := by
  refine AV.rec (motive_1 := fun x => ∀ y, avEq x y = true → x = y) (motive_2 := fun l => ∀ m, @AV.rec_1 (fun _ => AV → Bool) (fun _ => List AV → Bool)
  isAny (fun b y => oc false (fun c => bi b c (bi c false true)) (asBool y)) (fun k n y => oc false (fun p => bi (Nat.beq (ikN k) (ikN p.1)) (ieq n p.2) false) (asInt y)) (fun l y => oc false (fun m => lbeq l m) (asStr y))
  isNilp (fun b o y => oc false (fun p => bi (Nat.beq b p.1) (Nat.beq o p.2) false) (asPtr y)) isNils (fun b o n c y => oc false (slcEq b o n c) (asSlc y)) isNilm (fun b y => oc false (fun c => Nat.beq b c) (asMap y))
  (fun _ _ _ _ _ _ => false) isNilf (fun _ _ _ _ => false) isNili (fun _ g y => oc false g (asAgg y)) (fun _ g y => oc false g (asTup y)) eqXslc eqXnat eqXres eqXi (fun _ _ _ _ => false)
  (fun l => @List.rec AV (fun _ => Bool) true (fun _ _ _ => false) l) (fun _ _ g gr l => @List.rec AV (fun _ => Bool) false (fun y r _ => bi (g y) (gr r) false) l) l m = true → l = m)
    ?_ ?_ ?_ ?_ ?_ ?_ ?_ ?_ ?_ ?_ ?_ ?_ ?_ ?_ ?_ ?_ ?_ ?_ ?_ ?_ ?_ ?_ ?_ x
  · intro y h; cases y <;> first | rfl | cases h
  · intro b y h; cases y <;> first | (cases h; done) | skip
    exact congrArg _ (bbeq h)
  · intro k n y h; cases y <;> first | (cases h; done) | skip
    obtain ⟨h1, h2⟩ := bi3 h
    rw [ikN_eqT h1, ieq_true h2]
  · intro l y h; cases y <;> first | (cases h; done) | skip
    exact congrArg _ (lbeq_true h)
  · intro y h; cases y <;> first | rfl | cases h
  · intro b o y h; cases y <;> first | (cases h; done) | skip
    obtain ⟨h1, h2⟩ := bi3 h
    rw [Nat.eq_of_beq_eq_true h1, Nat.eq_of_beq_eq_true h2]
  · intro y h; cases y <;> first | rfl | cases h
  · intro b o n c y h; cases y <;> first | (cases h; done) | skip
    obtain ⟨h1, h2⟩ := bi3 h
    obtain ⟨h2, h3⟩ := bi3 h2
    obtain ⟨h3, h4⟩ := bi3 h3
    rw [Nat.eq_of_beq_eq_true h1, Nat.eq_of_beq_eq_true h2, Nat.eq_of_beq_eq_true h3, capEq_true h4]
  · intro y h; cases y <;> first | rfl | cases h
  · intro b y h; cases y <;> first | (cases h; done) | skip
    exact congrArg _ (Nat.eq_of_beq_eq_true h)
  · intro f x y _ _ z h; cases h
  · intro y h; cases y <;> first | rfl | cases h
  · intro t v _ z h; cases h
  · intro y h; cases y <;> first | rfl | cases h
  · intro l ih y h; cases y <;> first | (cases h; done) | skip
    exact congrArg _ (ih _ h)
  · intro l ih y h; cases y <;> first | (cases h; done) | skip
    exact congrArg _ (ih _ h)
  · intro n ge y h; cases y <;> first | (cases h; done) | skip
    obtain ⟨h1, h2⟩ := bi3 h
    rw [Nat.eq_of_beq_eq_true h1, bbeq2 h2]
  · intro n y h; cases y <;> first | (cases h; done) | skip
    exact congrArg _ (Nat.eq_of_beq_eq_true h)
  · intro k m r y h; cases y <;> first | (cases h; done) | skip
    obtain ⟨h1, h2⟩ := bi3 h
    obtain ⟨h2, h3⟩ := bi3 h2
    rw [Nat.eq_of_beq_eq_true h1, Nat.eq_of_beq_eq_true h2, ieq_true h3]
  · intro x y h; cases y <;> first | (cases h; done) | skip
    rename_i z
    obtain ⟨h1, h2⟩ := bi3 h
    obtain ⟨h2, h3⟩ := bi3 h2
    obtain ⟨h3, h4⟩ := bi3 h3
    obtain ⟨h4, h5⟩ := bi3 h4
    obtain ⟨x1, x2, x3, x4, x5⟩ := x
    obtain ⟨z1, z2, z3, z4, z5⟩ := z
    have e1 : x1 = z1 := Nat.eq_of_beq_eq_true h1
    have e2 : x2 = z2 := ieq_true h2
    have e3 : x3 = z3 := ieq_true h3
    have e4 : x4 = z4 := ieq_true h4
    have e5 : x5 = z5 := ieq_true h5
    rw [e1, e2, e3, e4, e5]
  · intro b n L y h; cases h
  · intro m h; cases m <;> first | rfl | cases h
  · intro v r ihv ihr m h
    cases m with
    | nil => cases h
    | cons y s =>
      obtain ⟨h1, h2⟩ := bi3 h
      rw [ihv _ h1, ihr _ h2]
end Go.Proofs.YtknnaeejkmlnbaaGreatDoor.Kx

/- Which operations only reckon, only read, only lay a new block. -/
namespace Go.Proofs.YtknnaeejkmlnbaaGreatDoor.Kx

/-- The same, over another heap. -/
def XR.on (h : H) : XR → XR
  | .no => .no
  | .val v _ => .val v h
  | .call f a _ => .call f a h
section
variable {h k : H} {P : Program}
@[simp] theorem on_no : XR.on h .no = .no := rfl
@[simp] theorem on_val (v : AV) : XR.on h (.val v k) = .val v h := rfl
@[simp] theorem on_oc {α : Type} (n : XR) (f : α → XR) (o : Option α) : XR.on h (oc n f o) = oc (XR.on h n) (fun x => XR.on h (f x)) o := by cases o <;> rfl
@[simp] theorem on_bi (c : Bool) (x y : XR) : XR.on h (bi c x y) = bi c (XR.on h x) (XR.on h y) := by cases c <;> rfl
@[simp] theorem on_kBool (b : Bool) : XR.on h (kBool k b) = kBool h b := by cases b <;> rfl
@[simp] theorem on_kInt (z : Int) (t : IntKind) : XR.on h (kInt z k t) = kInt z h t := by
  cases z <;> (unfold kInt; simp only [nF_eq]; rfl)
@[simp] theorem on_kW (z : Int) (t : IntKind) : XR.on h (kW k t z) = kW h t z := by unfold kW; simp
@[simp] theorem on_kB (n : Nat) (t : IntKind) : XR.on h (kB k t n) = kB h t n := by unfold kB; simp
@[simp] theorem on_kVal (o : Option AV) : XR.on h (kVal k o) = kVal h o := by unfold kVal; simp
@[simp] theorem on_kAgg (o : Option (List AV)) : XR.on h (kAgg k o) = kAgg h o := by unfold kAgg; simp
@[simp] theorem on_kBoolO (o : Option Bool) : XR.on h (kBoolO k o) = kBoolO h o := by unfold kBoolO; simp
@[simp] theorem on_nF (n : Nat) (f : Nat → XR) : XR.on h (nF n f) = nF n (fun x => XR.on h (f x)) := by simp
theorem on_shl (t : IntKind) (a b : Int) : XR.on h (shl k t a b) = shl h t a b := by unfold shl; simp
theorem on_shr (t : IntKind) (a b : Int) : XR.on h (shr k t a b) = shr h t a b := by unfold shr; simp
theorem on_bopI (op : BinOp) (t : IntKind) (a b : Int) : XR.on h (bopI op k t a b) = bopI op h t a b := by
  cases op <;> first | exact on_kW _ _ | exact on_kB _ _ | exact on_kBool _ | exact on_kInt _ _ | exact on_shl _ _ _ | exact on_shr _ _ _ | skip
  · show XR.on h (bi (ieq b 0) .no (kW k t (a.tdiv b))) = bi (ieq b 0) .no (kW h t (a.tdiv b)); simp
  · show XR.on h (bi (ieq b 0) .no (kInt (a.tmod b) k t)) = bi (ieq b 0) .no (kInt (a.tmod b) h t); simp
theorem on_bopS (op : BinOp) (a b : List Nat) : XR.on h (bopS op k a b) = bopS op h a b := by
  cases op <;> first | rfl | exact on_kBool _ | skip
  show XR.on h (bi (Nat.ble (Nat.add (len a) (len b)) 1073741824) (.val (.str (app a b)) k) .no) = bi (Nat.ble (Nat.add (len a) (len b)) 1073741824) (.val (.str (app a b)) h) .no
  simp
theorem on_bopO (Ty : TypeId → Option TI) (op : BinOp) (t : Option TI) (x y : AV) : XR.on h (bopO op k Ty t x y) = bopO op h Ty t x y := by
  cases op <;> first | rfl | skip
  · show XR.on h (oc .no (fun ti => kBoolO k (eqT Ty ti x y)) t) = oc .no (fun ti => kBoolO h (eqT Ty ti x y)) t; simp
  · show XR.on h (oc .no (fun ti => oc .no (fun b => kBool k (bi b false true)) (eqT Ty ti x y)) t) = oc .no (fun ti => oc .no (fun b => kBool h (bi b false true)) (eqT Ty ti x y)) t; simp
@[simp] theorem on_bopXo (op : BinOp) (n : Nat) (q : Int) : XR.on h (bopXo op k n q) = bopXo op h n q := by
  cases op <;> first | rfl | skip
  · show XR.on h (bi (ilt (.ofNat n) q) .no (.val (.bool false) k)) = bi (ilt (.ofNat n) q) .no (.val (.bool false) h); simp
  · show XR.on h (bi (ltX q n) (.val (.bool true) k) .no) = bi (ltX q n) (.val (.bool true) h) .no; simp
  · show XR.on h (bi (ilt (.ofNat n) q) .no (.val (.bool true) k)) = bi (ilt (.ofNat n) q) .no (.val (.bool true) h); simp
@[simp] theorem on_bopY (op : BinOp) (p : IntKind × Int) (y : AV) : XR.on h (bopY k op p y) = bopY h op p y := by
  unfold bopY
  cases op <;> simp [bopYo, on_oc, on_bi]
@[simp] theorem on_bopR (op : BinOp) (x : Xr) (y : AV) : XR.on h (bopR k op x y) = bopR h op x y := by
  unfold bopR
  cases op <;> simp [bopRo, on_oc, on_bi]
@[simp] theorem on_minX (n : Nat) (y : AV) : XR.on h (minX k n y) = minX h n y := by unfold minX; simp
@[simp] theorem on_cvR (t : IntKind) (x : AV) : XR.on h (cvR k t x) = cvR h t x := by unfold cvR; simp
@[simp] theorem on_cmpXi (t f : Bool) : XR.on h (cmpXi k t f) = cmpXi h t f := by unfold cmpXi; simp
@[simp] theorem on_okXi (x : Xi) : XR.on h (okXi x k) = okXi x h := by unfold okXi; simp
@[simp] theorem on_bopXi (op : BinOp) (x : Xi) (y : AV) : XR.on h (bopXi k op x y) = bopXi h op x y := by
  unfold bopXi
  cases op <;> simp [bopXio, on_oc, on_bi]
theorem on_binop (Ty : TypeId → Option TI) (op : BinOp) (t : Option TI) (x y : AV) : XR.on h (binop Ty k op t x y) = binop Ty h op t x y := by
  unfold binop bop2 bop4 bop3 bopX
  simp only [on_oc, on_bi, on_no, on_bopI, on_bopS, on_bopO, on_bopXo, on_bopY, on_bopR, on_bopXi]
theorem on_unop (op : UnOp) (x : AV) : XR.on h (unop k op x) = unop h op x := by
  cases op
  · show XR.on h (oc .no (fun p => kW k p.1 (Int.sub 0 p.2)) (asInt x)) = oc .no (fun p => kW h p.1 (Int.sub 0 p.2)) (asInt x); simp
  · show XR.on h (oc .no (fun p => bopI .xor k p.1 (maskI p.1) p.2) (asInt x)) = oc .no (fun p => bopI .xor h p.1 (maskI p.1) p.2) (asInt x); simp only [on_oc, on_no, on_bopI]
  · show XR.on h (oc .no (fun b => kBool k (bi b false true)) (asBool x)) = oc .no (fun b => kBool h (bi b false true)) (asBool x); simp
  · rfl
theorem on_build (Ty : TypeId → Option TI) (ps : List (Nat × AV)) (t : Option TI) : XR.on h (xBuild Ty k ps t) = xBuild Ty h ps t := by
  unfold xBuild
  rw [on_oc]
  congr 1
  funext ti
  cases ti.kind <;> first | rfl | skip
  · rename_i fs; show XR.on h (bi (allSz Ty fs) (kAgg k (fillA (placeS Ty fs) ps ti.zero)) .no) = bi (allSz Ty fs) (kAgg h (fillA (placeS Ty fs) ps ti.zero)) .no; simp
  · rename_i n e; show XR.on h (oc .no (fun s => kAgg k (fillA (placeA s) ps ti.zero)) (szOf Ty e)) = oc .no (fun s => kAgg h (fillA (placeA s) ps ti.zero)) (szOf Ty e); simp
@[simp] theorem on_part (l : List AV) (o : Nat) (t : Option TI) : XR.on h (part k l o t) = part h l o t := by unfold part; simp
@[simp] theorem on_ia (b o i n : Nat) (s : Option Nat) : XR.on h (ia k b o i n s) = ia h b o i n s := by unfold ia; simp
theorem on_iaK (t : TK) (Ty : TypeId → Option TI) (i : Nat) (x : AV) : XR.on h (iaK t Ty k i x) = iaK t Ty h i x := by
  cases t <;> first | rfl | skip
  · rename_i e; show XR.on h (oc .no (fun s => ia k s.b s.o i s.len (szOf Ty e)) (asSlc x)) = oc .no (fun s => ia h s.b s.o i s.len (szOf Ty e)) (asSlc x); simp
  · rename_i n e; show XR.on h (oc .no (fun p => ia k p.1 p.2 i n (szOf Ty e)) (asPtr x)) = oc .no (fun p => ia h p.1 p.2 i n (szOf Ty e)) (asPtr x); simp
theorem on_ixK (t : TK) (Ty : TypeId → Option TI) (i : Nat) (x : AV) : XR.on h (ixK t Ty k i x) = ixK t Ty h i x := by
  cases t <;> first | rfl | skip
  · show XR.on h (oc .no (fun l => oc .no (fun n => .val (.int .u8 (.ofNat n)) k) (idx i l)) (asStr x)) = oc .no (fun l => oc .no (fun n => .val (.int .u8 (.ofNat n)) h) (idx i l)) (asStr x); simp
  · rename_i n e; show XR.on h (oc .no (fun l => bi (Nat.blt i n) (oc .no (fun s => part k l (Nat.mul i s) (Ty e)) (szOf Ty e)) .no) (asAgg x)) = oc .no (fun l => bi (Nat.blt i n) (oc .no (fun s => part h l (Nat.mul i s) (Ty e)) (szOf Ty e)) .no) (asAgg x); simp

theorem same_of_on {F : H → XR} (hF : ∀ h k, XR.on h (F k) = F h) {v : AV} {k' : H} (e : F k = .val v k') : k' = k ∧ ∀ h, F h = .val v h := by
  have : k' = k := by
    have := hF k k
    rw [e, on_val] at this
    injection this with _ this
    exact this.symm
  exact ⟨this, fun h => by rw [← hF h k, e]; rfl⟩
/-- What only reckons tells the same over any heap, and leaves it. -/
theorem xop_pure {op : Op} {a : Tm} {v : AV} {k' : H} (hk : kd op = .pure) (e : xop op (mkTI P) a k = .val v k') : k' = k ∧ ∀ h, xop op (mkTI P) a h = .val v h := by
  refine same_of_on (F := fun h => xop op (mkTI P) a h) (fun h k => ?_) e
  cases op <;> first | (cases hk; done) | rfl | skip
  case pick c x y => show XR.on h (xPick k (ev c a) (ev x a) (ev y a)) = xPick h (ev c a) (ev x a) (ev y a); unfold xPick; simp
  case build t ps => exact on_build _ _ _
  case nilCheck x => show XR.on h (xNilCheck k (ev x a)) = xNilCheck h (ev x a); unfold xNilCheck; simp
  case binOp op t x y u => exact on_binop _ _ _ _ _
  case unOp op t x => exact on_unop _ _
  case fieldAddr t x f => show XR.on h (xFieldAddr _ k f (ev x a) _) = xFieldAddr _ h f (ev x a) _; unfold xFieldAddr; simp
  case field t x f => show XR.on h (xField _ k f (ev x a) _) = xField _ h f (ev x a) _; unfold xField; simp
  case indexAddr t x i => show XR.on h (xIndexAddr _ k (ev x a) _ _) = xIndexAddr _ h (ev x a) _ _; unfold xIndexAddr; simp only [on_oc, on_no, on_iaK]
  case index t x i => show XR.on h (xIndex _ k (ev x a) _ _) = xIndex _ h (ev x a) _ _; unfold xIndex; simp only [on_oc, on_no, on_ixK]
  case extract x i => show XR.on h (xExtract k i (ev x a)) = xExtract h i (ev x a); unfold xExtract; simp
  case call c =>
    obtain ⟨callee, args, ts⟩ := c
    cases callee with
    | value f => cases hk
    | invoke r m => cases hk
    | builtin b =>
      cases b <;> first | (cases hk; done) | skip
      · show XR.on h (hd2 (xMax k) (evL args.toList a)) = hd2 (xMax h) (evL args.toList a)
        rcases evL args.toList a with _ | ⟨x, _ | ⟨y, _ | ⟨z, r⟩⟩⟩ <;> first | rfl | skip
        show XR.on h (xMax k x y) = xMax h x y
        unfold xMax; simp
      · show XR.on h (hd2 (xMin k) (evL args.toList a)) = hd2 (xMin h) (evL args.toList a)
        rcases evL args.toList a with _ | ⟨x, _ | ⟨y, _ | ⟨z, r⟩⟩⟩ <;> first | rfl | skip
        show XR.on h (xMin k x y) = xMin h x y
        unfold xMin; simp

/-- It leaves the heap. -/
def Lv (k : H) (r : XR) : Prop := ∀ v k', r = .val v k' → k' = k
theorem Lv.no : Lv k .no := fun _ _ e => by cases e
theorem Lv.val (v : AV) : Lv k (.val v k) := fun _ _ e => by injection e with _ e; exact e.symm
theorem Lv.oc {α : Type} {n : XR} {f : α → XR} {o : Option α} (hn : Lv k n) (hf : ∀ x, Lv k (f x)) : Lv k (oc n f o) := by cases o <;> first | exact hn | exact hf _
theorem Lv.bi {c : Bool} {x y : XR} (hx : Lv k x) (hy : Lv k y) : Lv k (bi c x y) := by cases c <;> first | exact hx | exact hy
theorem Lv.nF {n : Nat} {f : Nat → XR} (hf : ∀ x, Lv k (f x)) : Lv k (nF n f) := by rw [nF_eq]; exact hf _
theorem Lv.kVal (o : Option AV) : Lv k (kVal k o) := .oc .no fun v => .val v
theorem Lv.kAgg (o : Option (List AV)) : Lv k (kAgg k o) := .oc .no fun _ => .val _
theorem Lv.kInt (z : Int) (t : IntKind) : Lv k (kInt z k t) := by cases z with
  | ofNat n => exact Lv.nF (n := n) (f := fun n => .val (.int t (.ofNat n)) k) fun _ => .val _
  | negSucc n => exact Lv.nF (n := n) (f := fun n => .val (.int t (.negSucc n)) k) fun _ => .val _
theorem Lv.part (l : List AV) (o : Nat) (t : Option TI) : Lv k (part k l o t) := .oc .no fun _ => .bi (.kAgg _) (.kVal _)
theorem Lv.cut (s : Slc) (size l u : Nat) : Lv k (cut k s size l u) := by
  unfold Kx.cut
  cases s.cap <;> exact .nF fun _ => .nF fun _ => .nF fun _ => .val _
theorem Lv.cutM (s : Slc) (size l u m : Nat) : Lv k (cutM k s size l u m) := .bi (.bi (.bi (.nF fun _ => .nF fun _ => .nF fun _ => .val _) .no) .no) .no
theorem Lv.sliceX (size : Nat) (s : Slc) (p : Xi × Xi) : Lv k (sliceX k size s p) := .bi (.bi (.bi (.bi (.bi (.oc .no fun _ => .bi .no (.nF fun _ => .nF fun _ => .val _)) .no) .no) .no) .no) .no
theorem Lv.sliceK (t : TK) (Ty : TypeId → Option TI) (x : AV) (lo hi mx : Option AV) : Lv k (sliceK t Ty k x lo hi mx) := by
  cases t <;> first | exact .no | skip
  · exact .bi (.oc .no fun _ => .oc .no fun _ => .oc .no fun _ => .bi (.bi (.val _) .no) .no) .no
  · exact .oc .no fun _ => .oc (.bi (.bi (.bi (.bi (.val _) .no) .no) .no) .no) fun _ => .oc (.oc .no fun _ => .oc .no fun _ => .oc (.bi (.bi (.cut _ _ _ _) .no) .no) fun _ => .bi .no (.oc .no fun _ => .cutM _ _ _ _ _)) fun _ => .sliceX _ _ _
  · exact .oc .no fun _ => .oc .no fun _ => .oc .no fun _ => .oc .no fun _ => .oc (.bi (.bi (.nF fun _ => .nF fun _ => .nF fun _ => .val _) .no) .no) fun _ => .no
theorem Lv.convK (t : TK) (Ty : TypeId → Option TI) (s : Option TI) (x : AV) : Lv k (convK t Ty k s x) := by
  cases t <;> first | exact .no | skip
  · exact .oc (.oc .no fun _ => .bi (.bi (.val _) .no) .no) fun _ => .kInt _ _
  · exact .oc (.bi (.oc (.bi (.val _) .no) fun _ => .oc .no fun _ => .oc .no fun _ => .val _) .no) fun _ => .val _
theorem Lv.lenK (t : TK) (x : AV) : Lv k (lenK t x k) := by
  cases t <;> first | exact .no | skip
  · exact .oc .no fun _ => .kInt _ _
  · cases x <;> first | exact .no | exact Lv.bi (x := .val _ k) (y := Kx.kInt (.ofNat _) k .i64) (.val _) (.kInt _ _) | exact Lv.kInt (.ofNat _) .i64 | exact Lv.kInt (k := k) (.ofNat (nat_lit 0)) .i64 | exact Lv.kInt (k := k) (.ofNat 0) .i64
  · cases x <;> first | exact .no | exact Lv.oc (n := .no) .no fun _ => Lv.kInt (.ofNat _) .i64 | exact Lv.kInt (.ofNat _) .i64 | exact Lv.kInt (k := k) (.ofNat (nat_lit 0)) .i64 | exact Lv.kInt (k := k) (.ofNat 0) .i64
  · exact Lv.kInt (.ofNat _) .i64
/-- What only reads leaves the heap. -/
theorem xop_read {op : Op} {a : Tm} {v : AV} {k' : H} (hk : kd op = .read) (e : xop op (mkTI P) a k = .val v k') : k' = k := by
  refine (?_ : Lv k (xop op (mkTI P) a k)) v k' e
  cases op <;> first | (cases hk; done) | skip
  case load t x => exact .oc .no fun _ => .oc .no fun _ => .oc .no fun _ => .bi (.kAgg _) (.kVal _)
  case slice t x lo hi mx => exact .oc .no fun _ => .sliceK _ _ _ _ _ _
  case convert s d x => exact .bi (.oc .no fun _ => .convK _ _ _ _) .no
  case lookup t x i ok => exact .oc .no fun _ => .oc .no fun _ => .oc (.bi (.oc .no fun r => .oc (.val _) fun _ => .val _) .no) fun _ => .oc .no fun _ => .oc .no fun r => .oc (.val _) fun _ => .val _
  case call c =>
    obtain ⟨callee, args, ts⟩ := c
    cases callee with
    | value f => cases hk
    | invoke r m => cases hk
    | builtin b =>
      cases b <;> first | (cases hk; done) | skip
      show Lv k (hd1 (fun x => hd1 (fun t => xLen x k (mkTI P t)) ts.toList) (evL args.toList a))
      rcases evL args.toList a with _ | ⟨x, _ | ⟨y, r⟩⟩ <;> first | exact .no | skip
      rcases ts.toList with _ | ⟨x', _ | ⟨y', r'⟩⟩ <;> first | exact .no | skip
      exact .oc .no fun _ => .lenK _ _

/-- It lays a new block, the same over any heap. -/
def Al (F : H → XR) : Prop := ∀ k v k', F k = .val v k' → ∃ ob, ∀ m, F ⟨m, k.next⟩ = .val v ⟨m.set k.next ob, k.next + 1⟩
theorem Al.no : Al fun _ => .no := fun _ _ _ e => by cases e
theorem Al.oc {α : Type} {f : α → H → XR} {o : Option α} (hf : ∀ x, Al (f x)) : Al fun h => oc .no (fun x => f x h) o := by cases o <;> first | exact .no | exact hf _
theorem Al.bi {c : Bool} {x : H → XR} (hx : Al x) : Al fun h => Kx.bi c (x h) .no := by cases c <;> first | exact .no | exact hx
theorem Al.kNew (o : AObj) (f : Nat → AV) : Al fun h => kNew h o f := fun k v k' e => by
  simp only [Kx.kNew, nF_eq] at e
  injection e with e1 e2
  exact ⟨o, fun m => by simp only [Kx.kNew, nF_eq, e1]⟩
theorem xop_alloc {op : Op} {a : Tm} {v : AV} {k' : H} (hk : kd op = .alloc) (e : xop op (mkTI P) a k = .val v k') : ∃ ob, ∀ m, xop op (mkTI P) a ⟨m, k.next⟩ = .val v ⟨m.set k.next ob, k.next + 1⟩ := by
  refine (?_ : Al fun h => xop op (mkTI P) a h) k v k' e
  cases op <;> first | (cases hk; done) | skip
  case alloc e => exact .oc fun _ => .kNew _ _
  case box e x => exact .bi (.kNew _ _)
  case buildSlice t n ps => exact .oc fun _ => .oc fun _ => .bi (.oc fun _ => .kNew _ _)
  case makeMap t r => exact .bi (.kNew _ _)
  case makeSlice t l c => exact .oc fun _ => .oc fun _ => .oc fun _ => .oc fun _ => .bi (.bi (.kNew _ _))
  case call c =>
    obtain ⟨callee, args, ts⟩ := c
    cases callee <;> first | (cases hk; done) | skip
    rename_i b
    cases b <;> cases hk
/-- A new block is new in the model too, whatever else lies in the heap. -/
theorem xop_late {B0 : Nat} {g : G} {h : H} {w : World} (hr : HR B0 g h w) (hB : B0 ≤ w.heap.size) (hp : g.pos h.next = none) (hgr : g.grow h.next = none) (o : Oper) (hk : kd o.op = .alloc) (a : Tm) (ρ : Operand → Value) (he : ∀ x ∈ o.op.operands, VR g (ev x a) (ρ x)) :
    OG P B0 g h w (execOp ρ o) (xop o.op (mkTI P) a h) := by
  cases ho : o.op <;> rw [ho] at he hk <;> first | (cases hk; done) | skip
  case alloc e => simp only [execOp, ho]; exact OG.of_VG (alloc_good hr hB hp hgr e)
  case box e x => simp only [execOp, ho]; exact OG.of_VG (box_good hr hB hp hgr e _ _ (he x (by simp [Op.operands])))
  case buildSlice t n ps =>
    simp only [execOp, ho]
    refine OG.of_VG (buildSlice_good hr hB hp hgr t n _ _ ?_)
    rw [Array.toList_map]
    exact prs_PRs _ (fun p hp => he p.2 (by simp [Op.operands]; exact ⟨p.1, by simpa using hp⟩))
  case makeMap t r =>
    cases r with
    | some x => trivial
    | none =>
      unfold execOp
      rw [ho]
      exact OG.of_VG (makeMap_good hr hB hp hgr t)
  case makeSlice t l c => simp only [execOp, ho]; exact OG.of_VG (makeSlice_good hr hB hp hgr t _ _ _ _ (he l (by simp [Op.operands])) (he c (by simp [Op.operands])))
  case call c =>
    obtain ⟨callee, args, ts⟩ := c
    cases callee <;> first | (cases hk; done) | skip
    rename_i b
    cases b <;> cases hk
end
end Go.Proofs.YtknnaeejkmlnbaaGreatDoor.Kx

/- A region whose order is drawn: what stands in the middle of it. -/
namespace Go.Proofs.YtknnaeejkmlnbaaGreatDoor.Kx
section
variable {P : Program}

/-! A heap that holds more. -/
def Ext (k k' : H) : Prop := ∀ b o, k.m.get b = some o → k'.m.get b = some o
theorem Ext.cells {k k' : H} (h : Ext k k') {b : Nat} {c : List AV × TypeId} (e : objCells (k.m.get b) = some c) : objCells (k'.m.get b) = some c := by
  cases hg : k.m.get b with
  | none => rw [hg] at e; cases e
  | some o => rw [h _ _ hg, ← hg]; exact e
theorem Ext.map {k k' : H} (h : Ext k k') {b : Nat} {c : Mp} (e : objMap (k.m.get b) = some c) : objMap (k'.m.get b) = some c := by
  cases hg : k.m.get b with
  | none => rw [hg] at e; cases e
  | some o => rw [h _ _ hg, ← hg]; exact e
/-- What it told over a heap it tells over one that holds more. -/
def Mn (F : H → XR) : Prop := ∀ k k' v, Ext k k' → F k = .val v k → F k' = .val v k'
theorem Mn.no : Mn fun _ => .no := fun _ _ _ _ e => by cases e
theorem Mn.on {F : H → XR} (hF : ∀ h k, XR.on h (F k) = F h) : Mn F := fun k k' v _ e => by rw [← hF k' k, e]; rfl
theorem Mn.oc {α : Type} {n : H → XR} {f : α → H → XR} {o : Option α} (hn : Mn n) (hf : ∀ x, Mn (f x)) : Mn fun h => Kx.oc (n h) (fun x => f x h) o := by cases o <;> first | exact hn | exact hf _
theorem Mn.och {α : Type} {f : α → H → XR} {o : H → Option α} (ho : ∀ k k' x, Ext k k' → o k = some x → o k' = some x) (hf : ∀ x, Mn (f x)) : Mn fun h => Kx.oc .no (fun x => f x h) (o h) := fun k k' v he e => by
  cases h : o k with
  | none => simp only [h, oc_none] at e; cases e
  | some x => simp only [h, oc_some] at e; simp only [ho k k' x he h, oc_some]; exact hf x k k' v he e
theorem Mn.bi {c : Bool} {x y : H → XR} (hx : Mn x) (hy : Mn y) : Mn fun h => Kx.bi c (x h) (y h) := by cases c <;> first | exact hx | exact hy
theorem Mn.bih {c : H → Bool} {x : H → XR} (hc : ∀ k k', Ext k k' → c k = true → c k' = true) (hx : Mn x) : Mn fun h => Kx.bi (c h) (x h) .no := fun k k' v he e => by
  cases h : c k with
  | false => simp only [h, bi_false] at e; cases e
  | true => simp only [h, bi_true] at e; simp only [hc k k' he h, bi_true]; exact hx k k' v he e
theorem Mn.val (v : AV) : Mn fun h => .val v h := .on fun _ _ => rfl
theorem Mn.kVal (o : Option AV) : Mn fun h => kVal h o := .on fun _ _ => on_kVal _
theorem Mn.kAgg (o : Option (List AV)) : Mn fun h => kAgg h o := .on fun _ _ => on_kAgg _
theorem Mn.kInt (z : Int) (t : IntKind) : Mn fun h => kInt z h t := .on fun _ _ => on_kInt _ _
theorem Mn.nF {n : Nat} {f : Nat → H → XR} (hf : ∀ x, Mn (f x)) : Mn fun h => Kx.nF n (fun x => f x h) := by simp only [nF_eq]; exact hf n
theorem reach_ext {k k' : H} {s : Slc} {u size : Nat} (he : Ext k k') (h : reach k s u size = true) : reach k' s u size = true := by
  unfold reach at h ⊢
  cases hc : s.cap with
  | k c => rw [hc] at h; exact h
  | v x j =>
    rw [hc] at h
    replace h : bi (Nat.beq x size) (bi (Nat.ble u s.len) true (bi (Nat.beq size 0) false (oc false (fun c => Nat.ble (Nat.add s.o (Nat.mul u size)) (len c.1)) (objCells (k.m.get s.b))))) false = true := h
    show bi (Nat.beq x size) (bi (Nat.ble u s.len) true (bi (Nat.beq size 0) false (oc false (fun c => Nat.ble (Nat.add s.o (Nat.mul u size)) (len c.1)) (objCells (k'.m.get s.b))))) false = true
    cases ho : objCells (k.m.get s.b) with
    | some c => rw [he.cells ho, ← ho]; exact h
    | none =>
      rw [ho] at h
      revert h
      cases Nat.beq x size <;> cases Nat.ble u s.len <;> cases Nat.beq size 0 <;> simp
theorem Mn.cut (s : Slc) (size l u : Nat) : Mn fun h => cut h s size l u := by
  unfold Kx.cut
  cases s.cap <;> exact .on fun _ _ => by simp
theorem Mn.sliceX (size : Nat) (s : Slc) (p : Xi × Xi) : Mn fun h => sliceX h size s p := .bi (.bi (.bi (.bi (.bi (.oc .no fun _ => .bi .no (.on fun _ _ => by simp)) .no) .no) .no) .no) .no
theorem Mn.sliceK (t : TK) (Ty : TypeId → Option TI) (x : AV) (lo hi mx : Option AV) : Mn fun h => sliceK t Ty h x lo hi mx := by
  cases t <;> first | exact .no | skip
  · exact .bi (.oc .no fun _ => .oc .no fun _ => .oc .no fun _ => .bi (.bi (.val _) .no) .no) .no
  · exact .oc .no fun _ => .oc (.bi (.bi (.bi (.bi (.val _) .no) .no) .no) .no) fun _ => .oc (.oc .no fun _ => .oc .no fun _ => .oc (.bi (.bih (fun _ _ he h => reach_ext he h) (.cut _ _ _ _)) .no) fun _ => .bi .no (.oc .no fun _ => .on fun _ _ => by unfold cutM; simp)) fun _ => .sliceX _ _ _
  · exact .oc .no fun _ => .oc .no fun _ => .oc .no fun _ => .oc .no fun _ => .oc (.bi (.bi (.on fun _ _ => by simp) .no) .no) fun _ => .no
theorem cellsAt_ext {k k' : H} {b o n : Nat} {l : List AV} (he : Ext k k') (h : cellsAt k b o n = some l) : cellsAt k' b o n = some l := by
  unfold cellsAt at h ⊢
  cases hc : objCells (k.m.get b) with
  | none => rw [hc] at h; cases h
  | some c => rw [he.cells hc, ← hc]; exact h
theorem Mn.convK (t : TK) (Ty : TypeId → Option TI) (s : Option TI) (x : AV) : Mn fun h => convK t Ty h s x := by
  cases t <;> first | exact .no | skip
  · exact .oc (.on fun _ _ => on_cvR _ _) fun _ => .on fun _ _ => on_kW _ _
  · exact .oc (.bi (.oc (.bi (.val _) .no) fun _ => .och (fun _ _ _ he h => cellsAt_ext he h) fun _ => .oc .no fun _ => .val _) .no) fun _ => .val _
theorem Mn.lenK (t : TK) (x : AV) : Mn fun h => lenK t x h := by
  cases t <;> first | exact .no | skip
  · exact .oc .no fun _ => .kInt _ _
  · cases x <;> first | exact .no | exact .val _ | exact Mn.kInt (.ofNat _) .i64 | exact .bi (.val _) (Mn.kInt _ _)
  · cases x <;> first | exact .no | exact .och (fun _ _ _ he h => he.map h) fun _ => Mn.kInt (.ofNat _) .i64 | exact Mn.kInt (.ofNat _) .i64 | exact Mn.kInt (.ofNat 0) .i64
  · exact Mn.kInt (.ofNat _) .i64
theorem xop_ext {op : Op} {a : Tm} {v : AV} {k k' : H} (hk : kd op = .read) (he : Ext k k') (e : xop op (mkTI P) a k = .val v k) : xop op (mkTI P) a k' = .val v k' := by
  refine (?_ : Mn fun h => xop op (mkTI P) a h) k k' v he e
  cases op <;> first | (cases hk; done) | skip
  case load t x => exact .oc .no fun _ => .oc .no fun _ => .och (fun _ _ _ he h => he.cells h) fun _ => .bi (.kAgg _) (.kVal _)
  case slice t x lo hi mx => exact .oc .no fun _ => .sliceK _ _ _ _ _ _
  case convert s d x => exact .bi (.oc .no fun _ => .convK _ _ _ _) .no
  case lookup t x i ok => exact .oc .no fun _ => .oc .no fun _ => .oc (.bi (.oc .no fun r => .oc (.val _) fun _ => .val _) .no) fun _ => .och (fun _ _ _ he h => he.map h) fun _ => .oc .no fun r => .oc (.val _) fun _ => .val _
  case call c =>
    obtain ⟨callee, args, ts⟩ := c
    cases callee with
    | value f => cases hk
    | invoke r m => cases hk
    | builtin b =>
      cases b <;> first | (cases hk; done) | skip
      show Mn fun k => hd1 (fun x => hd1 (fun t => xLen x k (mkTI P t)) ts.toList) (evL args.toList a)
      rcases evL args.toList a with _ | ⟨x, _ | ⟨y, r⟩⟩ <;> first | exact .no | skip
      rcases ts.toList with _ | ⟨x', _ | ⟨y', r'⟩⟩ <;> first | exact .no | skip
      exact .oc .no fun _ => .lenK _ _

/-! A block that the evaluator has laid, and the model not yet. -/
theorem HR.ext {B0 : Nat} {g : G} {h h' : H} {w : World} (hr : HR B0 g h w) (e : ∀ b, h'.m.get b = h.m.get b) : HR B0 g h' w :=
  ⟨fun b l t B base h1 h2 => hr.cells b l t B base (by rw [← e]; exact h1) h2, fun b es c B base h1 h2 => hr.maps b es c B base (by rw [← e]; exact h1) h2, fun b it B base h1 h2 => hr.sits b it B base (by rw [← e]; exact h1) h2,
   fun b b' B base base' ⟨o, h1, h1'⟩ ⟨o', h2, h2'⟩ h3 h4 => hr.inj b b' B base base' ⟨o, by rw [← e]; exact h1, h1'⟩ ⟨o', by rw [← e]; exact h2, h2'⟩ h3 h4,
   fun b B base ⟨o, h1, h1'⟩ h2 => hr.low b B base ⟨o, by rw [← e]; exact h1, h1'⟩ h2, hr.bnd⟩
theorem Tr.late {B0 : Nat} {g0 g g1 : G} {h0 k : H} {w0 w w1 : World} (t : Tr B0 g0 h0 w0 g k w) {b : Nat} {ob : AObj} (u : Tr B0 g ⟨k.m, b⟩ w g1 ⟨k.m.set b ob, b + 1⟩ w1) (hg : k.m.get b = some ob) (hlo : h0.next ≤ b) (hhi : b < k.next) : Tr B0 g0 h0 w0 g1 k w1 where
  hr := u.hr.ext fun x => by
    show k.m.get x = (k.m.set b ob).get x
    rw [get_set]
    by_cases e : b = x
    · rw [if_pos e, ← e, hg]
    · rw [if_neg e]
  le := t.le.trans u.le
  old := fun x hx => by
    have h1 := u.old x (show x < b ∨ b + 1 ≤ x by omega)
    have h2 := t.old x hx
    exact ⟨h1.1.trans h2.1, h1.2.trans h2.2⟩
  next := t.next
  size := Nat.le_trans t.size u.size
  frame := fun B hB hno => by
    rw [u.frame B (by have := t.size; omega) (fun x base hl hp => ?_)]
    · exact t.frame B hB hno
    · rcases hg0 : g0.pos x with _ | ⟨B1, base1⟩
      · rcases t.newp x B base hg0 hp with h1 | ⟨b0, base0, h1, h2⟩
        · omega
        · exact hno b0 base0 h1 h2
      · have e := t.pos_old hg0 hp
        injection e with e1 e2
        subst e1
        exact hno x base1 (t.live_old hl hg0) hg0
  afr := t.afr
  lv := t.lv
  far := t.far
  new := t.new
  newp := fun x B base hg0 hp => by
    rcases hg' : g.pos x with _ | ⟨B1, base1⟩
    · rcases u.newp x B base hg' hp with h1 | ⟨b0, base0, h1, h2⟩
      · left; have := t.size; omega
      · rcases hg1 : g0.pos b0 with _ | ⟨B2, base2⟩
        · exact t.newp b0 B base0 hg1 h2
        · have e := t.pos_old hg1 h2
          injection e with e1 e2
          subst e1
          exact .inr ⟨b0, base2, t.live_old h1 hg1, hg1⟩
    · have e := u.pos_old hg' hp
      injection e with e1 e2
      subst e1
      exact t.newp x _ _ hg0 hg'
  os := u.os.trans t.os
  tape := u.tape.trans t.tape
  output := u.output.trans t.output
theorem live_set {k : H} {ob : AObj} {n x : Nat} (h : live ⟨k.m.set k.next ob, n⟩ x) (hx : x ≠ k.next) : live k x := by
  obtain ⟨o, h1, h2⟩ := h
  have h1 : (k.m.set k.next ob).get x = some o := h1
  rw [get_set, if_neg (fun e => hx e.symm)] at h1
  exact ⟨o, h1, h2⟩
/-- The evaluator lays a block ahead of the model. -/
theorem Tr.ahead {B0 : Nat} {g0 g : G} {h0 k : H} {w0 w : World} (t : Tr B0 g0 h0 w0 g k w) (hf : Fresh g k) (ob : AObj) : Tr B0 g0 h0 w0 g ⟨k.m.set k.next ob, k.next + 1⟩ w := by
  have hn : ∀ x p, g.pos x = some p → x ≠ k.next := fun x p h e => by
    have := hf.pos x (by omega)
    rw [h] at this; cases this
  have hget : ∀ x, x ≠ k.next → (k.m.set k.next ob).get x = k.m.get x := fun x hx => by rw [get_set, if_neg (fun e => hx e.symm)]
  refine ⟨⟨fun x l ty B base h1 h2 => t.hr.cells x l ty B base ((hget x (hn x _ h2)).symm.trans h1) h2, fun x es c B base h1 h2 => t.hr.maps x es c B base ((hget x (hn x _ h2)).symm.trans h1) h2, fun x it B base h1 h2 => t.hr.sits x it B base ((hget x (hn x _ h2)).symm.trans h1) h2,
    fun x y B b1 b2 h1 h2 h3 h4 => t.hr.inj x y B b1 b2 (live_set h1 (hn x _ h3)) (live_set h2 (hn y _ h4)) h3 h4, fun x B b1 h1 h2 => t.hr.low x B b1 (live_set h1 (hn x _ h2)) h2, t.hr.bnd⟩,
    t.le, fun x hx => t.old x ?_, ?_, t.size, t.frame, fun x o hx ho hg => ?_, fun x hx hl => t.lv x hx (live_set hl ?_), fun x hx => ?_, fun x h1 h2 => ?_, t.newp, t.os, t.tape, t.output⟩
  · have hx : x < h0.next ∨ k.next + 1 ≤ x := hx
    omega
  · have := t.next
    show h0.next ≤ k.next + 1
    omega
  · have := t.next
    exact (hget x (by omega)).trans (t.afr x o hx ho hg)
  · have := t.next
    omega
  · have hx : k.next + 1 ≤ x := hx
    exact (hget x (by omega)).trans (t.far x (by omega))
  · have h2 : x < k.next + 1 := h2
    rcases Nat.lt_or_ge x k.next with h3 | h3
    · exact t.new x h1 h3
    · have := t.old x (.inr h3)
      exact ⟨this.1.symm.trans (hf.pos x h3), this.2.symm.trans (hf.grow x h3)⟩
theorem Fresh.ahead {g : G} {k : H} (hf : Fresh g k) (ob : AObj) : Fresh g ⟨k.m.set k.next ob, k.next + 1⟩ where
  m := fun b hb => by
    have hb : k.next + 1 ≤ b := hb
    show (k.m.set k.next ob).get b = none
    rw [get_set, if_neg (by omega)]
    exact hf.m b (by omega)
  pos := fun b hb => hf.pos b (by have hb : k.next + 1 ≤ b := hb; omega)
  grow := fun b hb => hf.grow b (by have hb : k.next + 1 ≤ b := hb; omega)
theorem ext_ahead {g : G} {k : H} (hf : Fresh g k) (ob : AObj) (n : Nat) : Ext k ⟨k.m.set k.next ob, n⟩ := fun b o hb => by
  show (k.m.set k.next ob).get b = some o
  rw [get_set, if_neg (fun e => by subst e; rw [hf.m _ (Nat.le_refl _)] at hb; cases hb)]
  exact hb

/-! In the middle of a region: L is done by the evaluator, D by the model. -/
/-- What the evaluator has done, and the model not yet: it comes to the same now. -/
inductive Can (P : Program) (K : H) (pd : List RdE) (g : G) (ops : Array Oper) (i : Nat) (o : Oper) (ai : Tm) (v : AV) (nbi : Option Nat) : Prop
  | skip (h : wants o.guard ops ai = some false) (hv : v = .tup [])
  | pure (h : wants o.guard ops ai = some true) (hx : ∀ k, xop o.op (mkTI P) ai k = .val v k)
  | read (h : wants o.guard ops ai = some true) (hk : kd o.op = .read) (hx : xop o.op (mkTI P) ai K = .val v K) (hp : RdE.mk i (Nat.shiftLeft 1 i) o ai v ∈ pd)
  | alloc (h : wants o.guard ops ai = some true) (hk : kd o.op = .alloc) (b : Nat) (ob : AObj) (hb : nbi = some b) (hg : K.m.get b = some ob) (hp : g.pos b = none) (hgr : g.grow b = none) (hx : ∀ m, xop o.op (mkTI P) ai ⟨m, b⟩ = .val v ⟨m.set b ob, b + 1⟩)
structure DInv (P : Program) (ops : Array Oper) (B0 : Nat) (g0 : G) (h0 : H) (w0 : World) (a0 : Tm) (n : Nat) (L : Nat) (K : H) (aK : Tm) (pd : List RdE) (E : Nat → Tm × AV) (nb : Nat → Option Nat) (D : Nat → Prop) (g : G) (A : Act) (w : World) : Prop where
  sub : ∀ i, D i → L.testBit i = true
  cl : Closed ops D
  clL : Closed ops fun i => L.testBit i = true
  tr : Tr B0 g0 h0 w0 g K w
  fr : Fresh g K
  lo : B0 ≤ w.heap.size
  opr : ∀ i o t, ops[i]? = some o → L.testBit i = true → Looks ops o t →
    (∃ k ok, ops[k]? = some ok ∧ ok.dst = some t ∧ L.testBit k = true ∧ k ≠ i ∧ (∀ D, Closed ops D → D i → D k) ∧ tmD ((E i).1.get t) = (E k).2) ∨
    ((∀ k ok, ops[k]? = some ok → ok.dst = some t → k ≠ i → ∀ D, Closed ops D → D k → D i) ∧ (E i).1.get t = a0.get t)
  done : ∀ (i : Nat) (o : Oper) (d : Tmp), ops[i]? = some o → D i → o.dst = some d → VR g (E i).2 (A.tmps.getD d undef)
  pend : ∀ i o, ops[i]? = some o → L.testBit i = true → ¬ D i → Can P K pd g ops i o (E i).1 (E i).2 (nb i)
  tmpK : ∀ t, (∃ k ok, ops[k]? = some ok ∧ ok.dst = some t ∧ L.testBit k = true ∧ tmD (aK.get t) = (E k).2) ∨ ((∀ (k : Nat) (ok : Oper), ops[k]? = some ok → ok.dst = some t → L.testBit k = false) ∧ aK.get t = a0.get t)
  tmpA : ∀ t, (∀ (k : Nat) (ok : Oper), ops[k]? = some ok → ok.dst = some t → ¬ D k) → VR g (tmD (a0.get t)) (A.tmps.getD t undef)
  size : n ≤ A.tmps.size
  dn : A.defers = []
  nbL : ∀ i b, nb i = some b → L.testBit i = true ∧ h0.next ≤ b ∧ b < K.next
  inj : ∀ i j b, nb i = some b → nb j = some b → i = j
section
variable {ops : Array Oper} {B0 : Nat} {g0 g : G} {h0 K : H} {w0 w : World} {a0 aK : Tm} {n L : Nat} {pd : List RdE} {E : Nat → Tm × AV} {nb : Nat → Option Nat} {D : Nat → Prop} {A : Act}
theorem Closed.add {i : Nat} {o : Oper} (h : Closed ops D) (ho : ops[i]? = some o) (hr : ∀ e ∈ o.after, Region.binds .any e = true → D e.on) : Closed ops fun x => D x ∨ x = i := by
  intro j oj hj hd e he hb
  rcases hd with hd | rfl
  · exact .inl (h j oj hj hd e he hb)
  · rw [ho] at hj; injection hj with hj; subst hj
    exact .inl (hr e he hb)
/-- What an operation that may come up now looks at is what the evaluator saw. -/
theorem DInv.he (hI : DInv P ops B0 g0 h0 w0 a0 n L K aK pd E nb D g A w) {i : Nat} {o : Oper} (ho : ops[i]? = some o) (hL : L.testBit i = true) (hD : ¬ D i) (hr : ∀ e ∈ o.after, Region.binds .any e = true → D e.on) :
    ∀ t, Looks ops o t → VR g (tmD ((E i).1.get t)) (A.tmps.getD t undef) := fun t ht => by
  rcases hI.opr i o t ho hL ht with ⟨k, ok, h1, h2, _, h3, h4, h5⟩ | ⟨h1, h2⟩
  · have := h4 _ (hI.cl.add ho hr) (.inr rfl)
    rw [h5]
    exact hI.done k ok t h1 (this.resolve_right h3) h2
  · rw [h2]
    refine hI.tmpA t fun k ok hk hd hDk => ?_
    by_cases e : k = i
    · subst e; exact hD hDk
    · exact hD (h1 k ok hk hd e D hI.cl hDk)
/-- The same of one that the evaluator does next. -/
theorem DInv.opr_next (hI : DInv P ops B0 g0 h0 w0 a0 n L K aK pd E nb D g A w) (hO : Once ops) {i : Nat} {o : Oper} (ho : ops[i]? = some o) (hL : L.testBit i = false) (hr : ∀ e ∈ o.after, Region.binds .any e = true → L.testBit e.on = true) (t : Nat) (ht : Looks ops o t) :
    (∃ k ok, ops[k]? = some ok ∧ ok.dst = some t ∧ L.testBit k = true ∧ k ≠ i ∧ (∀ D, Closed ops D → D i → D k) ∧ tmD (aK.get t) = (E k).2) ∨
    ((∀ k ok, ops[k]? = some ok → ok.dst = some t → k ≠ i → ∀ D, Closed ops D → D k → D i) ∧ aK.get t = a0.get t) := by
  rcases hI.tmpK t with ⟨k, ok, h1, h2, h3, h4⟩ | ⟨h1, h2⟩
  · left
    have hne : k ≠ i := fun e => by subst e; rw [hL] at h3; cases h3
    refine ⟨k, ok, h1, h2, h3, hne, ?_, h4⟩
    rcases hO.sees k i ok o t h1 ho ht h2 hne with h5 | h5
    · exact h5
    · exact absurd (h5 _ hI.clL h3) (by rw [hL]; simp)
  · right
    refine ⟨fun k ok hk hd hne => ?_, h2⟩
    rcases hO.sees k i ok o t hk ho ht hd hne with h5 | h5
    · exfalso
      have := h5 _ (hI.clL.add ho hr) (.inr rfl)
      rcases this with h6 | h6
      · rw [h1 k ok hk hd] at h6; cases h6
      · exact hne h6
    · exact h5
theorem DInv.tmpK_next (hI : DInv P ops B0 g0 h0 w0 a0 n L K aK pd E nb D g A w) {i : Nat} {o : Oper} (ho : ops[i]? = some o) (hL : L.testBit i = false) (v : AV) (bit : Nat) (hb : bit = Nat.shiftLeft 1 i) (t : Nat) :
    (∃ k ok, ops[k]? = some ok ∧ ok.dst = some t ∧ (Nat.lor L bit).testBit k = true ∧ tmD ((putD o.dst v aK).get t) = (if k = i then (aK, v) else E k).2) ∨
    ((∀ (k : Nat) (ok : Oper), ops[k]? = some ok → ok.dst = some t → (Nat.lor L bit).testBit k = false) ∧ (putD o.dst v aK).get t = a0.get t) := by
  subst hb
  by_cases hd : o.dst = some t
  · left
    refine ⟨i, o, ho, hd, by rw [lor_test, bit_test]; simp, ?_⟩
    rw [hd, if_pos rfl]
    show tmD ((aK.set t v).get t) = v
    rw [get_set, if_pos rfl]
    rfl
  · have hp : (putD o.dst v aK).get t = aK.get t := by
      cases hdd : o.dst with
      | none => rfl
      | some d =>
        show (aK.set d v).get t = _
        rw [get_set, if_neg (fun e => hd (by rw [hdd, e]))]
    rw [hp]
    rcases hI.tmpK t with ⟨k, ok, h1, h2, h3, h4⟩ | ⟨h1, h2⟩
    · left
      have hne : k ≠ i := fun e => by subst e; rw [hL] at h3; cases h3
      exact ⟨k, ok, h1, h2, by rw [lor_test, h3]; rfl, by rw [if_neg hne]; exact h4⟩
    · right
      refine ⟨fun k ok hk hdk => ?_, h2⟩
      have hne : i ≠ k := fun e => by subst e; rw [ho] at hk; injection hk with hk; subst hk; exact hd hdk
      rw [lor_test, bit_test, h1 k ok hk hdk]
      simp [hne]
theorem lor_of {bit i j : Nat} (hb : bit = Nat.shiftLeft 1 i) : (Nat.lor L bit).testBit j = true ↔ L.testBit j = true ∨ j = i := by
  subst hb
  rw [lor_test, bit_test]
  simp only [Bool.or_eq_true, decide_eq_true_eq]
  constructor <;> rintro (h | h) <;> simp [h]
/-- The evaluator does one more, ahead of the model. -/
theorem DInv.add (hI : DInv P ops B0 g0 h0 w0 a0 n L K aK pd E nb D g A w) (hO : Once ops) {i : Nat} {o : Oper} (ho : ops[i]? = some o) (hL : L.testBit i = false) (hr : ∀ e ∈ o.after, Region.binds .any e = true → L.testBit e.on = true)
    {bit : Nat} (hb : bit = Nat.shiftLeft 1 i) {v : AV} {K' : H} {pd' : List RdE} {nbi : Option Nat} (htr : Tr B0 g0 h0 w0 g K' w) (hfr : Fresh g K') (hext : Ext K K') (hnx : K.next ≤ K'.next) (hpd : ∀ p ∈ pd, p ∈ pd') (hnb : ∀ b, nbi = some b → b = K.next ∧ b < K'.next)
    (hcan : Can P K' pd' g ops i o aK v nbi) :
    DInv P ops B0 g0 h0 w0 a0 n (Nat.lor L bit) K' (putD o.dst v aK) pd' (fun k => if k = i then (aK, v) else E k) (fun k => if k = i then nbi else nb k) D g A w := by
  have hDi : ¬ D i := fun h => by have := hI.sub i h; rw [hL] at this; cases this
  have hni : ∀ k, L.testBit k = true → k ≠ i := fun k hk e => by subst e; rw [hL] at hk; cases hk
  have hLor : ∀ j, (Nat.lor L bit).testBit j = true ↔ L.testBit j = true ∨ j = i := fun j => lor_of hb
  refine ⟨fun j hj => (hLor j).2 (.inl (hI.sub j hj)), hI.cl, fun j oj hj hl e he hbi => (hLor _).2 ?_, htr, hfr, hI.lo, fun j oj t hj hl ht => ?_, fun j oj d hj hd hdst => ?_, fun j oj hj hl hd => ?_, hI.tmpK_next ho hL v bit hb, hI.tmpA, hI.size, hI.dn, fun j b hj => ?_, fun j k b hj hk => ?_⟩
  · rcases (hLor j).1 hl with hl | rfl
    · exact .inl (hI.clL j oj hj hl e he hbi)
    · rw [ho] at hj; injection hj with hj; subst hj
      exact .inl (hr e he hbi)
  · have key : (∃ k ok, ops[k]? = some ok ∧ ok.dst = some t ∧ L.testBit k = true ∧ k ≠ j ∧ (∀ D, Closed ops D → D j → D k) ∧ tmD ((if j = i then (aK, v) else E j).1.get t) = (E k).2) ∨
      ((∀ k ok, ops[k]? = some ok → ok.dst = some t → k ≠ j → ∀ D, Closed ops D → D k → D j) ∧ (if j = i then (aK, v) else E j).1.get t = a0.get t) := by
      by_cases e : j = i
      · subst e
        rw [ho] at hj; injection hj with hj; subst hj
        rw [if_pos rfl]
        exact hI.opr_next hO ho hL hr t ht
      · rw [if_neg e]
        exact hI.opr j oj t hj (((hLor j).1 hl).resolve_right e) ht
    rcases key with ⟨k, ok, h1, h2, h3, h4, h5, h6⟩ | h1
    · exact .inl ⟨k, ok, h1, h2, (hLor k).2 (.inl h3), h4, h5, by rw [h6, if_neg (hni k h3)]⟩
    · exact .inr h1
  · have e : j ≠ i := fun e => by subst e; exact hDi hd
    simp only [if_neg e]
    exact hI.done j oj d hj hd hdst
  · by_cases e : j = i
    · subst e
      rw [ho] at hj; injection hj with hj; subst hj
      simp only [if_pos]
      exact hcan
    · simp only [if_neg e]
      cases hI.pend j oj hj (((hLor j).1 hl).resolve_right e) hd with
      | skip h1 h2 => exact .skip h1 h2
      | pure h1 h2 => exact .pure h1 h2
      | read h1 h2 h3 h4 => exact .read h1 h2 (xop_ext h2 hext h3) (hpd _ h4)
      | alloc h1 h2 b ob h3 h4 h5 h6 h7 => exact .alloc h1 h2 b ob h3 (hext _ _ h4) h5 h6 h7
  · by_cases e : j = i
    · subst e
      simp only [if_pos] at hj
      obtain ⟨h1, h2⟩ := hnb b hj
      exact ⟨(hLor j).2 (.inr rfl), by rw [h1]; exact hI.tr.next, h2⟩
    · simp only [if_neg e] at hj
      obtain ⟨h1, h2, h3⟩ := hI.nbL j b hj
      exact ⟨(hLor j).2 (.inl h1), h2, by omega⟩
  · by_cases e : j = i
    · by_cases e' : k = i
      · rw [e, e']
      · subst e
        simp only [if_pos] at hj
        simp only [if_neg e'] at hk
        have := (hnb b hj).1
        have := (hI.nbL k b hk).2.2
        omega
    · by_cases e' : k = i
      · subst e'
        simp only [if_pos] at hk
        simp only [if_neg e] at hj
        have := (hnb b hk).1
        have := (hI.nbL j b hj).2.2
        omega
      · simp only [if_neg e] at hj
        simp only [if_neg e'] at hk
        exact hI.inj j k b hj hk
theorem getD_put {A : Act} {d : Option Tmp} {v : Value} {t : Tmp} (h : d ≠ some t) : (A.put d v).tmps.getD t undef = A.tmps.getD t undef := by
  cases d with
  | none => rfl
  | some d =>
    have : d ≠ t := fun e => h (by rw [e])
    show (A.tmps.setIfInBounds d v).getD t undef = _
    simp only [Array.getD_eq_getD_getElem?, Array.getElem?_setIfInBounds_ne this]
theorem getD_put_same {A : Act} {d : Tmp} {v : Value} (h : d < A.tmps.size) : (A.put (some d) v).tmps.getD d undef = v := by
  show (A.tmps.setIfInBounds d v).getD d undef = v
  simp [Array.getD, h]
theorem put_size (A : Act) (d : Option Tmp) (v : Value) : (A.put d v).tmps.size = A.tmps.size := by cases d <;> simp [Act.put]
theorem put_defers (A : Act) (d : Option Tmp) (v : Value) : (A.put d v).defers = A.defers := by cases d <;> rfl
/-- The model does one that the evaluator has done. -/
theorem DInv.exec (hI : DInv P ops B0 g0 h0 w0 a0 n L K aK pd E nb D g A w) (hO : Once ops) {i : Nat} {o : Oper} (ho : ops[i]? = some o) (hL : L.testBit i = true) (hr : ∀ e ∈ o.after, Region.binds .any e = true → D e.on) (hok : dstOk n o.dst = true)
    {g1 : G} {w1 : World} {v' : Value} (htr : Tr B0 g0 h0 w0 g1 K w1) (hfr : Fresh g1 K) (hle : g.le g1) (hlo : B0 ≤ w1.heap.size) (hold : ∀ x, x < K.next → nb i ≠ some x → g1.pos x = g.pos x ∧ g1.grow x = g.grow x) (hv : VR g1 (E i).2 v') :
    DInv P ops B0 g0 h0 w0 a0 n L K aK pd E nb (fun x => D x ∨ x = i) g1 (A.put o.dst v') w1 := by
  refine ⟨fun j hj => ?_, hI.cl.add ho hr, hI.clL, htr, hfr, hlo, hI.opr, fun j oj d hj hd hdst => ?_, fun j oj hj hl hd => ?_, hI.tmpK, fun t ht => ?_, by rw [put_size]; exact hI.size, by rw [put_defers]; exact hI.dn, hI.nbL, hI.inj⟩
  · rcases hj with hj | rfl
    · exact hI.sub j hj
    · exact hL
  · by_cases e : j = i
    · subst e
      rw [ho] at hj; injection hj with hj; subst hj
      rw [hdst] at hok ⊢
      have hok : d < n := by simpa [dstOk, Nat.blt_eq] using hok
      rw [getD_put_same (Nat.lt_of_lt_of_le hok hI.size)]
      exact hv
    · rw [getD_put (fun h => e (hO.one j i oj o d hj ho hdst h))]
      exact (hI.done j oj d hj (hd.resolve_right e) hdst).mono hle
  · have e : j ≠ i := fun e => hd (.inr e)
    cases hI.pend j oj hj hl (fun h => hd (.inl h)) with
    | skip h1 h2 => exact .skip h1 h2
    | pure h1 h2 => exact .pure h1 h2
    | read h1 h2 h3 h4 => exact .read h1 h2 h3 h4
    | alloc h1 h2 b ob h3 h4 h5 h6 h7 =>
      have := hold b (hI.nbL j b h3).2.2 (fun h => e (hI.inj j i b h3 h))
      exact .alloc h1 h2 b ob h3 h4 (this.1.trans h5) (this.2.trans h6) h7
  · have hne : o.dst ≠ some t := fun h => ht i o ho h (.inr rfl)
    rw [getD_put hne]
    exact (hI.tmpA t fun k ok hk hd hDk => ht k ok hk hd (.inl hDk)).mono hle
/-- Both do one that may write. -/
theorem DInv.eff (hI : DInv P ops B0 g0 h0 w0 a0 n L K aK pd E nb D g A w) (hO : Once ops) {i : Nat} {o : Oper} (ho : ops[i]? = some o) (hL : L.testBit i = false) (hr : ∀ e ∈ o.after, Region.binds .any e = true → D e.on) (hok : dstOk n o.dst = true)
    {bit : Nat} (hb : bit = Nat.shiftLeft 1 i) {v : AV} {K' : H} {pd' : List RdE} {g1 : G} {w1 : World} {v' : Value} (u : Tr B0 g K w g1 K' w1) (hv : VR g1 v v')
    (hpd : ∀ j oj, ops[j]? = some oj → L.testBit j = true → ¬ D j → RdE.mk j (Nat.shiftLeft 1 j) oj (E j).1 (E j).2 ∈ pd → kd oj.op = .read → RdE.mk j (Nat.shiftLeft 1 j) oj (E j).1 (E j).2 ∈ pd' ∧ xop oj.op (mkTI P) (E j).1 K' = .val (E j).2 K') :
    DInv P ops B0 g0 h0 w0 a0 n (Nat.lor L bit) K' (putD o.dst v aK) pd' (fun k => if k = i then (aK, v) else E k) nb (fun x => D x ∨ x = i) g1 (A.put o.dst v') w1 := by
  have hDi : ¬ D i := fun h => by have := hI.sub i h; rw [hL] at this; cases this
  have hni : ∀ k, L.testBit k = true → k ≠ i := fun k hk e => by subst e; rw [hL] at hk; cases hk
  have hLor : ∀ j, (Nat.lor L bit).testBit j = true ↔ L.testBit j = true ∨ j = i := fun j => lor_of hb
  have hrL : ∀ e ∈ o.after, Region.binds .any e = true → L.testBit e.on = true := fun e he hbi => hI.sub _ (hr e he hbi)
  refine ⟨fun j hj => (hLor j).2 (hj.imp (hI.sub j) id), hI.cl.add ho hr, fun j oj hj hl e he hbi => (hLor _).2 ?_, hI.tr.trans u, hI.fr.tr u, Nat.le_trans hI.lo u.size, fun j oj t hj hl ht => ?_, fun j oj d hj hd hdst => ?_, fun j oj hj hl hd => ?_, hI.tmpK_next ho hL v bit hb, fun t ht => ?_, by rw [put_size]; exact hI.size, by rw [put_defers]; exact hI.dn, fun j b hj => ?_, hI.inj⟩
  · rcases (hLor j).1 hl with hl | rfl
    · exact .inl (hI.clL j oj hj hl e he hbi)
    · rw [ho] at hj; injection hj with hj; subst hj
      exact .inl (hrL e he hbi)
  · have key : (∃ k ok, ops[k]? = some ok ∧ ok.dst = some t ∧ L.testBit k = true ∧ k ≠ j ∧ (∀ D, Closed ops D → D j → D k) ∧ tmD ((if j = i then (aK, v) else E j).1.get t) = (E k).2) ∨
      ((∀ k ok, ops[k]? = some ok → ok.dst = some t → k ≠ j → ∀ D, Closed ops D → D k → D j) ∧ (if j = i then (aK, v) else E j).1.get t = a0.get t) := by
      by_cases e : j = i
      · subst e
        rw [ho] at hj; injection hj with hj; subst hj
        rw [if_pos rfl]
        exact hI.opr_next hO ho hL hrL t ht
      · rw [if_neg e]
        exact hI.opr j oj t hj (((hLor j).1 hl).resolve_right e) ht
    rcases key with ⟨k, ok, h1, h2, h3, h4, h5, h6⟩ | h1
    · exact .inl ⟨k, ok, h1, h2, (hLor k).2 (.inl h3), h4, h5, by rw [h6, if_neg (hni k h3)]⟩
    · exact .inr h1
  · by_cases e : j = i
    · subst e
      rw [ho] at hj; injection hj with hj; subst hj
      rw [hdst] at hok ⊢
      have hok : d < n := by simpa [dstOk, Nat.blt_eq] using hok
      rw [getD_put_same (Nat.lt_of_lt_of_le hok hI.size)]
      simp only [if_pos]
      exact hv
    · rw [getD_put (fun h => e (hO.one j i oj o d hj ho hdst h))]
      simp only [if_neg e]
      exact (hI.done j oj d hj (hd.resolve_right e) hdst).mono u.le
  · have e : j ≠ i := fun e => hd (.inr e)
    have hl := ((hLor j).1 hl).resolve_right e
    simp only [if_neg e]
    cases hI.pend j oj hj hl (fun h => hd (.inl h)) with
    | skip h1 h2 => exact .skip h1 h2
    | pure h1 h2 => exact .pure h1 h2
    | read h1 h2 h3 h4 =>
      obtain ⟨h5, h6⟩ := hpd j oj hj hl (fun h => hd (.inl h)) h4 h2
      exact .read h1 h2 h6 h5
    | alloc h1 h2 b ob h3 h4 h5 h6 h7 =>
      have hlt := (hI.nbL j b h3).2.2
      have := u.old b (.inl hlt)
      exact .alloc h1 h2 b ob h3 (u.afr b ob hlt h4 h5) (this.1.trans h5) (this.2.trans h6) h7
  · have hne : o.dst ≠ some t := fun h => ht i o ho h (.inr rfl)
    rw [getD_put hne]
    exact (hI.tmpA t fun k ok hk hd hDk => ht k ok hk hd (.inl hDk)).mono u.le
  · obtain ⟨h1, h2, h3⟩ := hI.nbL j b hj
    exact ⟨(hLor j).2 (.inl h1), h2, Nat.lt_of_lt_of_le h3 u.next⟩
end
end
end Go.Proofs.YtknnaeejkmlnbaaGreatDoor.Kx

/- A region whose order is drawn comes to the same in any order: pass by pass. -/
namespace Go.Proofs.YtknnaeejkmlnbaaGreatDoor.Kx
section
variable {P : Program} {ops : Array Oper}

/-- What the evaluator has still to do. -/
structure Rest (ops : Array Oper) (L : Nat) (l : List OX) : Prop where
  mem : ∀ x ∈ l, XOk ops x ∧ L.testBit x.i = false
  nd : (l.map OX.i).Nodup
  cov : ∀ i o, ops[i]? = some o → L.testBit i = true ∨ ∃ x ∈ l, x.i = i
theorem Rest.perm {L : Nat} {l l' : List OX} (h : Rest ops L l) (p : l.Perm l') : Rest ops L l' :=
  ⟨fun x hx => h.mem x (p.mem_iff.2 hx), (p.map OX.i).nodup_iff.1 h.nd, fun i o ho => (h.cov i o ho).imp id fun ⟨x, hx, e⟩ => ⟨x, p.mem_iff.1 hx, e⟩⟩
theorem Rest.next {L : Nat} {x : OX} {l : List OX} (h : Rest ops L (x :: l)) : Rest ops (Nat.lor L x.bit) l := by
  have hx := (h.mem x (.head _)).1
  have hnd := h.nd
  rw [List.map_cons, List.nodup_cons] at hnd
  refine ⟨fun y hy => ⟨(h.mem y (.tail _ hy)).1, ?_⟩, hnd.2, fun i o ho => ?_⟩
  · have hne : x.i ≠ y.i := fun e => hnd.1 (List.mem_map.2 ⟨y, hy, e.symm⟩)
    rw [hx.bit, lor_test, bit_test, (h.mem y (.tail _ hy)).2]
    simp [hne]
  · rcases h.cov i o ho with h1 | ⟨y, hy, e⟩
    · left; rw [lor_test, h1]; rfl
    · cases hy with
      | head => left; exact (lor_of hx.bit).2 (.inr e.symm)
      | tail _ hy => exact .inr ⟨y, hy, e⟩

theorem pVal_mk {x : OX} {g : PG} {kept : List OX} {L : Nat} {a : Tm} {pd : List RdE} {r : XR} {e : XE} {a' : Tm} {h' : H} (h : pVal x g kept L a pd r = .mk e a' h') : ∃ v k, r = .val v k ∧ g kept (Nat.lor L x.bit) (putD x.o.dst v a) k pd = .mk e a' h' := by
  cases r with
  | no => cases h
  | call _ _ _ => cases h
  | val v k =>
    refine ⟨v, k, rfl, ?_⟩
    replace h : nF (Nat.lor L x.bit) (fun L => g kept L (putD x.o.dst v a) k pd) = .mk e a' h' := h
    rwa [nF_eq] at h
theorem pRead_mk {x : OX} {g : PG} {kept : List OX} {L : Nat} {a : Tm} {pd : List RdE} {r : XR} {e : XE} {a' : Tm} {h' : H} (h : pRead x g kept L a pd r = .mk e a' h') : ∃ v k, r = .val v k ∧ g kept (Nat.lor L x.bit) (putD x.o.dst v a) k (RdE.mk x.i x.bit x.o a v :: pd) = .mk e a' h' := by
  cases r with
  | no => cases h
  | call _ _ _ => cases h
  | val v k =>
    refine ⟨v, k, rfl, ?_⟩
    replace h : nF (Nat.lor L x.bit) (fun L => g kept L (putD x.o.dst v a) k (RdE.mk x.i x.bit x.o a v :: pd)) = .mk e a' h' := h
    rwa [nF_eq] at h
/-- One step of a pass: what it leads on to. -/
inductive Step1 (P : Program) (ops : Array Oper) (x : OX) (kept : List OX) (L : Nat) (a : Tm) (h : H) (pd : List RdE) : List OX → Nat → Tm → H → List RdE → Prop
  | keep : Step1 P ops x kept L a h pd (x :: kept) L a h pd
  | skip (hr : ∀ e ∈ x.o.after, Region.binds .any e = true → L.testBit e.on = true) (hw : wants x.o.guard ops a = some false) : Step1 P ops x kept L a h pd kept (Nat.lor L x.bit) (putD x.o.dst (.tup []) a) h pd
  | pure (hr : ∀ e ∈ x.o.after, Region.binds .any e = true → L.testBit e.on = true) (hw : wants x.o.guard ops a = some true) (v : AV) (hx : ∀ k, xop x.o.op (mkTI P) a k = .val v k) : Step1 P ops x kept L a h pd kept (Nat.lor L x.bit) (putD x.o.dst v a) h pd
  | read (hr : ∀ e ∈ x.o.after, Region.binds .any e = true → L.testBit e.on = true) (hw : wants x.o.guard ops a = some true) (hk : kd x.o.op = .read) (v : AV) (hx : xop x.o.op (mkTI P) a h = .val v h) : Step1 P ops x kept L a h pd kept (Nat.lor L x.bit) (putD x.o.dst v a) h (RdE.mk x.i x.bit x.o a v :: pd)
  | alloc (hr : ∀ e ∈ x.o.after, Region.binds .any e = true → L.testBit e.on = true) (hw : wants x.o.guard ops a = some true) (hk : kd x.o.op = .alloc) (v : AV) (ob : AObj) (hx : ∀ m, xop x.o.op (mkTI P) a ⟨m, h.next⟩ = .val v ⟨m.set h.next ob, h.next + 1⟩) : Step1 P ops x kept L a h pd kept (Nat.lor L x.bit) (putD x.o.dst v a) ⟨h.m.set h.next ob, h.next + 1⟩ pd
theorem pass1_mk {x : OX} (hx : XOk ops x) {g : PG} {kept : List OX} {L : Nat} {a : Tm} {h : H} {pd : List RdE} {e : XE} {a' : Tm} {h' : H} (hp : pass1 x (mkTI P) ops g kept L a h pd = .mk e a' h') :
    ∃ kept1 L1 a1 h1 pd1, Step1 P ops x kept L a h pd kept1 L1 a1 h1 pd1 ∧ g kept1 L1 a1 h1 pd1 = .mk e a' h' := by
  unfold pass1 at hp
  cases hr : Nat.beq (Nat.land x.m L) x.m
  · rw [hr, bi_false] at hp
    exact ⟨_, _, _, _, _, .keep, hp⟩
  · rw [hr, bi_true] at hp
    have hr : ∀ e ∈ x.o.after, Region.binds .any e = true → L.testBit e.on = true := fun e he hb => land_sub hr ((hx.m _).2 ⟨e, he, hb, rfl⟩)
    cases hw : wants x.o.guard ops a with
    | none => rw [hw] at hp; cases hp
    | some b =>
      rw [hw, oc_some] at hp
      cases b
      · rw [bi_false, nF_eq] at hp
        exact ⟨_, _, _, _, _, .skip hr hw, hp⟩
      · rw [bi_true] at hp
        cases hk : kd x.o.op with
        | eff =>
          rw [hk] at hp
          exact ⟨_, _, _, _, _, .keep, hp⟩
        | pure =>
          rw [hk] at hp
          obtain ⟨v, k, h1, h2⟩ := pVal_mk hp
          obtain ⟨rfl, h3⟩ := xop_pure hk h1
          exact ⟨_, _, _, _, _, .pure hr hw v h3, h2⟩
        | read =>
          rw [hk] at hp
          obtain ⟨v, k, h1, h2⟩ := pRead_mk hp
          have := xop_read hk h1
          subst this
          exact ⟨_, _, _, _, _, .read hr hw hk v h1, h2⟩
        | alloc =>
          rw [hk] at hp
          obtain ⟨v, k, h1, h2⟩ := pVal_mk hp
          obtain ⟨ob, h3⟩ := xop_alloc hk h1
          have h4 := h3 h.m
          rw [show (⟨h.m, h.next⟩ : H) = h from rfl, h1] at h4
          injection h4 with h5 h6
          subst h6
          exact ⟨_, _, _, _, _, .alloc hr hw hk v ob h3, h2⟩
theorem pass_fin {fin : PG} {e : XE} {a' : Tm} {h' : H} : ∀ (l : List OX) (kept : List OX) (L : Nat) (a : Tm) (h : H) (pd : List RdE), (∀ x ∈ l, XOk ops x) → passF l (mkTI P) ops fin kept L a h pd = .mk e a' h' → ∃ kept1 L1 a1 h1 pd1, fin kept1 L1 a1 h1 pd1 = .mk e a' h' ∧ ∀ x ∈ kept1, x ∈ l ∨ x ∈ kept
  | [], kept, L, a, h, pd, _, hp => ⟨kept, L, a, h, pd, hp, fun _ hx => .inr hx⟩
  | x :: r, kept, L, a, h, pd, hl, hp => by
    obtain ⟨kept1, L1, a1, h1, pd1, hs, hg⟩ := pass1_mk (hl x (.head _)) (show pass1 x (mkTI P) ops (passF r (mkTI P) ops fin) kept L a h pd = .mk e a' h' from hp)
    obtain ⟨k2, L2, a2, h2, pd2, h3, h4⟩ := pass_fin r kept1 L1 a1 h1 pd1 (fun y hy => hl y (.tail _ hy)) hg
    refine ⟨k2, L2, a2, h2, pd2, h3, fun y hy => ?_⟩
    rcases h4 y hy with h5 | h5
    · exact .inl (.tail _ h5)
    · cases hs <;> first | exact .inr h5 | skip
      cases h5 with
      | head => exact .inl (.head _)
      | tail _ h5 => exact .inr h5
variable {B0 : Nat} {g0 g : G} {h0 : H} {w0 w : World} {a0 : Tm} {n : Nat} {D : Nat → Prop} {A : Act}
theorem pass_ok (hO : Once ops) {fin : PG} {e : XE} {a' : Tm} {h' : H} : ∀ (l : List OX) (kept : List OX) (L : Nat) (a : Tm) (h : H) (pd : List RdE) (E : Nat → Tm × AV) (nb : Nat → Option Nat), Rest ops L (kept ++ l) → DInv P ops B0 g0 h0 w0 a0 n L h a pd E nb D g A w →
    passF l (mkTI P) ops fin kept L a h pd = .mk e a' h' →
    ∃ kept1 L1 a1 h1 pd1 E1 nb1, fin kept1 L1 a1 h1 pd1 = .mk e a' h' ∧ Rest ops L1 kept1 ∧ DInv P ops B0 g0 h0 w0 a0 n L1 h1 a1 pd1 E1 nb1 D g A w
  | [], kept, L, a, h, pd, E, nb, hR, hI, hp => ⟨kept, L, a, h, pd, E, nb, hp, by simpa using hR, hI⟩
  | x :: r, kept, L, a, h, pd, E, nb, hR, hI, hp => by
    have hR := hR.perm List.perm_middle
    obtain ⟨hx, hxL⟩ := hR.mem x (.head _)
    obtain ⟨kept1, L1, a1, h1, pd1, hs, hg⟩ := pass1_mk hx (show pass1 x (mkTI P) ops (passF r (mkTI P) ops fin) kept L a h pd = .mk e a' h' from hp)
    cases hs with
    | keep => exact pass_ok hO r _ _ _ _ _ E nb hR hI hg
    | skip hr hw => exact pass_ok hO r _ _ _ _ _ _ _ hR.next (hI.add hO hx.op hxL hr hx.bit (nbi := none) hI.tr hI.fr (fun _ _ h => h) (Nat.le_refl _) (fun _ h => h) (fun b h => by cases h) (.skip hw rfl)) hg
    | pure hr hw v hv => exact pass_ok hO r _ _ _ _ _ _ _ hR.next (hI.add hO hx.op hxL hr hx.bit (nbi := none) hI.tr hI.fr (fun _ _ h => h) (Nat.le_refl _) (fun _ h => h) (fun b h => by cases h) (.pure hw hv)) hg
    | read hr hw hk v hv => exact pass_ok hO r _ _ _ _ _ _ _ hR.next (hI.add hO hx.op hxL hr hx.bit (nbi := none) hI.tr hI.fr (fun _ _ h => h) (Nat.le_refl _) (fun _ h => .tail _ h) (fun b h => by cases h) (.read hw hk hv (by rw [← hx.bit]; exact .head _))) hg
    | alloc hr hw hk v ob hv =>
      refine pass_ok hO r _ _ _ _ _ _ _ hR.next (hI.add hO hx.op hxL hr hx.bit (nbi := some h.next) (hI.tr.ahead hI.fr ob) (hI.fr.ahead ob) (ext_ahead hI.fr ob _) (Nat.le_succ _) (fun _ h => h) (fun b h => by injection h with h; subst h; exact ⟨rfl, Nat.lt_succ_self _⟩) ?_) hg
      refine .alloc hw hk h.next ob rfl ?_ (hI.fr.pos _ (Nat.le_refl _)) (hI.fr.grow _ (Nat.le_refl _)) hv
      show (h.m.set h.next ob).get h.next = some ob
      rw [get_set, if_pos rfl]

/-! All orders. -/
def DL (listed : Array Bool) (i : Nat) : Prop := listed.getD i false = true
theorem DL_set {listed : Array Bool} {i : Nat} (h : i < listed.size) : DL (listed.setIfInBounds i true) = fun x => DL listed x ∨ x = i := by
  funext x
  apply propext
  unfold DL
  by_cases e : i = x
  · subst e
    simp [h, Array.getD]
  · simp only [Array.getD_eq_getD_getElem?, Array.getElem?_setIfInBounds_ne e]
    constructor
    · exact .inl
    · rintro (h | h)
      · exact h
      · exact absurd h.symm e
def unl (ops : Array Oper) (listed : Array Bool) : Nat := ((List.range ops.size).filter fun i => !listed.getD i false).length
theorem filter_lt {α : Type} {p q : α → Bool} (hpq : ∀ x, q x = true → p x = true) {x : α} (hx : p x = true) (hx' : q x = false) : ∀ {l : List α}, x ∈ l → (l.filter q).length < (l.filter p).length
  | y :: r, hm => by
    have hle : ∀ l : List α, (l.filter q).length ≤ (l.filter p).length := fun l => by
      induction l with
      | nil => simp
      | cons a r ih =>
        by_cases h1 : q a = true
        · simp only [List.filter_cons, h1, hpq a h1, if_true, List.length_cons]; omega
        · by_cases h2 : p a = true
          · simp only [List.filter_cons, h1, h2, if_true, List.length_cons]; simp; omega
          · simp only [List.filter_cons, h1, h2]; exact ih
    by_cases e : x = y
    · subst e
      simp only [List.filter_cons, hx, hx', if_true, List.length_cons]
      have := hle r
      simp
      omega
    · have hm : x ∈ r := by cases hm with | head => exact absurd rfl e | tail _ h => exact h
      have ih := filter_lt hpq hx hx' hm
      by_cases h1 : q y = true
      · simp only [List.filter_cons, h1, hpq y h1, if_true, List.length_cons]; omega
      · by_cases h2 : p y = true
        · simp only [List.filter_cons, h1, h2, if_true, List.length_cons]; simp; omega
        · simp only [List.filter_cons, h1, h2]; exact ih
theorem unl_set {listed : Array Bool} {i : Nat} (hs : listed.size = ops.size) (hi : i < ops.size) (hn : ¬ DL listed i) : unl ops (listed.setIfInBounds i true) < unl ops listed := by
  have hD := DL_set (listed := listed) (i := i) (by omega)
  have key : ∀ x, (listed.setIfInBounds i true).getD x false = true ↔ (listed.getD x false = true ∨ x = i) := fun x => by
    have := congrFun hD x
    exact Iff.of_eq this
  refine filter_lt (fun x hx => ?_) (x := i) ?_ ?_ (by simpa using hi)
  · cases h1 : listed.getD x false
    · rfl
    · rw [(key x).2 (.inl h1)] at hx; cases hx
  · cases h1 : listed.getD i false
    · rfl
    · exact absurd h1 hn
  · rw [(key i).2 (.inr rfl)]; rfl
theorem unl_zero {listed : Array Bool} (h : unl ops listed = 0) : ∀ i o, ops[i]? = some o → DL listed i := fun i o ho => by
  have hi : i < ops.size := (Array.getElem?_eq_some_iff.1 ho).1
  unfold unl at h
  have := List.eq_nil_of_length_eq_zero h
  rw [List.filter_eq_nil_iff] at this
  have := this i (by simpa using hi)
  unfold DL
  simpa using this
theorem listed_iff {listed : Array Bool} {i : Nat} (hi : i < listed.size) : listed.getD i true = false ↔ ¬ DL listed i := by
  unfold DL
  simp [Array.getD, hi]
theorem ready_of {listed : Array Bool} {i : Nat} {o : Oper} (ho : ops[i]? = some o) (hs : listed.size = ops.size) (hn : ¬ DL listed i) (hr : ∀ e ∈ o.after, Region.binds .any e = true → DL listed e.on) : i ∈ Region.ready .any ops listed := by
  have hi : i < ops.size := (Array.getElem?_eq_some_iff.1 ho).1
  exact mem_ready.2 ⟨(listed_iff (by omega)).2 hn, o, ho, hr⟩
theorem all_done (hO : Once ops) {listed : Array Bool} (hs : listed.size = ops.size) (h : Region.ready .any ops listed = []) : ∀ i o, ops[i]? = some o → DL listed i := by
  intro i
  induction i using Nat.strongRecOn with
  | _ i ih =>
    intro o ho
    by_cases hn : DL listed i
    · exact hn
    · exfalso
      have : i ∈ Region.ready .any ops listed := by
        refine ready_of ho hs hn fun e he hb => ?_
        have hlt := hO.back i o ho e he hb
        have hi : i < ops.size := (Array.getElem?_eq_some_iff.1 ho).1
        exact ih e.on hlt ops[e.on] (Array.getElem?_eq_getElem (by omega))
      rw [h] at this
      cases this
theorem wants_ok' {g : G} {a : Tm} {A : Act} {ops : Array Oper} {o : Oper} {b : Bool} (hT : ∀ t, Looks ops o t → VR g (tmD (a.get t)) (A.tmps.getD t undef)) (h : wants o.guard ops a = some b) : Region.wanted o (yielded ops A.tmps) = b := by
  unfold wants at h
  unfold Region.wanted
  cases hg : o.guard with
  | none => rw [hg] at h; injection h
  | some p =>
    obtain ⟨j, want⟩ := p
    rw [hg] at h
    simp only [oc_some, idx_eq] at h
    unfold wantD at h
    cases ho : ops.toList[j]? with
    | none => rw [ho] at h; cases h
    | some o' =>
      rw [ho] at h
      simp only [oc_some] at h
      cases hd : o'.dst with
      | none => rw [hd] at h; cases h
      | some d =>
        rw [hd] at h
        simp only [oc_some] at h
        have ho' : ops[j]? = some o' := by simpa using ho
        have hv := hT d (.inr ⟨(j, want), o', hg, ho', hd⟩)
        simp only [yielded, ho', hd, Option.bind_some]
        generalize tmD (a.get d) = x at h hv
        cases x <;> first | (cases h; done) | skip
        · rename_i c
          have hvv : A.tmps.getD d undef = .bool c := by
            generalize A.tmps.getD d undef = y at hv ⊢
            cases hv; rfl
          have hlt : d < A.tmps.size := by
            rcases Nat.lt_or_ge d A.tmps.size with h1 | h1
            · exact h1
            · simp [Array.getD, Nat.not_lt.2 h1, undef] at hvv
          have hc : A.tmps[d]? = some (.bool c) := by
            rw [Array.getElem?_eq_getElem hlt]
            simp [Array.getD, hlt] at hvv
            rw [hvv]
          rw [hc]
          have h : some (bi want c (bi c false true)) = some b := h
          injection h with h
          rw [← h]
          cases want <;> cases c <;> rfl
        · rename_i l
          have h : some false = some b := h
          injection h with h
          subst h
          obtain ⟨l', hl', _⟩ := hv.tup_inv
          cases hc : A.tmps[d]? with
          | none => rfl
          | some y =>
            have : y = .tuple l'.toArray := by
              rw [← hl', Array.getD_eq_getD_getElem?, hc]
              rfl
            subst this
            rfl
theorem ev_of {g : G} {a : Tm} {A : Act} {o : Oper} (hT : ∀ t, Looks ops o t → VR g (tmD (a.get t)) (A.tmps.getD t undef)) : ∀ x ∈ o.op.operands, VR g (ev x a) (A.eval x) := fun x hx => by
  cases x with
  | tmp t => exact hT t (.inl hx)
  | const v => exact ofV_VR g v
  | global i => exact .any _
  | func f => exact .fn (.func f) [] [] [] [] .nil .nil
theorem opsOk_mem {n : Nat} {l : List Oper} (h : opsOk n l = true) : ∀ o ∈ l, dstOk n o.dst = true := by
  induction l with
  | nil => intro o ho; cases ho
  | cons a r ih =>
    intro o ho
    replace h : bi (dstOk n a.dst) (opsOk n r) false = true := h
    obtain ⟨h1, h2⟩ := bi3 h
    cases ho with
    | head => exact h1
    | tail _ ho => exact ih h2 o ho
variable {L : Nat} {K : H} {aK : Tm} {pd : List RdE} {E : Nat → Tm × AV} {nb : Nat → Option Nat} {Q : Exit → Act → World → Prop}
/-- The model does one that the evaluator has done. -/
theorem exec_wp (hI : DInv P ops B0 g0 h0 w0 a0 n L K aK pd E nb D g A w) (hO : Once ops) {i : Nat} {o : Oper} (ho : ops[i]? = some o) (hL : L.testBit i = true) (hD : ¬ D i) (hr : ∀ e ∈ o.after, Region.binds .any e = true → D e.on) (hok : dstOk n o.dst = true) {R : Act → World → Prop}
    (hR : ∀ g1 A1 w1, DInv P ops B0 g0 h0 w0 a0 n L K aK pd E nb (fun x => D x ∨ x = i) g1 A1 w1 → R A1 w1) : wpOp P ops Q i R A w := by
  have hT := hI.he ho hL hD hr
  have hev := ev_of hT
  unfold wpOp
  simp only [ho]
  have same : ∀ (hw : wants o.guard ops (E i).1 = some true), xop o.op (mkTI P) (E i).1 K = .val (E i).2 K → (if Region.wanted o (yielded ops A.tmps) = true then o.wp P A w R Q ∨ (o.asks P A w ∧ LetsOut Q) else R (A.put o.dst undef) w) := fun hw hx => by
    rw [if_pos (wants_ok' hT hw)]
    left
    have hog := xop_good (P := P) hI.tr.hr hI.lo (fun b o hb => by
      rcases Nat.lt_or_ge b K.next with h1 | h1
      · exact h1
      · rw [hI.fr.m b h1] at hb; cases hb) (hI.fr.pos _ (Nat.le_refl _)) (hI.fr.grow _ (Nat.le_refl _)) o (E i).1 A.eval hev
    rw [hx] at hog
    obtain ⟨nx, w1, g1, v', hr1, hnx, hv, ht⟩ := hog
    have key := hR g1 (A.put o.dst v') w1 (hI.exec hO ho hL hr hok (hI.tr.trans ht) (hI.fr.tr ht) ht.le (Nat.le_trans hI.lo ht.size) (fun x hx _ => ht.old x (.inl hx)) hv)
    unfold Oper.wp
    rw [hr1]
    rcases hnx with rfl | ⟨rfl, rfl⟩
    · exact key
    · exact key
  cases hI.pend i o ho hL hD with
  | skip h1 h2 =>
    have := wants_ok' hT h1
    rw [this]
    simp only [Bool.false_eq_true, if_false]
    exact hR g _ w (hI.exec hO ho hL hr hok hI.tr hI.fr (.refl g) hI.lo (fun _ _ _ => ⟨rfl, rfl⟩) (by rw [h2]; exact .tup [] [] .nil))
  | pure h1 h2 => exact same h1 (h2 K)
  | read h1 h2 h3 h4 => exact same h1 h3
  | alloc h1 h2 b ob h3 h4 h5 h6 h7 =>
    rw [if_pos (wants_ok' hT h1)]
    left
    have hog := xop_late (P := P) (h := ⟨K.m, b⟩) (hI.tr.hr.ext fun _ => rfl) hI.lo h5 h6 o h2 (E i).1 A.eval hev
    rw [h7 K.m] at hog
    obtain ⟨nx, w1, g1, v', hr1, hnx, hv, ht⟩ := hog
    obtain ⟨_, hlo, hhi⟩ := hI.nbL i b h3
    have hfr : Fresh g1 K := ⟨hI.fr.m, fun x hx => by rw [(ht.old x (show x < b ∨ b + 1 ≤ x by omega)).1]; exact hI.fr.pos x hx, fun x hx => by rw [(ht.old x (show x < b ∨ b + 1 ≤ x by omega)).2]; exact hI.fr.grow x hx⟩
    have key := hR g1 (A.put o.dst v') w1 (hI.exec hO ho hL hr hok (hI.tr.late ht h4 hlo hhi) hfr ht.le (Nat.le_trans hI.lo ht.size) (fun x _ hne => ht.old x (by
      have : b ≠ x := fun e => hne (by rw [h3, e])
      show x < b ∨ b + 1 ≤ x
      omega)) hv)
    unfold Oper.wp
    rw [hr1]
    rcases hnx with rfl | ⟨rfl, rfl⟩
    · exact key
    · exact key
/-- From a pass's end on, in any order. -/
theorem any_stage (hO : Once ops) (hok : opsOk n ops.toList = true)
    (hend : ∀ listed g A w, listed.size = ops.size → DInv P ops B0 g0 h0 w0 a0 n L K aK pd E nb (DL listed) g A w → (∀ i o, ops[i]? = some o → DL listed i) → Q .normal A w)
    (hnext : ∀ listed g A w, listed.size = ops.size → DInv P ops B0 g0 h0 w0 a0 n L K aK pd E nb (DL listed) g A w → ∀ i o, ops[i]? = some o → ¬ DL listed i → (∀ e ∈ o.after, Region.binds .any e = true → DL listed e.on) → L.testBit i = false →
      ∀ fuel, unl ops (listed.setIfInBounds i true) ≤ fuel → wpOp P ops Q i (wpAny P .any ops Q fuel (listed.setIfInBounds i true)) A w) :
    ∀ fuel listed g A w, listed.size = ops.size → DInv P ops B0 g0 h0 w0 a0 n L K aK pd E nb (DL listed) g A w → unl ops listed ≤ fuel → wpAny P .any ops Q fuel listed A w := by
  intro fuel
  induction fuel with
  | zero =>
    intro listed g A w hs hI hf
    have hall := unl_zero (show unl ops listed = 0 by omega)
    refine ⟨?_, hend listed g A w hs hI hall⟩
    cases hr : Region.ready .any ops listed with
    | nil => rfl
    | cons i r =>
      exfalso
      obtain ⟨h1, o, ho, _⟩ := mem_ready.1 (show i ∈ Region.ready .any ops listed by rw [hr]; exact .head _)
      have hi : i < ops.size := (Array.getElem?_eq_some_iff.1 ho).1
      exact (listed_iff (by omega)).1 h1 (hall i o ho)
  | succ fuel ih =>
    intro listed g A w hs hI hf
    refine ⟨fun h => hend listed g A w hs hI (all_done hO hs h), fun i hi => ?_⟩
    obtain ⟨h1, o, ho, hr⟩ := mem_ready.1 hi
    have hi : i < ops.size := (Array.getElem?_eq_some_iff.1 ho).1
    have hn := (listed_iff (by omega)).1 h1
    have hu := unl_set hs hi hn
    cases hL : L.testBit i with
    | false => exact hnext listed g A w hs hI i o ho hn hr hL fuel (by omega)
    | true =>
      refine exec_wp hI hO ho hL hn hr (opsOk_mem hok o (by simpa using Array.mem_of_getElem? ho)) fun g1 A1 w1 hI1 => ?_
      rw [← DL_set (by omega)] at hI1
      exact ih _ g1 A1 w1 (by simpa using hs) hI1 (by omega)
theorem chk_some {b : Nat} {h : H} : ∀ {l l' : List RdE}, chk (mkTI P) b h l = some l' → ∀ p ∈ l, hasB b p.bit = true ∨ (p ∈ l' ∧ ∃ k, xop p.o.op (mkTI P) p.a h = .val p.v k)
  | [], _, _, p, hp => by cases hp
  | q :: r, l', e, p, hp => by
    replace e : bi (hasB b q.bit) (chk (mkTI P) b h r) (oc none (fun l => chk1 (xop q.o.op (mkTI P) q.a h) q l) (chk (mkTI P) b h r)) = some l' := e
    cases hq : hasB b q.bit
    · rw [hq, bi_false] at e
      cases hr : chk (mkTI P) b h r with
      | none => rw [hr] at e; cases e
      | some l =>
        rw [hr, oc_some] at e
        cases hx : xop q.o.op (mkTI P) q.a h with
        | no => rw [hx] at e; cases e
        | call _ _ _ => rw [hx] at e; cases e
        | val v k =>
          rw [hx] at e
          replace e : bi (avEq v q.v) (some (q :: l)) none = some l' := e
          cases ha : avEq v q.v
          · rw [ha] at e; cases e
          · rw [ha, bi_true] at e
            injection e with e
            subst e
            have hv := avEq_true v _ ha
            subst hv
            cases hp with
            | head => exact .inr ⟨.head _, k, hx⟩
            | tail _ hp => exact (chk_some hr p hp).imp id fun ⟨h1, h2⟩ => ⟨.tail _ h1, h2⟩
    · rw [hq, bi_true] at e
      cases hp with
      | head => exact .inl hq
      | tail _ hp => exact chk_some e p hp
theorem DInv.he_next (hI : DInv P ops B0 g0 h0 w0 a0 n L K aK pd E nb D g A w) (hO : Once ops) {i : Nat} {o : Oper} (ho : ops[i]? = some o) (hL : L.testBit i = false) (hr : ∀ e ∈ o.after, Region.binds .any e = true → D e.on) :
    ∀ t, Looks ops o t → VR g (tmD (aK.get t)) (A.tmps.getD t undef) := fun t ht => by
  have hD : ¬ D i := fun h => by have := hI.sub i h; rw [hL] at this; cases this
  rcases hI.opr_next hO ho hL (fun e he hb => hI.sub _ (hr e he hb)) t ht with ⟨k, ok, h1, h2, _, h3, h4, h5⟩ | ⟨h1, h2⟩
  · have := h4 _ (hI.cl.add ho hr) (.inr rfl)
    rw [h5]
    exact hI.done k ok t h1 (this.resolve_right h3) h2
  · rw [h2]
    refine hI.tmpA t fun k ok hk hd hDk => ?_
    by_cases e : k = i
    · subst e; exact hD hDk
    · exact hD (h1 k ok hk hd e D hI.cl hDk)
theorem DInv.tr_all (hI : DInv P ops B0 g0 h0 w0 a0 n L K aK pd E nb D g A w) (hall : ∀ i o, ops[i]? = some o → D i) : TR g aK n A := by
  refine ⟨hI.size, fun t => ?_, hI.dn⟩
  rcases hI.tmpK t with ⟨k, ok, h1, h2, h3, h4⟩ | ⟨h1, h2⟩
  · rw [h4]
    exact hI.done k ok t h1 (hall k ok h1) h2
  · rw [h2]
    refine hI.tmpA t fun k ok hk hd hDk => ?_
    have := hI.sub k hDk
    rw [h1 k ok hk hd] at this
    cases this
theorem DInv.start {B0 : Nat} {g : G} {h : H} {w : World} {a : Tm} {n : Nat} {A : Act} (hr : HR B0 g h w) (hf : Fresh g h) (hB : B0 ≤ w.heap.size) (hT : TR g a n A) (d : Nat) : DInv P ops B0 g h w a n 0 h a [] (fun _ => (.e, .any)) (fun _ => none) (DL (Array.replicate ops.size false)) g A { w with drawn := d } := by
  have hD : ∀ i, ¬ DL (Array.replicate ops.size false) i := fun i h => by
    unfold DL at h
    simp [Array.getD] at h
  have hz : ∀ i, (0 : Nat).testBit i = false := fun i => by simp
  refine ⟨fun i h => absurd h (hD i), fun i o _ h => absurd h (hD i), fun i o _ h => ?_, Tr.drew hr d, hf, hB, fun i o t _ h => ?_, fun i o d _ h => absurd h (hD i), fun i o _ h => ?_, fun t => .inr ⟨fun k _ _ _ => hz k, rfl⟩, fun t _ => hT.val t, hT.size, hT.dn, fun i b h => (by cases h), fun i j b h => (by cases h)⟩
  all_goals (simp only [hz] at h; cases h)
end
end Go.Proofs.YtknnaeejkmlnbaaGreatDoor.Kx

/- The evaluator runs as the model does. -/
namespace Go.Proofs.YtknnaeejkmlnbaaGreatDoor.Kx
section
variable {P : Program} {Ov : Ovs}

/-- Where the run stands in both. -/
structure En (B0 : Nat) (g : G) (h : H) (w : World) : Prop where
  hr : HR B0 g h w
  fr : Fresh g h
  lo : B0 ≤ w.heap.size
theorem En.tr {B0 : Nat} {g g' : G} {h h' : H} {w w' : World} (e : En B0 g h w) (t : Tr B0 g h w g' h' w') : En B0 g' h' w' := ⟨t.hr, e.fr.tr t, Nat.le_trans e.lo t.size⟩
theorem En.hm {B0 : Nat} {g : G} {h : H} {w : World} (e : En B0 g h w) : ∀ b o, h.m.get b = some o → b < h.next := fun b o ho => by
  rcases Nat.lt_or_ge b h.next with hb | hb
  · exact hb
  · rw [e.fr.m b hb] at ho; cases ho

noncomputable abbrev rn (P : Program) (Ov : Ovs) (f : Nat) : Rc := run (mkTI P) (fun f => P.funcs[f]?) Ov f
/-- What comes of a piece of code. -/
def After (B0 : Nat) (g : G) (h : H) (w : World) (n : Nat) (e : XE) (a' : Tm) (h' : H) (Q : Exit → Act → World → Prop) : Prop :=
  ∀ g' A' w', TR g' a' n A' → Tr B0 g h w g' h' w' → Q (exitOf e) A' w'
def GoodC (P : Program) (Ov : Ovs) (f : Nat) : Prop := ∀ c a h e a' h', rn P Ov f (.code c) a h = .mk e a' h' → ∀ B0 g A w n, En B0 g h w → TR g a n A → codeOk n c = true → ∀ Q, After B0 g h w n e a' h' Q → CW P c Q A w
def GoodS (P : Program) (Ov : Ovs) (f : Nat) : Prop := ∀ s c a h e a' h', rn P Ov f (.scope s c) a h = .mk e a' h' → ∀ B0 g A w n, En B0 g h w → TR g a n A → codeOk n s = true → codeOk n c = true → ∀ Q, After B0 g h w n e a' h' Q → ScopeWp P s c Q A w
def GoodO (P : Program) (Ov : Ovs) (f : Nat) : Prop := ∀ ops l a h e a' h', rn P Ov f (.ops ops l) a h = .mk e a' h' → e = .normal ∧ ∀ B0 g A w n, En B0 g h w → TR g a n A → opsOk n l = true → ∀ Q, After B0 g h w n .normal a' h' Q → ∀ idxs : List Nat, idxs.map (fun i => ops[i]?) = l.map some → wpOps P ops Q idxs A w
def GoodK (P : Program) (Ov : Ovs) (f : Nat) : Prop := ∀ F args a h v h', rn P Ov f (.call F args) a h = .ret v h' → (∃ fn, P.funcs[F]? = some fn ∧ (fn.name == "runtime.NumGoroutine") = false ∧ fn.body.isSome = true) ∧ ∀ B0 g w args', En B0 g h w → VRs g args args' →
  Calls P F args'.toArray w fun e w' => ∃ v' g', e = .returned v' ∧ VR g' v v' ∧ Tr B0 g h w g' h' w'

def GoodD (P : Program) (Ov : Ovs) (f : Nat) : Prop := ∀ ops l L pd a h e a' h', rn P Ov f (.draw ops l L pd) a h = .mk e a' h' → (∀ x ∈ l, XOk ops x) → e = .normal ∧ ∀ B0 g0 h0 w0 a0 n, Once ops → opsOk n ops.toList = true → Rest ops L l → ∀ Q, After B0 g0 h0 w0 n .normal a' h' Q →
  ∀ E nb listed g A w, listed.size = ops.size → DInv P ops B0 g0 h0 w0 a0 n L h a pd E nb (DL listed) g A w → ∀ fuel, unl ops listed ≤ fuel → wpAny P .any ops Q fuel listed A w

/-- What comes of a call, whichever way it goes. -/
def CallOk (P : Program) (F : FuncId) (args' : Array Value) (B0 : Nat) (g : G) (h : H) (w : World) (v : AV) (h' : H) : Prop :=
  (∃ v' w' g', (callFunc F args').run P w = .ok (.value v') w' ∧ VR g' v v' ∧ Tr B0 g h w g' h' w') ∨
  ((callFunc F args').run P w = .ok (.enter F args') w ∧ Calls P F args' w fun e w' => ∃ v' g', e = .returned v' ∧ VR g' v v' ∧ Tr B0 g h w g' h' w')
/-- A call that is known beforehand. -/
def OvOk (P : Program) (F : FuncId) (x : List AV → H → XR) : Prop := ∀ args h v h', x args h = .val v h' → ∀ B0 g w args', En B0 g h w → VRs g args args' → CallOk P F args'.toArray B0 g h w v h'
def OvsOk (P : Program) (Ov : Ovs) : Prop := ∀ F x, Ov F = some x → OvOk P F x
def GoodX (P : Program) (Ov : Ovs) (f : Nat) : Prop := ∀ F args h v h', callK Ov (rn P Ov f) F args h = .ret v h' → ∀ B0 g w args', En B0 g h w → VRs g args args' → CallOk P F args'.toArray B0 g h w v h'
theorem goodX (hov : OvsOk P Ov) {f : Nat} (hK : GoodK P Ov f) : GoodX P Ov f := by
  intro F args h v h' hc B0 g w args' hE hargs
  have plain : rn P Ov f (.call F args) .e h = .ret v h' → CallOk P F args'.toArray B0 g h w v h' := fun hc => by
    obtain ⟨⟨fn, h1, h2, h3⟩, hcl⟩ := hK _ _ _ _ _ _ hc
    exact .inr ⟨callFunc_enter h1 h2 h3 _ _, hcl B0 g w args' hE hargs⟩
  unfold callK at hc
  cases ho : Ov F with
  | none =>
    rw [ho, oc_none] at hc
    exact plain hc
  | some x =>
    rw [ho, oc_some] at hc
    cases hx : x args h with
    | no => rw [hx] at hc; exact plain hc
    | call _ _ _ => rw [hx] at hc; exact plain hc
    | val v1 h1 =>
      rw [hx] at hc
      injection hc with e1 e2
      subst e1; subst e2
      exact hov F x ho args h _ _ hx B0 g w args' hE hargs
theorem CallOk.wp {F : FuncId} {args' : Array Value} {B0 : Nat} {g : G} {h : H} {w : World} {v : AV} {h' : H} (hc : CallOk P F args' B0 g h w v h') {o : Oper} {A : Act} (he : (execOp A.eval o).run P w = (callFunc F args').run P w) {K : Act → World → Prop} {Q : Exit → Act → World → Prop}
    (hk : ∀ v' g' w', VR g' v v' → Tr B0 g h w g' h' w' → K (A.put o.dst v') w') : o.wp P A w K Q := by
  unfold Oper.wp
  rw [he]
  rcases hc with ⟨v', w', g', h1, h2, h3⟩ | ⟨h1, h2⟩
  · rw [h1]; exact hk v' g' w' h2 h3
  · rw [h1]
    refine h2.mono ?_
    rintro e w' ⟨v', g', rfl, hv, ht⟩
    exact hk v' g' w' hv ht

theorem After.normal {B0 : Nat} {g : G} {h : H} {w : World} {n : Nat} {a : Tm} {A : Act} (hE : En B0 g h w) (hT : TR g a n A) {e : XE} {Q : Exit → Act → World → Prop} (hq : After B0 g h w n e a h Q) : Q (exitOf e) A w := hq g A w hT (.refl hE.hr)

theorem goodC_succ (hmo : P.follows .mixedOrders = true) {f : Nat} (hC : GoodC P Ov f) (hS : GoodS P Ov f) (hO : GoodO P Ov f) (hD : GoodD P Ov f) : GoodC P Ov (f + 1) := by
  intro c a h e a' h' hrun B0 g A w n hE hT hok Q hq
  replace hrun : codeF c (rn P Ov f) a h = .mk e a' h' := hrun
  cases c with
  | skip =>
    injection hrun with e1 e2 e3; subst e1; subst e2; subst e3
    exact wp_skip (hq.normal hE hT)
  | label l =>
    injection hrun with e1 e2 e3; subst e1; subst e2; subst e3
    exact wp_label (hq.normal hE hT)
  | exit id =>
    injection hrun with e1 e2 e3; subst e1; subst e2; subst e3
    exact wp_exit (hq.normal hE hT)
  | goto l =>
    injection hrun with e1 e2 e3; subst e1; subst e2; subst e3
    exact wp_goto (hq.normal hE hT)
  | ret =>
    injection hrun with e1 e2 e3; subst e1; subst e2; subst e3
    exact wp_ret (hq.normal hE hT)
  | region id ops d =>
    cases d with
    | false =>
      replace hrun : rn P Ov f (.ops ops ops.toList) a h = .mk e a' h' := hrun
      obtain ⟨he, hgo⟩ := hO _ _ _ _ _ _ _ hrun
      subst he
      refine wp_region (hgo B0 g A w n hE hT hok Q hq _ ?_)
      apply List.ext_getElem?
      intro i
      simp
      rcases Nat.lt_or_ge i ops.size with hi | hi
      · simp [hi]
      · simp [hi]
    | true =>
      replace hrun : rn P Ov f (.draw ops (prep ops) 0 []) a h = .mk e a' h' := hrun
      replace hok : bi (drawOk ops) (opsOk n ops.toList) false = true := hok
      obtain ⟨hd, hok⟩ := bi3 hok
      have hO := drawOk_once hd
      obtain ⟨hx, hall, hnd⟩ := prep_ok ops
      obtain ⟨he, hgo⟩ := hD _ _ _ _ _ _ _ _ _ hrun hx
      subst he
      refine wp_region_any hmo ?_
      refine hgo B0 g h w a n hO hok ⟨fun x hx' => ⟨hx x hx', by simp⟩, hnd, fun i o ho => .inr (hall i o ho)⟩ Q hq _ _ _ g A _ (by simp) (DInv.start hE.hr hE.fr hE.lo hT _) _ ?_
      unfold unl
      refine Nat.le_trans (List.length_filter_le _ _) ?_
      simp
  | seq x y =>
    replace hok : bi (codeOk n x) (codeOk n y) false = true := hok
    have hokx : codeOk n x = true ∧ codeOk n y = true := by
      cases h1 : codeOk n x <;> cases h2 : codeOk n y <;> rw [h1, h2] at hok <;> first | (cases hok; done) | exact ⟨rfl, rfl⟩
    replace hrun : seqK (rn P Ov f (.code x) a h) (rn P Ov f) y = .mk e a' h' := hrun
    cases hx : rn P Ov f (.code x) a h with
    | no => rw [hx] at hrun; cases hrun
    | ret v h2 => rw [hx] at hrun; cases hrun
    | mk e1 a1 h1 =>
      rw [hx] at hrun
      cases e1 with
      | normal =>
        replace hrun : rn P Ov f (.code y) a1 h1 = .mk e a' h' := hrun
        refine wp_seq (CW.wp (hC _ _ _ _ _ _ hx B0 g A w n hE hT hokx.1 _ ?_))
        intro g1 A1 w1 hT1 ht1
        exact CW.wp (hC _ _ _ _ _ _ hrun B0 g1 A1 w1 n (hE.tr ht1) hT1 hokx.2 Q (fun g2 A2 w2 hT2 ht2 => hq g2 A2 w2 hT2 (ht1.trans ht2)))
      | exit id =>
        injection hrun with e1 e2 e3; subst e1; subst e2; subst e3
        exact wp_seq (CW.wp (hC _ _ _ _ _ _ hx B0 g A w n hE hT hokx.1 _ hq))
      | goto l =>
        injection hrun with e1 e2 e3; subst e1; subst e2; subst e3
        exact wp_seq (CW.wp (hC _ _ _ _ _ _ hx B0 g A w n hE hT hokx.1 _ hq))
      | ret =>
        injection hrun with e1 e2 e3; subst e1; subst e2; subst e3
        exact wp_seq (CW.wp (hC _ _ _ _ _ _ hx B0 g A w n hE hT hokx.1 _ hq))
  | cond c x y =>
    replace hok : bi (codeOk n x) (codeOk n y) false = true := hok
    have hokx : codeOk n x = true ∧ codeOk n y = true := by
      cases h1 : codeOk n x <;> cases h2 : codeOk n y <;> rw [h1, h2] at hok <;> first | (cases hok; done) | exact ⟨rfl, rfl⟩
    replace hrun : condK (asBool (ev c a)) (rn P Ov f) x y a h = .mk e a' h' := hrun
    unfold condK at hrun
    cases hb : asBool (ev c a) with
    | none => rw [hb] at hrun; cases hrun
    | some b =>
      rw [hb] at hrun
      simp only [oc_some] at hrun
      have hv := hT.ev c
      rw [asBool_some hb] at hv
      generalize hcv : A.eval c = cv at hv
      cases hv
      cases b
      · exact wp_cond_false hcv (CW.wp (hC _ _ _ _ _ _ hrun B0 g A w n hE hT hokx.2 Q hq))
      · exact wp_cond_true hcv (CW.wp (hC _ _ _ _ _ _ hrun B0 g A w n hE hT hokx.1 Q hq))
  | block id c =>
    replace hrun : blockK (rn P Ov f (.code c) a h) id = .mk e a' h' := hrun
    cases hx : rn P Ov f (.code c) a h with
    | no => rw [hx] at hrun; cases hrun
    | ret v h2 => rw [hx] at hrun; cases hrun
    | mk e1 a1 h1 =>
      rw [hx] at hrun
      refine wp_block (CW.wp (hC _ _ _ _ _ _ hx B0 g A w n hE hT hok _ ?_))
      cases e1 with
      | normal => injection hrun with e1 e2 e3; subst e1; subst e2; subst e3; exact hq
      | goto l => injection hrun with e1 e2 e3; subst e1; subst e2; subst e3; exact hq
      | ret => injection hrun with e1 e2 e3; subst e1; subst e2; subst e3; exact hq
      | exit j =>
        replace hrun : bi (Nat.beq j id) (R.mk .normal a1 h1) (.mk (.exit j) a1 h1) = .mk e a' h' := hrun
        intro g1 A1 w1 hT1 ht1
        show (if j = id then Q .normal A1 w1 else Q (.exit j) A1 w1)
        cases hji : Nat.beq j id
        · rw [hji] at hrun
          injection hrun with e1 e2 e3; subst e1; subst e2; subst e3
          rw [if_neg (Nat.ne_of_beq_eq_false hji)]
          exact hq g1 A1 w1 hT1 ht1
        · rw [hji] at hrun
          injection hrun with e1 e2 e3; subst e1; subst e2; subst e3
          rw [if_pos (Nat.eq_of_beq_eq_true hji)]
          exact hq g1 A1 w1 hT1 ht1
  | loop c =>
    replace hrun : seqK (rn P Ov f (.code c) a h) (rn P Ov f) (.loop c) = .mk e a' h' := hrun
    show LoopWp P c Q A w
    cases hx : rn P Ov f (.code c) a h with
    | no => rw [hx] at hrun; cases hrun
    | ret v h2 => rw [hx] at hrun; cases hrun
    | mk e1 a1 h1 =>
      rw [hx] at hrun
      cases e1 with
      | normal =>
        replace hrun : rn P Ov f (.code (.loop c)) a1 h1 = .mk e a' h' := hrun
        refine LoopWp.round (CW.wp (hC _ _ _ _ _ _ hx B0 g A w n hE hT hok _ ?_))
        intro g1 A1 w1 hT1 ht1
        exact hC _ _ _ _ _ _ hrun B0 g1 A1 w1 n (hE.tr ht1) hT1 hok Q (fun g2 A2 w2 hT2 ht2 => hq g2 A2 w2 hT2 (ht1.trans ht2))
      | exit id =>
        injection hrun with e1 e2 e3; subst e1; subst e2; subst e3
        exact LoopWp.round (CW.wp (hC _ _ _ _ _ _ hx B0 g A w n hE hT hok _ hq))
      | goto l =>
        injection hrun with e1 e2 e3; subst e1; subst e2; subst e3
        exact LoopWp.round (CW.wp (hC _ _ _ _ _ _ hx B0 g A w n hE hT hok _ hq))
      | ret =>
        injection hrun with e1 e2 e3; subst e1; subst e2; subst e3
        exact LoopWp.round (CW.wp (hC _ _ _ _ _ _ hx B0 g A w n hE hT hok _ hq))
  | scope c =>
    replace hrun : rn P Ov f (.scope c c) a h = .mk e a' h' := hrun
    exact (hS _ _ _ _ _ _ _ hrun B0 g A w n hE hT hok hok Q hq).scope
  | rangeFunc _ _ _ _ => cases hrun
  | refuse _ => cases hrun
theorem goodS_succ {f : Nat} (hC : GoodC P Ov f) (hS : GoodS P Ov f) : GoodS P Ov (f + 1) := by
  intro s c a h e a' h' hrun B0 g A w n hE hT hoks hokc Q hq
  replace hrun : scopeK (rn P Ov f (.code c) a h) (rn P Ov f) s = .mk e a' h' := hrun
  cases hx : rn P Ov f (.code c) a h with
  | no => rw [hx] at hrun; cases hrun
  | ret v h2 => rw [hx] at hrun; cases hrun
  | mk e1 a1 h1 =>
    rw [hx] at hrun
    refine ScopeWp.round (CW.wp (hC _ _ _ _ _ _ hx B0 g A w n hE hT hokc _ ?_))
    cases e1 with
    | normal => injection hrun with e1 e2 e3; subst e1; subst e2; subst e3; exact hq
    | exit id => injection hrun with e1 e2 e3; subst e1; subst e2; subst e3; exact hq
    | ret => injection hrun with e1 e2 e3; subst e1; subst e2; subst e3; exact hq
    | goto l =>
      replace hrun : gotoK (findLabel s l) (rn P Ov f) s l a1 h1 = .mk e a' h' := hrun
      intro g1 A1 w1 hT1 ht1
      show (match findLabel s l with | some rest => ScopeWp P s rest Q A1 w1 | none => Q (.goto l) A1 w1)
      unfold gotoK at hrun
      cases hf : findLabel s l with
      | none =>
        rw [hf] at hrun
        injection hrun with e1 e2 e3; subst e1; subst e2; subst e3
        exact hq g1 A1 w1 hT1 ht1
      | some rest =>
        rw [hf] at hrun
        exact hS _ _ _ _ _ _ _ hrun B0 g1 A1 w1 n (hE.tr ht1) hT1 hoks (codeOk_label hoks hf) Q (fun g2 A2 w2 hT2 ht2 => hq g2 A2 w2 hT2 (ht1.trans ht2))

theorem VR.bool_inv {g : G} {b : Bool} {v : Value} (h : VR g (.bool b) v) : v = .bool b := by cases h; rfl
theorem wants_ok {g : G} {a : Tm} {n : Nat} {A : Act} (hT : TR g a n A) {ops : Array Oper} {o : Oper} {b : Bool} (h : wants o.guard ops a = some b) : Region.wanted o (yielded ops A.tmps) = b := by
  unfold wants at h
  unfold Region.wanted
  cases hg : o.guard with
  | none => rw [hg] at h; injection h
  | some p =>
    obtain ⟨j, want⟩ := p
    rw [hg] at h
    simp only [oc_some, idx_eq] at h
    unfold wantD at h
    cases ho : ops.toList[j]? with
    | none => rw [ho] at h; cases h
    | some o' =>
      rw [ho] at h
      simp only [oc_some] at h
      cases hd : o'.dst with
      | none => rw [hd] at h; cases h
      | some d =>
        rw [hd] at h
        simp only [oc_some] at h
        have hv := hT.val d
        have ho' : ops[j]? = some o' := by simpa using ho
        simp only [yielded, ho', hd, Option.bind_some]
        generalize tmD (a.get d) = x at h hv
        cases x <;> first | (cases h; done) | skip
        · rename_i c
          have hvv := hv.bool_inv
          have hlt : d < A.tmps.size := by
            rcases Nat.lt_or_ge d A.tmps.size with h1 | h1
            · exact h1
            · simp [Array.getD, Nat.not_lt.2 h1, undef] at hvv
          have hc : A.tmps[d]? = some (.bool c) := by
            rw [Array.getElem?_eq_getElem hlt]
            simp [Array.getD, hlt] at hvv
            rw [hvv]
          rw [hc]
          have h : some (bi want c (bi c false true)) = some b := h
          injection h with h
          rw [← h]
          cases want <;> cases c <;> rfl
        · rename_i l
          have h : some false = some b := h
          injection h with h
          subst h
          obtain ⟨l', hl', _⟩ := hv.tup_inv
          cases hc : A.tmps[d]? with
          | none => rfl
          | some y =>
            have : y = .tuple l'.toArray := by
              rw [← hl', Array.getD_eq_getD_getElem?, hc]
              rfl
            subst this
            rfl
theorem goodO_succ {f : Nat} (hO : GoodO P Ov f) (hX : GoodX P Ov f) : GoodO P Ov (f + 1) := by
  intro ops l a h e a' h' hrun
  replace hrun : opsF l (mkTI P) Ov (rn P Ov f) ops a h = .mk e a' h' := hrun
  cases l with
  | nil =>
    injection hrun with e1 e2 e3; subst e1; subst e2; subst e3
    refine ⟨rfl, fun B0 g A w n hE hT _ Q hq idxs hi => ?_⟩
    have : idxs = [] := by simpa using hi
    subst this
    exact hq.normal hE hT
  | cons o r =>
    replace hrun : op1 o (mkTI P) Ov (rn P Ov f) ops r a h = .mk e a' h' := hrun
    unfold op1 at hrun
    cases hw : wants o.guard ops a with
    | none => rw [hw] at hrun; cases hrun
    | some b =>
      rw [hw] at hrun
      simp only [oc_some] at hrun
      have split : ∀ n, opsOk n (o :: r) = true → dstOk n o.dst = true ∧ opsOk n r = true := fun n hok => by
        replace hok : bi (dstOk n o.dst) (opsOk n r) false = true := hok
        cases h1 : dstOk n o.dst <;> cases h2 : opsOk n r <;> rw [h1, h2] at hok <;> first | (cases hok; done) | exact ⟨rfl, rfl⟩
      cases b with
      | false =>
        rw [bi_false] at hrun
        obtain ⟨he, hgo⟩ := hO _ _ _ _ _ _ _ hrun
        refine ⟨he, fun B0 g A w n hE hT hok Q hq idxs hi => ?_⟩
        obtain ⟨hd, hok⟩ := split n hok
        cases idxs with
        | nil => simp at hi
        | cons i rest =>
          simp only [List.map_cons, List.cons.injEq] at hi
          simp only [wpOps, hi.1, wants_ok hT hw, Bool.false_eq_true, if_false]
          exact hgo B0 g (A.put o.dst undef) w n hE (hT.put hd (.tup [] [] .nil)) hok Q hq rest hi.2
      | true =>
        rw [bi_true] at hrun
        cases hx : xop o.op (mkTI P) a h with
        | no => rw [hx] at hrun; cases hrun
        | val v h1 =>
          rw [hx] at hrun
          replace hrun : rn P Ov f (.ops ops r) (putD o.dst v a) h1 = .mk e a' h' := hrun
          obtain ⟨he, hgo⟩ := hO _ _ _ _ _ _ _ hrun
          refine ⟨he, fun B0 g A w n hE hT hok Q hq idxs hi => ?_⟩
          obtain ⟨hd, hok⟩ := split n hok
          cases idxs with
          | nil => simp at hi
          | cons i rest =>
            simp only [List.map_cons, List.cons.injEq] at hi
            simp only [wpOps, hi.1, wants_ok hT hw, if_true]
            left
            have hog := xop_good (P := P) hE.hr hE.lo hE.hm (hE.fr.pos _ (Nat.le_refl _)) (hE.fr.grow _ (Nat.le_refl _)) o a A.eval (fun x _ => hT.ev x)
            rw [hx] at hog
            obtain ⟨nx, w1, g1, v', hr1, hnx, hv, ht⟩ := hog
            have key := hgo B0 g1 (A.put o.dst v') w1 n (hE.tr ht) ((hT.mono ht.le).put hd hv) hok Q (fun g2 A2 w2 hT2 ht2 => hq g2 A2 w2 hT2 (ht.trans ht2)) rest hi.2
            unfold Oper.wp
            rw [hr1]
            rcases hnx with rfl | ⟨rfl, rfl⟩
            · exact key
            · exact key
        | call F args h1 =>
          rw [hx] at hrun
          replace hrun : retK (callK Ov (rn P Ov f) F args h1) (rn P Ov f) ops r o.dst a = .mk e a' h' := hrun
          cases hc : callK Ov (rn P Ov f) F args h1 with
          | no => rw [hc] at hrun; cases hrun
          | mk _ _ _ => rw [hc] at hrun; cases hrun
          | ret v h2 =>
            rw [hc] at hrun
            replace hrun : rn P Ov f (.ops ops r) (putD o.dst v a) h2 = .mk e a' h' := hrun
            obtain ⟨he, hgo⟩ := hO _ _ _ _ _ _ _ hrun
            refine ⟨he, fun B0 g A w n hE hT hok Q hq idxs hi => ?_⟩
            obtain ⟨hd, hok⟩ := split n hok
            cases idxs with
            | nil => simp at hi
            | cons i rest =>
              simp only [List.map_cons, List.cons.injEq] at hi
              simp only [wpOps, hi.1, wants_ok hT hw, if_true]
              left
              have hog := xop_good (P := P) hE.hr hE.lo hE.hm (hE.fr.pos _ (Nat.le_refl _)) (hE.fr.grow _ (Nat.le_refl _)) o a A.eval (fun x _ => hT.ev x)
              rw [hx] at hog
              obtain ⟨rfl, args', hargs, hrun1⟩ := hog
              refine (hX _ _ _ _ _ hc B0 g w args' hE hargs).wp hrun1 fun v' g1 w1 hv ht => ?_
              exact hgo B0 g1 (A.put o.dst v') w1 n (hE.tr ht) ((hT.mono ht.le).put hd hv) hok Q (fun g2 A2 w2 hT2 ht2 => hq g2 A2 w2 hT2 (ht.trans ht2)) rest hi.2
theorem rd_ok {B0 : Nat} {g : G} {h : H} {w : World} (hr : HR B0 g h w) (t : TypeId) {x : AV} {xv : Value} (hx : VR g x xv) {v : AV} (e : rd h x (mkTI P t) = some v) : ∃ v', (do loadVar t (← asAddr xv) : Sem Value).run P w = .ok v' w ∧ VR g v v' := by
  unfold rd at e
  cases e1 : asPtr x with
  | none => rw [e1] at e; cases e
  | some p =>
    rw [e1] at e
    have := asPtr_some e1; subst this
    cases hx with | ptr b o B base hp =>
    cases e2 : mkTI P t with
    | none => rw [e2] at e; cases e
    | some ti =>
      have ht := mkTI_some e2
      rw [e2] at e
      simp only [oc_some] at e
      cases e3 : objCells (h.m.get p.1) with
      | none => rw [e3] at e; cases e
      | some c =>
        rw [e3] at e
        simp only [oc_some] at e
        have hc := hr.row e3 hp
        cases ha : isAgg ti.kind
        · rw [ha, bi_false, idx_eq] at e
          obtain ⟨v', a1, a2, _⟩ := hc.cell e
          exact ⟨v', by simp [asAddr, loadVar, ht.isAgg, ha, a1, Result.andThen], a2⟩
        · rw [ha, bi_true] at e
          cases e4 : sub c.1 p.2 ti.size with
          | none => rw [e4] at e; cases e
          | some r =>
            rw [e4] at e
            injection e with e
            subst e
            obtain ⟨cs, a1, a2, a3, a4, _⟩ := hc.cells (P := P) e4
            exact ⟨.agg cs.toArray, by simp [asAddr, loadVar, ht.isAgg, ha, ht.sizeOf, a4, Result.andThen], .agg r cs a2 a3⟩
def resF (tmps : Array Value) : ResultVar → Sem Value
  | .tmp t => pure (tmps.getD t undef)
  | .cell a t => do loadVar t (← asAddr (tmps.getD a undef))
theorem results_eq (fn : Func) (tmps : Array Value) : results fn tmps = (do let vs ← fn.results.mapM (resF tmps); pure (if h : vs.size = 1 then vs[0] else .tuple vs)) := by
  unfold results
  congr 2
theorem readL_ok {B0 : Nat} {g : G} {h : H} {w : World} (hr : HR B0 g h w) {a : Tm} {n : Nat} {A : Act} (hT : TR g a n A) (F : ResultVar → Sem Value) (hF1 : ∀ t, F (.tmp t) = pure (A.tmps.getD t undef)) (hF2 : ∀ a t, F (.cell a t) = (do loadVar t (← asAddr (A.tmps.getD a undef)))) :
    ∀ (l : List ResultVar) {vs : List AV}, readL (mkTI P) h a l = some vs → ∃ vs', (l.mapM (m := Sem) F).run P w = .ok vs' w ∧ VRs g vs vs'
  | [], vs, e => by injection e with e; subst e; exact ⟨[], rfl, .nil⟩
  | x :: r, vs, e => by
    replace e : oc none (fun v => oc none (fun l => some (v :: l)) (readL (mkTI P) h a r)) (rd1 x (mkTI P) h a) = some vs := e
    cases e1 : rd1 x (mkTI P) h a with
    | none => rw [e1] at e; cases e
    | some v =>
      cases e2 : readL (mkTI P) h a r with
      | none => rw [e1, e2] at e; cases e
      | some l =>
        rw [e1, e2] at e
        injection e with e
        subst e
        obtain ⟨vs', b1, b2⟩ := readL_ok hr hT F hF1 hF2 r e2
        rw [List.mapM_cons]
        cases x with
        | tmp t =>
          injection e1 with e1
          subst e1
          exact ⟨_, by simp only [Sem.run_bind, hF1, Sem.run_pure, Result.andThen_ok, b1], .cons _ _ _ _ (hT.val t) b2⟩
        | cell ad t =>
          replace e1 : rd h (tmD (a.get ad)) (mkTI P t) = some v := e1
          obtain ⟨v', c1, c2⟩ := rd_ok hr t (hT.val ad) e1
          exact ⟨v' :: vs', by rw [hF2]; simp only [Sem.run_bind] at c1 ⊢; rw [c1]; simp only [Result.andThen_ok, b1, Sem.run_pure], .cons _ _ _ _ c2 b2⟩
theorem one_ok {g : G} {l : List AV} {l' : List Value} (h : VRs g l l') : VR g (one l) (if h : l'.toArray.size = 1 then l'.toArray[0] else .tuple l'.toArray) := by
  cases h with
  | nil => exact .tup [] [] .nil
  | cons v v' r r' hv hs =>
    cases hs with
    | nil => exact hv
    | cons v2 v2' r2 r2' hv2 hs2 =>
      rw [dif_neg (by simp)]
      exact .tup _ (v' :: v2' :: r2') (.cons _ _ _ _ hv (.cons _ _ _ _ hv2 hs2))
theorem initT_get (l : List AV) : ∀ (i : Nat) (t : Tm) (k : Nat), (initT l i t).get k = if i ≤ k ∧ k < i + l.length then l[k - i]? else t.get k := by
  induction l with
  | nil => intro i t k; rw [if_neg (by simp)]; rfl
  | cons v r ih =>
    intro i t k
    show (initT r (i + 1) (t.set i v)).get k = _
    rw [ih, get_set]
    by_cases h1 : i + 1 ≤ k ∧ k < i + 1 + r.length
    · rw [if_pos h1, if_pos (by simp; omega), show k - i = (k - (i + 1)) + 1 by omega]
      rfl
    · rw [if_neg h1]
      by_cases h2 : i = k
      · subst h2
        rw [if_pos rfl, if_pos (by simp)]
        simp
      · rw [if_neg h2, if_neg (by simp; omega)]
theorem goodK_succ {f : Nat} (hC : GoodC P Ov f) : GoodK P Ov (f + 1) := by
  intro F args a h v h' hrun
  replace hrun : callF (P.funcs[F]?) (rn P Ov f) (mkTI P) args h = .ret v h' := hrun
  unfold callF at hrun
  cases hf : P.funcs[F]? with
  | none => rw [hf] at hrun; cases hrun
  | some fn =>
    rw [hf] at hrun
    simp only [oc_some] at hrun
    cases hok : fnOk fn
    · rw [hok] at hrun; cases hrun
    · rw [hok, bi_true] at hrun
      unfold fnOk at hok
      cases hnm : fn.name == "runtime.NumGoroutine"
      · rw [hnm, bi_false] at hok
        unfold bodyK at hrun
        cases hb : fn.body with
        | none => rw [hb] at hok; cases hok
        | some c =>
          rw [hb] at hrun hok
          simp only [oc_some] at hrun hok
          refine ⟨⟨fn, rfl, hnm, by rw [hb]; rfl⟩, fun B0 g w args' hE hargs => ?_⟩
          cases hx : rn P Ov f (.code c) (initT args 0 .e) h with
          | no => rw [hx] at hrun; cases hrun
          | ret _ _ => rw [hx] at hrun; cases hrun
          | mk e a1 h1 =>
            rw [hx] at hrun
            have hres : (e = .normal ∨ e = .ret) ∧ resK (readL (mkTI P) h1 a1 fn.results.toList) h1 = .ret v h' := by
              cases e with
              | normal => exact ⟨.inl rfl, hrun⟩
              | ret => exact ⟨.inr rfl, hrun⟩
              | exit _ => cases hrun
              | goto _ => cases hrun
            obtain ⟨hen, hres⟩ := hres
            unfold resK at hres
            cases hl : readL (mkTI P) h1 a1 fn.results.toList with
            | none => rw [hl] at hres; cases hres
            | some l =>
              rw [hl] at hres
              injection hres with r1 r2
              subst r1; subst r2
              refine calls_of_wp hf hb (CW.wp (hC _ _ _ _ _ _ hx B0 g _ w fn.ntmps hE ?_ hok _ ?_))
              · refine ⟨by simp; omega, fun t => ?_, rfl⟩
                rw [initT_get]
                simp only [Nat.zero_le, true_and, Nat.zero_add, Nat.sub_zero, get_e]
                by_cases ht : t < args.length
                · rw [if_pos ht]
                  obtain ⟨v', e1, e2⟩ := hargs.at (List.getElem?_eq_getElem ht)
                  have hlt : t < args'.length := by rw [← hargs.length]; exact ht
                  rw [List.getElem?_eq_getElem ht]
                  have : (args'.toArray ++ Array.replicate (fn.ntmps - args'.toArray.size) undef).getD t undef = v' := by
                    rw [Array.getD_eq_getD_getElem?, Array.getElem?_append_left (by simpa using hlt)]
                    simp [e1]
                  rw [this]
                  exact e2
                · rw [if_neg ht]
                  exact .any _
              · intro g1 A1 w1 hT1 ht1
                have hfin : A1.defers = [] ∧ ∃ v', (results fn A1.tmps).run P w1 = .ok v' w1 ∧ VR g1 (one l) v' := by
                  refine ⟨hT1.dn, ?_⟩
                  obtain ⟨vs', b1, b2⟩ := readL_ok (P := P) ht1.hr hT1 (resF A1.tmps) (fun _ => rfl) (fun _ _ => rfl) fn.results.toList hl
                  refine ⟨_, ?_, one_ok b2⟩
                  rw [results_eq, Array.mapM_eq_mapM_toList]
                  simp only [Sem.run_bind, Sem.run_map, b1, Result.andThen_ok, Sem.run_pure]
                obtain ⟨hd, v', hv1, hv2⟩ := hfin
                rcases hen with rfl | rfl
                · exact ⟨hd, v', hv1, v', g1, rfl, hv2, ht1⟩
                · exact ⟨hd, v', hv1, v', g1, rfl, hv2, ht1⟩
      · rw [hnm] at hok; cases hok
theorem dop_mk {x : XR} {Ty : TypeId → Option TI} {Ov : Ovs} {g : Rc} {ops : Array Oper} {e : OX} {r : List OX} {L : Nat} {a : Tm} {pd : List RdE} {e' : XE} {a' : Tm} {h' : H} (h : dop x Ty Ov g ops e r L a pd = .mk e' a' h') :
    ∃ v k, (x = .val v k ∨ ∃ F args k0, x = .call F args k0 ∧ callK Ov g F args k0 = .ret v k) ∧ ∃ pd', chk Ty e.b k pd = some pd' ∧ g (.draw ops r (Nat.lor L e.bit) pd') (putD e.o.dst v a) k = .mk e' a' h' := by
  have st : ∀ v k, stage2 Ty g ops e r L a pd v k = .mk e' a' h' → ∃ pd', chk Ty e.b k pd = some pd' ∧ g (.draw ops r (Nat.lor L e.bit) pd') (putD e.o.dst v a) k = .mk e' a' h' := fun v k h => by
    unfold stage2 at h
    cases hc : chk Ty e.b k pd with
    | none => rw [hc] at h; cases h
    | some pd' => rw [hc, oc_some, nF_eq] at h; exact ⟨pd', rfl, h⟩
  cases x with
  | no => cases h
  | val v k => exact ⟨v, k, .inl rfl, st v k h⟩
  | call F args k0 =>
    replace h : dret (callK Ov g F args k0) Ty g ops e r L a pd = .mk e' a' h' := h
    cases hc : callK Ov g F args k0 with
    | no => rw [hc] at h; cases h
    | mk _ _ _ => rw [hc] at h; cases h
    | ret v k => rw [hc] at h; exact ⟨v, k, .inr ⟨F, args, k0, rfl, hc⟩, st v k h⟩
theorem revL_mem {α : Type} : ∀ (l r : List α) (x : α), x ∈ revL l r ↔ x ∈ l ∨ x ∈ r := by
  intro l
  induction l with
  | nil => intro r x; show x ∈ r ↔ _; simp
  | cons a s ih => intro r x; show x ∈ revL s (a :: r) ↔ _; rw [ih]; simp [or_assoc, or_left_comm]
theorem revL_perm {α : Type} : ∀ (l r : List α), (revL l r).Perm (l ++ r) := by
  intro l
  induction l with
  | nil => intro r; exact .refl _
  | cons a s ih => intro r; exact (ih (a :: r)).trans List.perm_middle
theorem stage1_mk {Ty : TypeId → Option TI} {Ov : Ovs} {ops : Array Oper} {g : Rc} {e : OX} {r : List OX} {L : Nat} {a : Tm} {h : H} {pd : List RdE} {e' : XE} {a' : Tm} {h' : H} (hs : stage1 Ty Ov ops g e r L a h pd = .mk e' a' h') :
    (∀ x ∈ r, hasB x.b e.bit = true) ∧ wants e.o.guard ops a = some true ∧ dop (xop e.o.op Ty a h) Ty Ov g ops e r L a pd = .mk e' a' h' := by
  unfold stage1 at hs
  cases h1 : Nat.beq (Nat.land e.m L) e.m
  · rw [h1] at hs; cases hs
  · rw [h1, bi_true] at hs
    cases h2 : allL (fun x => hasB x.b e.bit) r
    · rw [h2] at hs; cases hs
    · rw [h2, bi_true] at hs
      cases h3 : wants e.o.guard ops a with
      | none => rw [h3] at hs; cases hs
      | some b =>
        rw [h3, oc_some] at hs
        cases b
        · cases hs
        · exact ⟨allL_mem h2, rfl, hs⟩
theorem goodD_succ {f : Nat} (hD : GoodD P Ov f) (hX : GoodX P Ov f) : GoodD P Ov (f + 1) := by
  intro ops l L pd a h e a' h' hrun hx
  replace hrun : passF l (mkTI P) ops (fun kept L a h pd => stageL (mkTI P) Ov ops (rn P Ov f) (revL kept []) L a h pd) [] L a h pd = .mk e a' h' := hrun
  refine ⟨?_, fun B0 g0 h0 w0 a0 n hO hok hR Q hq E nb listed g A w hs hI fuel hf => ?_⟩
  · obtain ⟨kept, L1, a1, h1, pd1, h2, h3⟩ := pass_fin l [] L a h pd hx hrun
    replace h2 : stageL (mkTI P) Ov ops (rn P Ov f) (revL kept []) L1 a1 h1 pd1 = .mk e a' h' := h2
    cases hk : revL kept [] with
    | nil => rw [hk] at h2; injection h2 with h2; exact h2.symm
    | cons y r =>
      rw [hk] at h2
      obtain ⟨_, _, h4⟩ := stage1_mk (show stage1 (mkTI P) Ov ops (rn P Ov f) y r L1 a1 h1 pd1 = _ from h2)
      obtain ⟨v, k, _, pd', _, h5⟩ := dop_mk h4
      refine (hD _ _ _ _ _ _ _ _ _ h5 fun z hz => ?_).1
      have : z ∈ revL kept [] := by rw [hk]; exact .tail _ hz
      rcases (revL_mem _ _ _).1 this with h6 | h6
      · rcases h3 z h6 with h7 | h7
        · exact hx z h7
        · cases h7
      · cases h6
  · obtain ⟨kept, L1, a1, h1, pd1, E1, nb1, h2, hR1, hI1⟩ := pass_ok hO l [] L a h pd E nb (by simpa using hR) hI hrun
    replace h2 : stageL (mkTI P) Ov ops (rn P Ov f) (revL kept []) L1 a1 h1 pd1 = .mk e a' h' := h2
    replace hR1 : Rest ops L1 (revL kept []) := hR1.perm (by have := (revL_perm kept []).symm; simpa using this)
    cases hk : revL kept [] with
    | nil =>
      rw [hk] at h2 hR1
      injection h2 with r1 r2 r3
      subst r1; subst r2; subst r3
      refine any_stage hO hok (fun listed g A w hs hI hall => hq g A w (hI.tr_all hall) hI.tr) (fun listed g A w hs hI i o ho hn hr hL => ?_) fuel listed g A w hs hI1 hf
      exfalso
      rcases hR1.cov i o ho with h3 | ⟨x, hx, _⟩
      · rw [hL] at h3; cases h3
      · cases hx
    | cons y r =>
      rw [hk] at h2 hR1
      obtain ⟨hall, hw, h4⟩ := stage1_mk (show stage1 (mkTI P) Ov ops (rn P Ov f) y r L1 a1 h1 pd1 = _ from h2)
      obtain ⟨v, k, hvk, pd', hc, h5⟩ := dop_mk h4
      obtain ⟨hy, hyL⟩ := hR1.mem y (.head _)
      obtain ⟨_, hgo⟩ := hD _ _ _ _ _ _ _ _ _ h5 (fun z hz => (hR1.mem z (.tail _ hz)).1)
      refine any_stage hO hok (fun listed g A w hs hI hall' => ?_) (fun listed g A w hs hI i o ho hn hr hL fuel hf => ?_) fuel listed g A w hs hI1 hf
      · exfalso
        have := hI.sub y.i (hall' _ _ hy.op)
        rw [hyL] at this; cases this
      · have hi : i < ops.size := (Array.getElem?_eq_some_iff.1 ho).1
        have hDy : ¬ DL listed y.i := fun h => by have := hI.sub _ h; rw [hyL] at this; cases this
        have hiy : i = y.i := by
          rcases hR1.cov i o ho with h3 | ⟨x, hx, hxi⟩
          · rw [hL] at h3; cases h3
          · cases hx with
            | head => exact hxi.symm
            | tail _ hx =>
              exfalso
              have hxk := (hR1.mem x (.tail _ hx)).1
              have hb := hall x hx
              rw [hy.bit] at hb
              have ho' : ops[i]? = some x.o := by rw [← hxi]; exact hxk.op
              rw [ho] at ho'; injection ho' with ho'; subst ho'
              have := hxk.b _ (hI.cl.add ho hr) (.inr hxi) _ (hasB_true hb)
              rcases this with h6 | h6
              · exact hDy h6
              · have hnd := hR1.nd
                rw [List.map_cons, List.nodup_cons] at hnd
                exact hnd.1 (List.mem_map.2 ⟨x, hx, by rw [hxi, h6]⟩)
        subst hiy
        have hoy : o = y.o := by have := hy.op; rw [ho] at this; injection this
        subst hoy
        have hT := hI.he_next hO ho hL hr
        have hok' := opsOk_mem hok y.o (by simpa using Array.mem_of_getElem? ho)
        have hpd : ∀ j oj, ops[j]? = some oj → L1.testBit j = true → ¬ DL listed j → RdE.mk j (Nat.shiftLeft 1 j) oj (E1 j).1 (E1 j).2 ∈ pd1 → kd oj.op = .read → RdE.mk j (Nat.shiftLeft 1 j) oj (E1 j).1 (E1 j).2 ∈ pd' ∧ xop oj.op (mkTI P) (E1 j).1 k = .val (E1 j).2 k := fun j oj hj hLj hDj hp hk => by
          rcases chk_some hc _ hp with h6 | ⟨h6, k2, h7⟩
          · exfalso
            have := hy.b _ (hI.cl.add ho hr) (.inr rfl) _ (hasB_true h6)
            rcases this with h8 | h8
            · exact hDj h8
            · subst h8; rw [hL] at hLj; cases hLj
          · have := xop_read hk h7
            subst this
            exact ⟨h6, h7⟩
        have fin : ∀ v' g2 w2, VR g2 v v' → Tr B0 g h1 w g2 k w2 → wpAny P .any ops Q fuel (listed.setIfInBounds y.i true) (A.put y.o.dst v') w2 := fun v' g2 w2 hv ht => by
          have hI2 := hI.eff hO ho hL hr hok' hy.bit ht hv hpd
          rw [← DL_set (by omega)] at hI2
          exact hgo B0 g0 h0 w0 a0 n hO hok hR1.next Q hq _ _ _ g2 _ w2 (by simpa using hs) hI2 fuel hf
        have hog := xop_good (P := P) hI.tr.hr hI.lo (fun b o hb => by
          rcases Nat.lt_or_ge b h1.next with h1' | h1'
          · exact h1'
          · rw [hI.fr.m b h1'] at hb; cases hb) (hI.fr.pos _ (Nat.le_refl _)) (hI.fr.grow _ (Nat.le_refl _)) y.o a1 A.eval (ev_of hT)
        unfold wpOp
        simp only [ho]
        rw [if_pos (wants_ok' hT hw)]
        left
        rcases hvk with hvk | ⟨F, args, k0, hvk, hcall⟩
        · unfold Oper.wp
          rw [hvk] at hog
          obtain ⟨nx, w2, g2, v', hr1, hnx, hv, ht⟩ := hog
          rw [hr1]
          rcases hnx with rfl | ⟨rfl, rfl⟩
          · exact fin _ g2 w2 hv ht
          · exact fin _ g2 w2 hv ht
        · rw [hvk] at hog
          obtain ⟨rfl, args', hargs, hrun1⟩ := hog
          exact (hX _ _ _ _ _ hcall B0 g w args' ⟨hI.tr.hr, hI.fr, hI.lo⟩ hargs).wp hrun1 fun v' g2 w2 hv ht => fin v' g2 w2 hv ht
theorem good (hmo : P.follows .mixedOrders = true) (hov : OvsOk P Ov) (f : Nat) : GoodC P Ov f ∧ GoodS P Ov f ∧ GoodO P Ov f ∧ GoodK P Ov f ∧ GoodD P Ov f := by
  induction f with
  | zero =>
    refine ⟨?_, ?_, ?_, ?_, ?_⟩
    · intro c a h e a' h' hr; cases hr
    · intro s c a h e a' h' hr; cases hr
    · intro ops l a h e a' h' hr; cases hr
    · intro F args a h v h' hr; cases hr
    · intro ops l L pd a h e a' h' hr; cases hr
  | succ f ih =>
    obtain ⟨hC, hS, hO, hK, hD⟩ := ih
    exact ⟨goodC_succ hmo hC hS hO hD, goodS_succ hC hS, goodO_succ hO (goodX hov hK), goodK_succ hC, goodD_succ hD (goodX hov hK)⟩
end
end Go.Proofs.YtknnaeejkmlnbaaGreatDoor.Kx

/- A run that the evaluator answers with true: what the model's call comes to. -/
namespace Go.Proofs.YtknnaeejkmlnbaaGreatDoor.Kx
open Go.RowKit

noncomputable def isT (r : R) : Bool := @R.rec (fun _ => Bool) false (fun _ _ _ => false) (fun v _ => oc false (fun b => b) (asBool v)) r
theorem isT_true {r : R} (h : isT r = true) : ∃ h', r = .ret (.bool true) h' := by
  cases r with
  | no => cases h
  | mk _ _ _ => cases h
  | ret v h' =>
    replace h : oc false (fun b => b) (asBool v) = true := h
    cases hv : asBool v with
    | none => rw [hv] at h; cases h
    | some b =>
      rw [hv, oc_some] at h
      subst h
      exact ⟨h', by rw [asBool_some hv]⟩
def G.e : G := ⟨fun _ => none, fun _ => none, fun _ => 0, fun _ _ _ h => by cases h⟩
theorem En.start (w : World) : En w.heap.size G.e ⟨.e, 0⟩ w :=
  ⟨⟨fun b l t B base h => (by simp at h), fun b es c B base h => (by simp at h), fun b it B base h => (by simp at h), fun b b' B base base' ⟨o, h, _⟩ => (by simp at h), fun b B base ⟨o, h, _⟩ => (by simp at h), fun b B base h => (by cases h)⟩,
   ⟨fun b _ => by simp, fun b _ => rfl, fun b _ => rfl⟩, Nat.le_refl _⟩
/-- The call answers true, and leaves what was there. -/
theorem run_true {P : Program} (hmo : P.follows .mixedOrders = true) {Ov : Ovs} (hov : OvsOk P Ov) {f F : Nat} {args : List AV} (hr : isT (rn P Ov f (.call F args) .e ⟨.e, 0⟩) = true) {args' : List Value} (ha : VRs G.e args args') (W : World) :
    Calls P F args'.toArray W fun e W' => e = .returned (.bool true) ∧ Below W.heap.size W W' := by
  obtain ⟨h', hr⟩ := isT_true hr
  refine (((good hmo hov f).2.2.2.1 _ _ _ _ _ _ hr).2 _ _ W args' (.start W) ha).mono ?_
  rintro e W' ⟨v', g', rfl, hv, ht⟩
  cases hv
  exact ⟨rfl, ht.os, ht.tape, ht.output, ht.size, fun k hk => ht.frame k hk fun b base ⟨o, h, _⟩ => by simp at h⟩
/-- Calls known beforehand, by their numbers. -/
noncomputable def ovl (l : List (FuncId × (List AV → H → XR))) (f : FuncId) : Option (List AV → H → XR) := @List.rec (FuncId × (List AV → H → XR)) (fun _ => Option (List AV → H → XR)) none (fun p _ r => bi (Nat.beq p.1 f) (some p.2) r) l
theorem ovl_ok {P : Program} {l : List (FuncId × (List AV → H → XR))} (h : ∀ p ∈ l, OvOk P p.1 p.2) : OvsOk P (ovl l) := by
  intro F x hx
  induction l with
  | nil => cases hx
  | cons p r ih =>
    replace hx : bi (Nat.beq p.1 F) (some p.2) (ovl r F) = some x := hx
    cases hb : Nat.beq p.1 F
    · rw [hb, bi_false] at hx
      exact ih (fun q hq => h q (.tail _ hq)) hx
    · rw [hb, bi_true] at hx
      injection hx with hx
      subst hx
      have := Nat.eq_of_beq_eq_true hb
      subst this
      exact h p (.head _)
end Go.Proofs.YtknnaeejkmlnbaaGreatDoor.Kx
