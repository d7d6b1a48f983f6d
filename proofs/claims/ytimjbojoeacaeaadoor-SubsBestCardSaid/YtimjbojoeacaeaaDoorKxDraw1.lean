/- Regions whose order is drawn: what waits for what, as bits; values that are alike; which operations only reckon, only read, only lay a new block. -/
import Derived.Test.YtimjbojoeacaeaaDoorKxOp
import Derived.OrdersHeld
namespace Go.Proofs.YtimjbojoeacaeaaDoor.Kx

/-! Bits. -/
theorem bit_test (k j : Nat) : (Nat.shiftLeft 1 k).testBit j = decide (k = j) := by
  show (1 <<< k).testBit j = _
  rw [Nat.one_shiftLeft, Nat.testBit_two_pow]
theorem hasB_true {b k : Nat} (h : hasB b (Nat.shiftLeft 1 k) = true) : b.testBit k = true := by
  cases hb : b.testBit k with
  | true => rfl
  | false =>
    exfalso
    have : Nat.land b (Nat.shiftLeft 1 k) = 0 := by
      apply Nat.eq_of_testBit_eq
      intro j
      show (b &&& Nat.shiftLeft 1 k).testBit j = _
      rw [Nat.testBit_and, bit_test]
      by_cases e : k = j
      · subst e; simp [hb]
      · simp [e]
    unfold hasB at h
    rw [this] at h
    cases h
theorem lor_test (x y j : Nat) : (Nat.lor x y).testBit j = (x.testBit j || y.testBit j) := Nat.testBit_or x y j
theorem land_sub {m L : Nat} (h : Nat.beq (Nat.land m L) m = true) {k : Nat} (hk : m.testBit k = true) : L.testBit k = true := by
  have h := Nat.eq_of_beq_eq_true h
  have : (m &&& L).testBit k = true := by rw [show m &&& L = m from h]; exact hk
  rw [Nat.testBit_and] at this
  cases hl : L.testBit k
  · rw [hl] at this; simp at this
  · rfl
theorem edgeB_eq (e : Edge) : edgeB e.ground = Region.binds .any e := by
  cases e with | mk on gr => cases gr <;> rfl
theorem wL_test (l : List Edge) (k : Nat) : (wL l).testBit k = true ↔ ∃ e ∈ l, Region.binds .any e = true ∧ e.on = k := by
  induction l with
  | nil => constructor
           · intro h; replace h : (0 : Nat).testBit k = true := h; simp at h
           · rintro ⟨e, he, _⟩; cases he
  | cons e r ih =>
    show (bi (edgeB e.ground) (Nat.lor (Nat.shiftLeft 1 e.on) (wL r)) (wL r)).testBit k = true ↔ _
    rw [edgeB_eq]
    cases hb : Region.binds .any e
    · rw [bi_false, ih]
      constructor
      · rintro ⟨e', h1, h2⟩; exact ⟨e', .tail _ h1, h2⟩
      · rintro ⟨e', h1, h2⟩
        cases h1 with
        | head => rw [hb] at h2; cases h2.1
        | tail _ h1 => exact ⟨e', h1, h2⟩
    · rw [bi_true, lor_test, bit_test]
      constructor
      · intro h
        by_cases e1 : e.on = k
        · exact ⟨e, .head _, hb, e1⟩
        · simp [e1] at h
          obtain ⟨e', h1, h2⟩ := ih.1 h
          exact ⟨e', .tail _ h1, h2⟩
      · rintro ⟨e', h1, h2⟩
        cases h1 with
        | head => simp [h2.2]
        | tail _ h1 => rw [ih.2 ⟨e', h1, h2⟩]; simp
theorem clL_test (bs : T Nat) (l : List Edge) (k : Nat) (h : (clL bs l).testBit k = true) : ∃ e ∈ l, Region.binds .any e = true ∧ ∃ b, bs.get e.on = some b ∧ b.testBit k = true := by
  induction l with
  | nil => replace h : (0 : Nat).testBit k = true := h; simp at h
  | cons e r ih =>
    replace h : (bi (edgeB e.ground) (Nat.lor (oc 0 (fun n => n) (bs.get e.on)) (clL bs r)) (clL bs r)).testBit k = true := h
    rw [edgeB_eq] at h
    cases hb : Region.binds .any e
    · rw [hb, bi_false] at h
      obtain ⟨e', h1, h2⟩ := ih h
      exact ⟨e', .tail _ h1, h2⟩
    · rw [hb, bi_true, lor_test] at h
      cases h1 : (clL bs r).testBit k
      · rw [h1, Bool.or_false] at h
        cases hg : bs.get e.on with
        | none => rw [hg] at h; replace h : (0 : Nat).testBit k = true := h; simp at h
        | some b => rw [hg] at h; exact ⟨e, .head _, hb, b, hg, h⟩
      · obtain ⟨e', h2, h3⟩ := ih h1
        exact ⟨e', .tail _ h2, h3⟩

/-! What is ahead of what. -/
def Closed (ops : Array Oper) (D : Nat → Prop) : Prop := ∀ i o, ops[i]? = some o → D i → ∀ e ∈ o.after, Region.binds .any e = true → D e.on
structure XOk (ops : Array Oper) (x : OX) : Prop where
  op : ops[x.i]? = some x.o
  bit : x.bit = Nat.shiftLeft 1 x.i
  m : ∀ k, x.m.testBit k = true ↔ ∃ e ∈ x.o.after, Region.binds .any e = true ∧ e.on = k
  b : ∀ D : Nat → Prop, Closed ops D → D x.i → ∀ k, x.b.testBit k = true → D k
theorem prepL_ok (ops : Array Oper) : ∀ (l : List Oper) (i : Nat) (bs : T Nat), (∀ k o, l[k]? = some o → ops[i + k]? = some o) → (∀ j b, bs.get j = some b → ∀ D : Nat → Prop, Closed ops D → D j → ∀ k, b.testBit k = true → D k) →
    (∀ x ∈ prepL l i bs, XOk ops x ∧ i ≤ x.i) ∧ (∀ k, k < l.length → ∃ x ∈ prepL l i bs, x.i = i + k) ∧ ((prepL l i bs).map OX.i).Nodup := by
  intro l
  induction l with
  | nil => intro i bs _ _; exact ⟨fun x hx => (by cases hx), fun k hk => (by simp at hk), (by show ([] : List Nat).Nodup; simp)⟩
  | cons o r ih =>
    intro i bs hl hbs
    have e : prepL (o :: r) i bs = OX.mk i (Nat.shiftLeft 1 i) (wL o.after.toList) (Nat.lor (wL o.after.toList) (clL bs o.after.toList)) o :: prepL r (i + 1) (bs.set i (Nat.lor (wL o.after.toList) (clL bs o.after.toList))) := by
      show (nF i fun i => nF (wL o.after.toList) fun m => nF (Nat.lor m (clL bs o.after.toList)) fun b => nF (Nat.shiftLeft 1 i) fun bit => OX.mk i bit m b o :: prepL r (Nat.succ i) (bs.set i b)) = _
      simp only [nF_eq]
    rw [e]
    have ho : ops[i]? = some o := by have := hl 0 o rfl; simpa using this
    have hb : ∀ D : Nat → Prop, Closed ops D → D i → ∀ k, (Nat.lor (wL o.after.toList) (clL bs o.after.toList)).testBit k = true → D k := by
      intro D hD hi k hk
      rw [lor_test] at hk
      cases h1 : (wL o.after.toList).testBit k
      · rw [h1, Bool.false_or] at hk
        obtain ⟨e, he, hbi, b, hg, hbk⟩ := clL_test _ _ _ hk
        exact hbs _ _ hg D hD (hD i o ho hi e (by simpa using he) hbi) k hbk
      · obtain ⟨e, he, hbi, rfl⟩ := (wL_test _ _).1 h1
        exact hD i o ho hi e (by simpa using he) hbi
    obtain ⟨h1, h2, h3⟩ := ih (i + 1) (bs.set i (Nat.lor (wL o.after.toList) (clL bs o.after.toList))) (fun k o' hk => by have := hl (k + 1) o' (by simpa using hk); rw [show i + 1 + k = i + (k + 1) by omega]; exact this) (fun j b hj => by
      rw [get_set] at hj
      by_cases e : i = j
      · subst e
        rw [if_pos rfl] at hj
        injection hj with hj
        subst hj
        exact hb
      · rw [if_neg e] at hj; exact hbs j b hj)
    refine ⟨fun x hx => ?_, fun k hk => ?_, ?_⟩
    · cases hx with
      | head => exact ⟨⟨ho, rfl, fun k => by rw [wL_test]; simp, hb⟩, Nat.le_refl _⟩
      | tail _ hx => exact ⟨(h1 x hx).1, by have := (h1 x hx).2; omega⟩
    · cases k with
      | zero => exact ⟨_, .head _, rfl⟩
      | succ k =>
        obtain ⟨x, hx, hxi⟩ := h2 k (by simpa using hk)
        exact ⟨x, .tail _ hx, by omega⟩
    · rw [List.map_cons, List.nodup_cons]
      refine ⟨fun hm => ?_, h3⟩
      obtain ⟨x, hx, hxi⟩ := List.mem_map.1 hm
      have := (h1 x hx).2
      replace hxi : x.i = i := hxi
      omega
theorem prep_ok (ops : Array Oper) : (∀ x ∈ prep ops, XOk ops x) ∧ (∀ k o, ops[k]? = some o → ∃ x ∈ prep ops, x.i = k) ∧ ((prep ops).map OX.i).Nodup := by
  obtain ⟨h1, h2, h3⟩ := prepL_ok ops ops.toList 0 .e (fun k o hk => by simpa using hk) (fun j b hj => by simp at hj)
  refine ⟨fun x hx => (h1 x hx).1, fun k o hk => ?_, h3⟩
  have : k < ops.size := (Array.getElem?_eq_some_iff.1 hk).1
  obtain ⟨x, hx, hxi⟩ := h2 k (by simpa using this)
  exact ⟨x, hx, by omega⟩

/-! What was looked at of a region once. -/
theorem allL_mem {α : Type} {p : α → Bool} {l : List α} (h : allL p l = true) : ∀ x ∈ l, p x = true := by
  induction l with
  | nil => intro x hx; cases hx
  | cons a r ih =>
    replace h : bi (p a) (allL p r) false = true := h
    cases ha : p a
    · rw [ha] at h; cases h
    · rw [ha, bi_true] at h
      intro x hx
      cases hx with
      | head => exact ha
      | tail _ hx => exact ih h x hx
theorem tmL_mem (l : List Operand) (t : Nat) (h : Operand.tmp t ∈ l) : t ∈ tmL l := by
  induction l with
  | nil => cases h
  | cons x r ih =>
    cases h with
    | head => exact .head _
    | tail _ h =>
      have := ih h
      cases x <;> first | exact .tail _ this | exact this
/-- Which temporaries an operation looks at. -/
def Looks (ops : Array Oper) (o : Oper) (t : Nat) : Prop := (Operand.tmp t ∈ o.op.operands) ∨ ∃ p q, o.guard = some p ∧ ops[p.1]? = some q ∧ q.dst = some t
theorem looks_mem {ops : Array Oper} {o : Oper} {t : Nat} (h : Looks ops o t) : t ∈ looksL ops o := by
  unfold looksL
  rw [app_eq, List.mem_append]
  rcases h with h | ⟨p, q, h1, h2, h3⟩
  · exact .inr (tmL_mem _ _ (by simpa using h))
  · left
    unfold gdL
    rw [h1]
    simp only [oc_some, idx_eq]
    have h2 : ops.toList[p.1]? = some q := by simpa using h2
    rw [h2]
    simp [h3]
structure Once (ops : Array Oper) : Prop where
  back : ∀ i o, ops[i]? = some o → ∀ e ∈ o.after, Region.binds .any e = true → e.on < i
  one : ∀ (i j : Nat) (x y : Oper) (t : Nat), ops[i]? = some x → ops[j]? = some y → x.dst = some t → y.dst = some t → i = j
  sees : ∀ (i j : Nat) (x y : Oper) (t : Nat), ops[i]? = some x → ops[j]? = some y → Looks ops y t → x.dst = some t → i ≠ j → (∀ D, Closed ops D → D j → D i) ∨ (∀ D, Closed ops D → D i → D j)
theorem dstIs_some (t : Nat) : dstIs t (some t) = true := by unfold dstIs; simp
theorem bi3 {c d : Bool} (h : bi c d false = true) : c = true ∧ d = true := by cases c <;> simp at h ⊢; exact h
theorem drawOk_once {ops : Array Oper} (h : drawOk ops = true) : Once ops := by
  obtain ⟨hx, hall, _⟩ := prep_ok ops
  have h := allL_mem (show allL _ (prep ops) = true from h)
  refine ⟨fun i o ho e he hb => ?_, fun i j x y t hi hj hxt hyt => ?_, fun i j x y t hi hj hl hxt hne => ?_⟩
  · obtain ⟨z, hz, hzi⟩ := hall i o ho
    have h1 := (bi3 (h z hz)).1
    have hk := hx z hz
    rw [hk.bit, hzi] at h1
    have ho' : z.o = o := by have := hk.op; rw [hzi, ho] at this; injection this with this; exact this.symm
    have ht := (hk.m e.on).2 ⟨e, by rw [ho']; exact he, hb, rfl⟩
    have hlt : z.m < 2 ^ i := by
      have := Nat.le_of_ble_eq_true h1
      rwa [show Nat.shiftLeft 1 i = 2 ^ i from Nat.one_shiftLeft i] at this
    rcases Nat.lt_or_ge e.on i with h2 | h2
    · exact h2
    · rw [Nat.testBit_lt_two_pow (Nat.lt_of_lt_of_le hlt (Nat.pow_le_pow_right (by omega) h2))] at ht
      cases ht
  · obtain ⟨z, hz, hzi⟩ := hall j y hj
    obtain ⟨u, hu, hui⟩ := hall i x hi
    have hk := hx z hz
    have hku := hx u hu
    have hzo : z.o = y := by have := hk.op; rw [hzi, hj] at this; injection this with this; exact this.symm
    have huo : u.o = x := by have := hku.op; rw [hui, hi] at this; injection this with this; exact this.symm
    have h1 := (bi3 (bi3 (h z hz)).2).2
    unfold dk2 at h1
    rw [hzo, hyt] at h1
    have h2 := allL_mem (show allL _ (prep ops) = true from h1) u hu
    rw [huo, hxt, dstIs_some, bi_true] at h2
    have := Nat.eq_of_beq_eq_true h2
    omega
  · obtain ⟨z, hz, hzi⟩ := hall j y hj
    obtain ⟨u, hu, hui⟩ := hall i x hi
    have hk := hx z hz
    have hku := hx u hu
    have hzo : z.o = y := by have := hk.op; rw [hzi, hj] at this; injection this with this; exact this.symm
    have huo : u.o = x := by have := hku.op; rw [hui, hi] at this; injection this with this; exact this.symm
    have h1 := (bi3 (bi3 (h z hz)).2).1
    have h2 := allL_mem (show allL _ (prep ops) = true from allL_mem h1 t (looks_mem (by rw [hzo]; exact hl))) u hu
    rw [huo, hxt, dstIs_some, bi_true] at h2
    have hne' : Nat.beq u.i z.i = false := by
      cases hb : Nat.beq u.i z.i
      · rfl
      · have := Nat.eq_of_beq_eq_true hb; omega
    rw [hne', bi_false] at h2
    cases h3 : hasB z.b u.bit
    · rw [h3, bi_false, hk.bit] at h2
      right
      intro D hD hi'
      have := hku.b D hD (by rw [hui]; exact hi') _ (hasB_true h2)
      rw [← hzi]; exact this
    · rw [hku.bit] at h3
      left
      intro D hD hj'
      have := hk.b D hD (by rw [hzi]; exact hj') _ (hasB_true h3)
      rw [← hui]; exact this

/-! Values that are alike. -/
theorem ikN_eqT {j k : IntKind} (h : Nat.beq (ikN j) (ikN k) = true) : j = k := by cases j <;> cases k <;> first | rfl | cases h
theorem ieq_true {a b : Int} (h : ieq a b = true) : a = b := by
  cases a <;> cases b <;> first | (cases h; done) | exact congrArg _ (Nat.eq_of_beq_eq_true h) | exact congrArg _ (Nat.eq_of_beq_eq_true h).symm
theorem lbeq_true : ∀ {x y : List Nat}, lbeq x y = true → x = y
  | [], [], _ => rfl
  | [], _ :: _, h => by cases h
  | _ :: _, [], h => by cases h
  | a :: r, b :: s, h => by
    replace h : bi (Nat.beq a b) (lbeq r s) false = true := h
    obtain ⟨h1, h2⟩ := bi3 h
    rw [Nat.eq_of_beq_eq_true h1, lbeq_true h2]
theorem capEq_true {x y : Cap} (h : capEq x y = true) : x = y := by
  cases x <;> cases y <;> first | (cases h; done) | skip
  · exact congrArg _ (Nat.eq_of_beq_eq_true h)
  · obtain ⟨h1, h2⟩ := bi3 h
    rw [Nat.eq_of_beq_eq_true h1, Nat.eq_of_beq_eq_true h2]
theorem bbeq {b c : Bool} (h : bi b c (bi c false true) = true) : b = c := by cases b <;> cases c <;> first | rfl | cases h
theorem bbeq2 {b c : Bool} (h : bi b c (bi c false true) = true) : b = c := by cases b <;> cases c <;> first | rfl | cases h
theorem avEq_true (x : AV) : ∀ y, avEq x y = true → x = y := by
  refine AV.rec (motive_1 := fun x => ∀ y, avEq x y = true → x = y) (motive_2 := fun l => ∀ m, @AV.rec_1 (fun _ => AV → Bool) (fun _ => List AV → Bool)
  isAny (fun b y => oc false (fun c => bi b c (bi c false true)) (asBool y)) (fun k n y => oc false (fun p => bi (Nat.beq (ikN k) (ikN p.1)) (ieq n p.2) false) (asInt y)) (fun l y => oc false (fun m => lbeq l m) (asStr y))
  isNilp (fun b o y => oc false (fun p => bi (Nat.beq b p.1) (Nat.beq o p.2) false) (asPtr y)) isNils (fun b o n c y => oc false (slcEq b o n c) (asSlc y)) isNilm (fun b y => oc false (fun c => Nat.beq b c) (asMap y))
  (fun _ _ _ _ _ _ => false) isNilf (fun _ _ _ _ => false) isNili (fun _ g y => oc false g (asAgg y)) (fun _ g y => oc false g (asTup y)) eqXslc eqXnat eqXres eqXi (fun _ _ _ _ => false)
  (fun l => @List.rec AV (fun _ => Bool) true (fun _ _ _ => false) l) (fun _ _ g gr l => @List.rec AV (fun _ => Bool) false (fun y r _ => bi (g y) (gr r) false) l) l m = true → l = m)
    ?_ ?_ ?_ ?_ ?_ ?_ ?_ ?_ ?_ ?_ ?_ ?_ ?_ ?_ ?_ ?_ ?_ ?_ ?_ ?_ ?_ ?_ ?_ x
  · intro y h; cases y <;> first | rfl | cases h
  · intro b y h; cases y <;> first | (cases h; done) | skip
    exact congrArg _ (bbeq h)
  · intro k n y h; cases y <;> first | (cases h; done) | skip
    obtain ⟨h1, h2⟩ := bi3 h
    rw [ikN_eqT h1, ieq_true h2]
  · intro l y h; cases y <;> first | (cases h; done) | skip
    exact congrArg _ (lbeq_true h)
  · intro y h; cases y <;> first | rfl | cases h
  · intro b o y h; cases y <;> first | (cases h; done) | skip
    obtain ⟨h1, h2⟩ := bi3 h
    rw [Nat.eq_of_beq_eq_true h1, Nat.eq_of_beq_eq_true h2]
  · intro y h; cases y <;> first | rfl | cases h
  · intro b o n c y h; cases y <;> first | (cases h; done) | skip
    obtain ⟨h1, h2⟩ := bi3 h
    obtain ⟨h2, h3⟩ := bi3 h2
    obtain ⟨h3, h4⟩ := bi3 h3
    rw [Nat.eq_of_beq_eq_true h1, Nat.eq_of_beq_eq_true h2, Nat.eq_of_beq_eq_true h3, capEq_true h4]
  · intro y h; cases y <;> first | rfl | cases h
  · intro b y h; cases y <;> first | (cases h; done) | skip
    exact congrArg _ (Nat.eq_of_beq_eq_true h)
  · intro f x y _ _ z h; cases h
  · intro y h; cases y <;> first | rfl | cases h
  · intro t v _ z h; cases h
  · intro y h; cases y <;> first | rfl | cases h
  · intro l ih y h; cases y <;> first | (cases h; done) | skip
    exact congrArg _ (ih _ h)
  · intro l ih y h; cases y <;> first | (cases h; done) | skip
    exact congrArg _ (ih _ h)
  · intro n ge y h; cases y <;> first | (cases h; done) | skip
    obtain ⟨h1, h2⟩ := bi3 h
    rw [Nat.eq_of_beq_eq_true h1, bbeq2 h2]
  · intro n y h; cases y <;> first | (cases h; done) | skip
    exact congrArg _ (Nat.eq_of_beq_eq_true h)
  · intro k m r y h; cases y <;> first | (cases h; done) | skip
    obtain ⟨h1, h2⟩ := bi3 h
    obtain ⟨h2, h3⟩ := bi3 h2
    rw [Nat.eq_of_beq_eq_true h1, Nat.eq_of_beq_eq_true h2, ieq_true h3]
  · intro x y h; cases y <;> first | (cases h; done) | skip
    rename_i z
    obtain ⟨h1, h2⟩ := bi3 h
    obtain ⟨h2, h3⟩ := bi3 h2
    obtain ⟨h3, h4⟩ := bi3 h3
    obtain ⟨h4, h5⟩ := bi3 h4
    obtain ⟨x1, x2, x3, x4, x5⟩ := x
    obtain ⟨z1, z2, z3, z4, z5⟩ := z
    have e1 : x1 = z1 := Nat.eq_of_beq_eq_true h1
    have e2 : x2 = z2 := ieq_true h2
    have e3 : x3 = z3 := ieq_true h3
    have e4 : x4 = z4 := ieq_true h4
    have e5 : x5 = z5 := ieq_true h5
    rw [e1, e2, e3, e4, e5]
  · intro b n L y h; cases h
  · intro m h; cases m <;> first | rfl | cases h
  · intro v r ihv ihr m h
    cases m with
    | nil => cases h
    | cons y s =>
      obtain ⟨h1, h2⟩ := bi3 h
      rw [ihv _ h1, ihr _ h2]
end Go.Proofs.YtimjbojoeacaeaaDoor.Kx
