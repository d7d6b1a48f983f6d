/- A region whose order is drawn: what stands in the middle of it. -/
import Derived.Test.YtimjbojoeacaeaaDoorKxDraw2
import Derived.Test.YtimjbojoeacaeaaDoorKxCode
namespace Go.Proofs.YtimjbojoeacaeaaDoor.Kx
section
variable {P : Program}

/-! A heap that holds more. -/
def Ext (k k' : H) : Prop := ∀ b o, k.m.get b = some o → k'.m.get b = some o
theorem Ext.cells {k k' : H} (h : Ext k k') {b : Nat} {c : List AV × TypeId} (e : objCells (k.m.get b) = some c) : objCells (k'.m.get b) = some c := by
  cases hg : k.m.get b with
  | none => rw [hg] at e; cases e
  | some o => rw [h _ _ hg, ← hg]; exact e
theorem Ext.map {k k' : H} (h : Ext k k') {b : Nat} {c : Mp} (e : objMap (k.m.get b) = some c) : objMap (k'.m.get b) = some c := by
  cases hg : k.m.get b with
  | none => rw [hg] at e; cases e
  | some o => rw [h _ _ hg, ← hg]; exact e
/-- What it told over a heap it tells over one that holds more. -/
def Mn (F : H → XR) : Prop := ∀ k k' v, Ext k k' → F k = .val v k → F k' = .val v k'
theorem Mn.no : Mn fun _ => .no := fun _ _ _ _ e => by cases e
theorem Mn.on {F : H → XR} (hF : ∀ h k, XR.on h (F k) = F h) : Mn F := fun k k' v _ e => by rw [← hF k' k, e]; rfl
theorem Mn.oc {α : Type} {n : H → XR} {f : α → H → XR} {o : Option α} (hn : Mn n) (hf : ∀ x, Mn (f x)) : Mn fun h => Kx.oc (n h) (fun x => f x h) o := by cases o <;> first | exact hn | exact hf _
theorem Mn.och {α : Type} {f : α → H → XR} {o : H → Option α} (ho : ∀ k k' x, Ext k k' → o k = some x → o k' = some x) (hf : ∀ x, Mn (f x)) : Mn fun h => Kx.oc .no (fun x => f x h) (o h) := fun k k' v he e => by
  cases h : o k with
  | none => simp only [h, oc_none] at e; cases e
  | some x => simp only [h, oc_some] at e; simp only [ho k k' x he h, oc_some]; exact hf x k k' v he e
theorem Mn.bi {c : Bool} {x y : H → XR} (hx : Mn x) (hy : Mn y) : Mn fun h => Kx.bi c (x h) (y h) := by cases c <;> first | exact hx | exact hy
theorem Mn.bih {c : H → Bool} {x : H → XR} (hc : ∀ k k', Ext k k' → c k = true → c k' = true) (hx : Mn x) : Mn fun h => Kx.bi (c h) (x h) .no := fun k k' v he e => by
  cases h : c k with
  | false => simp only [h, bi_false] at e; cases e
  | true => simp only [h, bi_true] at e; simp only [hc k k' he h, bi_true]; exact hx k k' v he e
theorem Mn.val (v : AV) : Mn fun h => .val v h := .on fun _ _ => rfl
theorem Mn.kVal (o : Option AV) : Mn fun h => kVal h o := .on fun _ _ => on_kVal _
theorem Mn.kAgg (o : Option (List AV)) : Mn fun h => kAgg h o := .on fun _ _ => on_kAgg _
theorem Mn.kInt (z : Int) (t : IntKind) : Mn fun h => kInt z h t := .on fun _ _ => on_kInt _ _
theorem Mn.nF {n : Nat} {f : Nat → H → XR} (hf : ∀ x, Mn (f x)) : Mn fun h => Kx.nF n (fun x => f x h) := by simp only [nF_eq]; exact hf n
theorem reach_ext {k k' : H} {s : Slc} {u size : Nat} (he : Ext k k') (h : reach k s u size = true) : reach k' s u size = true := by
  unfold reach at h ⊢
  cases hc : s.cap with
  | k c => rw [hc] at h; exact h
  | v x j =>
    rw [hc] at h
    replace h : bi (Nat.beq x size) (bi (Nat.ble u s.len) true (bi (Nat.beq size 0) false (oc false (fun c => Nat.ble (Nat.add s.o (Nat.mul u size)) (len c.1)) (objCells (k.m.get s.b))))) false = true := h
    show bi (Nat.beq x size) (bi (Nat.ble u s.len) true (bi (Nat.beq size 0) false (oc false (fun c => Nat.ble (Nat.add s.o (Nat.mul u size)) (len c.1)) (objCells (k'.m.get s.b))))) false = true
    cases ho : objCells (k.m.get s.b) with
    | some c => rw [he.cells ho, ← ho]; exact h
    | none =>
      rw [ho] at h
      revert h
      cases Nat.beq x size <;> cases Nat.ble u s.len <;> cases Nat.beq size 0 <;> simp
theorem Mn.cut (s : Slc) (size l u : Nat) : Mn fun h => cut h s size l u := by
  unfold Kx.cut
  cases s.cap <;> exact .on fun _ _ => by simp
theorem Mn.sliceX (size : Nat) (s : Slc) (p : Xi × Xi) : Mn fun h => sliceX h size s p := .bi (.bi (.bi (.bi (.bi (.oc .no fun _ => .bi .no (.on fun _ _ => by simp)) .no) .no) .no) .no) .no
theorem Mn.sliceK (t : TK) (Ty : TypeId → Option TI) (x : AV) (lo hi mx : Option AV) : Mn fun h => sliceK t Ty h x lo hi mx := by
  cases t <;> first | exact .no | skip
  · exact .bi (.oc .no fun _ => .oc .no fun _ => .oc .no fun _ => .bi (.bi (.val _) .no) .no) .no
  · exact .oc .no fun _ => .oc (.bi (.bi (.bi (.bi (.val _) .no) .no) .no) .no) fun _ => .oc (.oc .no fun _ => .oc .no fun _ => .oc (.bi (.bih (fun _ _ he h => reach_ext he h) (.cut _ _ _ _)) .no) fun _ => .bi .no (.oc .no fun _ => .on fun _ _ => by unfold cutM; simp)) fun _ => .sliceX _ _ _
  · exact .oc .no fun _ => .oc .no fun _ => .oc .no fun _ => .oc .no fun _ => .oc (.bi (.bi (.on fun _ _ => by simp) .no) .no) fun _ => .no
theorem cellsAt_ext {k k' : H} {b o n : Nat} {l : List AV} (he : Ext k k') (h : cellsAt k b o n = some l) : cellsAt k' b o n = some l := by
  unfold cellsAt at h ⊢
  cases hc : objCells (k.m.get b) with
  | none => rw [hc] at h; cases h
  | some c => rw [he.cells hc, ← hc]; exact h
theorem Mn.convK (t : TK) (Ty : TypeId → Option TI) (s : Option TI) (x : AV) : Mn fun h => convK t Ty h s x := by
  cases t <;> first | exact .no | skip
  · exact .oc (.on fun _ _ => on_cvR _ _) fun _ => .on fun _ _ => on_kW _ _
  · exact .oc (.bi (.oc (.bi (.val _) .no) fun _ => .och (fun _ _ _ he h => cellsAt_ext he h) fun _ => .oc .no fun _ => .val _) .no) fun _ => .val _
theorem Mn.lenK (t : TK) (x : AV) : Mn fun h => lenK t x h := by
  cases t <;> first | exact .no | skip
  · exact .oc .no fun _ => .kInt _ _
  · cases x <;> first | exact .no | exact .val _ | exact Mn.kInt (.ofNat _) .i64 | exact .bi (.val _) (Mn.kInt _ _)
  · cases x <;> first | exact .no | exact .och (fun _ _ _ he h => he.map h) fun _ => Mn.kInt (.ofNat _) .i64 | exact Mn.kInt (.ofNat _) .i64 | exact Mn.kInt (.ofNat 0) .i64
  · exact Mn.kInt (.ofNat _) .i64
theorem xop_ext {op : Op} {a : Tm} {v : AV} {k k' : H} (hk : kd op = .read) (he : Ext k k') (e : xop op (mkTI P) a k = .val v k) : xop op (mkTI P) a k' = .val v k' := by
  refine (?_ : Mn fun h => xop op (mkTI P) a h) k k' v he e
  cases op <;> first | (cases hk; done) | skip
  case load t x => exact .oc .no fun _ => .oc .no fun _ => .och (fun _ _ _ he h => he.cells h) fun _ => .bi (.kAgg _) (.kVal _)
  case slice t x lo hi mx => exact .oc .no fun _ => .sliceK _ _ _ _ _ _
  case convert s d x => exact .bi (.oc .no fun _ => .convK _ _ _ _) .no
  case lookup t x i ok => exact .oc .no fun _ => .oc .no fun _ => .oc (.bi (.oc .no fun r => .oc (.val _) fun _ => .val _) .no) fun _ => .och (fun _ _ _ he h => he.map h) fun _ => .oc .no fun r => .oc (.val _) fun _ => .val _
  case call c =>
    obtain ⟨callee, args, ts⟩ := c
    cases callee with
    | value f => cases hk
    | invoke r m => cases hk
    | builtin b =>
      cases b <;> first | (cases hk; done) | skip
      show Mn fun k => hd1 (fun x => hd1 (fun t => xLen x k (mkTI P t)) ts.toList) (evL args.toList a)
      rcases evL args.toList a with _ | ⟨x, _ | ⟨y, r⟩⟩ <;> first | exact .no | skip
      rcases ts.toList with _ | ⟨x', _ | ⟨y', r'⟩⟩ <;> first | exact .no | skip
      exact .oc .no fun _ => .lenK _ _

/-! A block that the evaluator has laid, and the model not yet. -/
theorem HR.ext {B0 : Nat} {g : G} {h h' : H} {w : World} (hr : HR B0 g h w) (e : ∀ b, h'.m.get b = h.m.get b) : HR B0 g h' w :=
  ⟨fun b l t B base h1 h2 => hr.cells b l t B base (by rw [← e]; exact h1) h2, fun b es c B base h1 h2 => hr.maps b es c B base (by rw [← e]; exact h1) h2, fun b it B base h1 h2 => hr.sits b it B base (by rw [← e]; exact h1) h2,
   fun b b' B base base' ⟨o, h1, h1'⟩ ⟨o', h2, h2'⟩ h3 h4 => hr.inj b b' B base base' ⟨o, by rw [← e]; exact h1, h1'⟩ ⟨o', by rw [← e]; exact h2, h2'⟩ h3 h4,
   fun b B base ⟨o, h1, h1'⟩ h2 => hr.low b B base ⟨o, by rw [← e]; exact h1, h1'⟩ h2, hr.bnd⟩
theorem Tr.late {B0 : Nat} {g0 g g1 : G} {h0 k : H} {w0 w w1 : World} (t : Tr B0 g0 h0 w0 g k w) {b : Nat} {ob : AObj} (u : Tr B0 g ⟨k.m, b⟩ w g1 ⟨k.m.set b ob, b + 1⟩ w1) (hg : k.m.get b = some ob) (hlo : h0.next ≤ b) (hhi : b < k.next) : Tr B0 g0 h0 w0 g1 k w1 where
  hr := u.hr.ext fun x => by
    show k.m.get x = (k.m.set b ob).get x
    rw [get_set]
    by_cases e : b = x
    · rw [if_pos e, ← e, hg]
    · rw [if_neg e]
  le := t.le.trans u.le
  old := fun x hx => by
    have h1 := u.old x (show x < b ∨ b + 1 ≤ x by omega)
    have h2 := t.old x hx
    exact ⟨h1.1.trans h2.1, h1.2.trans h2.2⟩
  next := t.next
  size := Nat.le_trans t.size u.size
  frame := fun B hB hno => by
    rw [u.frame B (by have := t.size; omega) (fun x base hl hp => ?_)]
    · exact t.frame B hB hno
    · rcases hg0 : g0.pos x with _ | ⟨B1, base1⟩
      · rcases t.newp x B base hg0 hp with h1 | ⟨b0, base0, h1, h2⟩
        · omega
        · exact hno b0 base0 h1 h2
      · have e := t.pos_old hg0 hp
        injection e with e1 e2
        subst e1
        exact hno x base1 (t.live_old hl hg0) hg0
  afr := t.afr
  lv := t.lv
  far := t.far
  new := t.new
  newp := fun x B base hg0 hp => by
    rcases hg' : g.pos x with _ | ⟨B1, base1⟩
    · rcases u.newp x B base hg' hp with h1 | ⟨b0, base0, h1, h2⟩
      · left; have := t.size; omega
      · rcases hg1 : g0.pos b0 with _ | ⟨B2, base2⟩
        · exact t.newp b0 B base0 hg1 h2
        · have e := t.pos_old hg1 h2
          injection e with e1 e2
          subst e1
          exact .inr ⟨b0, base2, t.live_old h1 hg1, hg1⟩
    · have e := u.pos_old hg' hp
      injection e with e1 e2
      subst e1
      exact t.newp x _ _ hg0 hg'
  os := u.os.trans t.os
  tape := u.tape.trans t.tape
  output := u.output.trans t.output
theorem live_set {k : H} {ob : AObj} {n x : Nat} (h : live ⟨k.m.set k.next ob, n⟩ x) (hx : x ≠ k.next) : live k x := by
  obtain ⟨o, h1, h2⟩ := h
  have h1 : (k.m.set k.next ob).get x = some o := h1
  rw [get_set, if_neg (fun e => hx e.symm)] at h1
  exact ⟨o, h1, h2⟩
/-- The evaluator lays a block ahead of the model. -/
theorem Tr.ahead {B0 : Nat} {g0 g : G} {h0 k : H} {w0 w : World} (t : Tr B0 g0 h0 w0 g k w) (hf : Fresh g k) (ob : AObj) : Tr B0 g0 h0 w0 g ⟨k.m.set k.next ob, k.next + 1⟩ w := by
  have hn : ∀ x p, g.pos x = some p → x ≠ k.next := fun x p h e => by
    have := hf.pos x (by omega)
    rw [h] at this; cases this
  have hget : ∀ x, x ≠ k.next → (k.m.set k.next ob).get x = k.m.get x := fun x hx => by rw [get_set, if_neg (fun e => hx e.symm)]
  refine ⟨⟨fun x l ty B base h1 h2 => t.hr.cells x l ty B base ((hget x (hn x _ h2)).symm.trans h1) h2, fun x es c B base h1 h2 => t.hr.maps x es c B base ((hget x (hn x _ h2)).symm.trans h1) h2, fun x it B base h1 h2 => t.hr.sits x it B base ((hget x (hn x _ h2)).symm.trans h1) h2,
    fun x y B b1 b2 h1 h2 h3 h4 => t.hr.inj x y B b1 b2 (live_set h1 (hn x _ h3)) (live_set h2 (hn y _ h4)) h3 h4, fun x B b1 h1 h2 => t.hr.low x B b1 (live_set h1 (hn x _ h2)) h2, t.hr.bnd⟩,
    t.le, fun x hx => t.old x ?_, ?_, t.size, t.frame, fun x o hx ho hg => ?_, fun x hx hl => t.lv x hx (live_set hl ?_), fun x hx => ?_, fun x h1 h2 => ?_, t.newp, t.os, t.tape, t.output⟩
  · have hx : x < h0.next ∨ k.next + 1 ≤ x := hx
    omega
  · have := t.next
    show h0.next ≤ k.next + 1
    omega
  · have := t.next
    exact (hget x (by omega)).trans (t.afr x o hx ho hg)
  · have := t.next
    omega
  · have hx : k.next + 1 ≤ x := hx
    exact (hget x (by omega)).trans (t.far x (by omega))
  · have h2 : x < k.next + 1 := h2
    rcases Nat.lt_or_ge x k.next with h3 | h3
    · exact t.new x h1 h3
    · have := t.old x (.inr h3)
      exact ⟨this.1.symm.trans (hf.pos x h3), this.2.symm.trans (hf.grow x h3)⟩
theorem Fresh.ahead {g : G} {k : H} (hf : Fresh g k) (ob : AObj) : Fresh g ⟨k.m.set k.next ob, k.next + 1⟩ where
  m := fun b hb => by
    have hb : k.next + 1 ≤ b := hb
    show (k.m.set k.next ob).get b = none
    rw [get_set, if_neg (by omega)]
    exact hf.m b (by omega)
  pos := fun b hb => hf.pos b (by have hb : k.next + 1 ≤ b := hb; omega)
  grow := fun b hb => hf.grow b (by have hb : k.next + 1 ≤ b := hb; omega)
theorem ext_ahead {g : G} {k : H} (hf : Fresh g k) (ob : AObj) (n : Nat) : Ext k ⟨k.m.set k.next ob, n⟩ := fun b o hb => by
  show (k.m.set k.next ob).get b = some o
  rw [get_set, if_neg (fun e => by subst e; rw [hf.m _ (Nat.le_refl _)] at hb; cases hb)]
  exact hb

/-! In the middle of a region: L is done by the evaluator, D by the model. -/
/-- What the evaluator has done, and the model not yet: it comes to the same now. -/
inductive Can (P : Program) (K : H) (pd : List RdE) (g : G) (ops : Array Oper) (i : Nat) (o : Oper) (ai : Tm) (v : AV) (nbi : Option Nat) : Prop
  | skip (h : wants o.guard ops ai = some false) (hv : v = .tup [])
  | pure (h : wants o.guard ops ai = some true) (hx : ∀ k, xop o.op (mkTI P) ai k = .val v k)
  | read (h : wants o.guard ops ai = some true) (hk : kd o.op = .read) (hx : xop o.op (mkTI P) ai K = .val v K) (hp : RdE.mk i (Nat.shiftLeft 1 i) o ai v ∈ pd)
  | alloc (h : wants o.guard ops ai = some true) (hk : kd o.op = .alloc) (b : Nat) (ob : AObj) (hb : nbi = some b) (hg : K.m.get b = some ob) (hp : g.pos b = none) (hgr : g.grow b = none) (hx : ∀ m, xop o.op (mkTI P) ai ⟨m, b⟩ = .val v ⟨m.set b ob, b + 1⟩)
structure DInv (P : Program) (ops : Array Oper) (B0 : Nat) (g0 : G) (h0 : H) (w0 : World) (a0 : Tm) (n : Nat) (L : Nat) (K : H) (aK : Tm) (pd : List RdE) (E : Nat → Tm × AV) (nb : Nat → Option Nat) (D : Nat → Prop) (g : G) (A : Act) (w : World) : Prop where
  sub : ∀ i, D i → L.testBit i = true
  cl : Closed ops D
  clL : Closed ops fun i => L.testBit i = true
  tr : Tr B0 g0 h0 w0 g K w
  fr : Fresh g K
  lo : B0 ≤ w.heap.size
  opr : ∀ i o t, ops[i]? = some o → L.testBit i = true → Looks ops o t →
    (∃ k ok, ops[k]? = some ok ∧ ok.dst = some t ∧ L.testBit k = true ∧ k ≠ i ∧ (∀ D, Closed ops D → D i → D k) ∧ tmD ((E i).1.get t) = (E k).2) ∨
    ((∀ k ok, ops[k]? = some ok → ok.dst = some t → k ≠ i → ∀ D, Closed ops D → D k → D i) ∧ (E i).1.get t = a0.get t)
  done : ∀ (i : Nat) (o : Oper) (d : Tmp), ops[i]? = some o → D i → o.dst = some d → VR g (E i).2 (A.tmps.getD d undef)
  pend : ∀ i o, ops[i]? = some o → L.testBit i = true → ¬ D i → Can P K pd g ops i o (E i).1 (E i).2 (nb i)
  tmpK : ∀ t, (∃ k ok, ops[k]? = some ok ∧ ok.dst = some t ∧ L.testBit k = true ∧ tmD (aK.get t) = (E k).2) ∨ ((∀ (k : Nat) (ok : Oper), ops[k]? = some ok → ok.dst = some t → L.testBit k = false) ∧ aK.get t = a0.get t)
  tmpA : ∀ t, (∀ (k : Nat) (ok : Oper), ops[k]? = some ok → ok.dst = some t → ¬ D k) → VR g (tmD (a0.get t)) (A.tmps.getD t undef)
  size : n ≤ A.tmps.size
  dn : A.defers = []
  nbL : ∀ i b, nb i = some b → L.testBit i = true ∧ h0.next ≤ b ∧ b < K.next
  inj : ∀ i j b, nb i = some b → nb j = some b → i = j
section
variable {ops : Array Oper} {B0 : Nat} {g0 g : G} {h0 K : H} {w0 w : World} {a0 aK : Tm} {n L : Nat} {pd : List RdE} {E : Nat → Tm × AV} {nb : Nat → Option Nat} {D : Nat → Prop} {A : Act}
theorem Closed.add {i : Nat} {o : Oper} (h : Closed ops D) (ho : ops[i]? = some o) (hr : ∀ e ∈ o.after, Region.binds .any e = true → D e.on) : Closed ops fun x => D x ∨ x = i := by
  intro j oj hj hd e he hb
  rcases hd with hd | rfl
  · exact .inl (h j oj hj hd e he hb)
  · rw [ho] at hj; injection hj with hj; subst hj
    exact .inl (hr e he hb)
/-- What an operation that may come up now looks at is what the evaluator saw. -/
theorem DInv.he (hI : DInv P ops B0 g0 h0 w0 a0 n L K aK pd E nb D g A w) {i : Nat} {o : Oper} (ho : ops[i]? = some o) (hL : L.testBit i = true) (hD : ¬ D i) (hr : ∀ e ∈ o.after, Region.binds .any e = true → D e.on) :
    ∀ t, Looks ops o t → VR g (tmD ((E i).1.get t)) (A.tmps.getD t undef) := fun t ht => by
  rcases hI.opr i o t ho hL ht with ⟨k, ok, h1, h2, _, h3, h4, h5⟩ | ⟨h1, h2⟩
  · have := h4 _ (hI.cl.add ho hr) (.inr rfl)
    rw [h5]
    exact hI.done k ok t h1 (this.resolve_right h3) h2
  · rw [h2]
    refine hI.tmpA t fun k ok hk hd hDk => ?_
    by_cases e : k = i
    · subst e; exact hD hDk
    · exact hD (h1 k ok hk hd e D hI.cl hDk)
/-- The same of one that the evaluator does next. -/
theorem DInv.opr_next (hI : DInv P ops B0 g0 h0 w0 a0 n L K aK pd E nb D g A w) (hO : Once ops) {i : Nat} {o : Oper} (ho : ops[i]? = some o) (hL : L.testBit i = false) (hr : ∀ e ∈ o.after, Region.binds .any e = true → L.testBit e.on = true) (t : Nat) (ht : Looks ops o t) :
    (∃ k ok, ops[k]? = some ok ∧ ok.dst = some t ∧ L.testBit k = true ∧ k ≠ i ∧ (∀ D, Closed ops D → D i → D k) ∧ tmD (aK.get t) = (E k).2) ∨
    ((∀ k ok, ops[k]? = some ok → ok.dst = some t → k ≠ i → ∀ D, Closed ops D → D k → D i) ∧ aK.get t = a0.get t) := by
  rcases hI.tmpK t with ⟨k, ok, h1, h2, h3, h4⟩ | ⟨h1, h2⟩
  · left
    have hne : k ≠ i := fun e => by subst e; rw [hL] at h3; cases h3
    refine ⟨k, ok, h1, h2, h3, hne, ?_, h4⟩
    rcases hO.sees k i ok o t h1 ho ht h2 hne with h5 | h5
    · exact h5
    · exact absurd (h5 _ hI.clL h3) (by rw [hL]; simp)
  · right
    refine ⟨fun k ok hk hd hne => ?_, h2⟩
    rcases hO.sees k i ok o t hk ho ht hd hne with h5 | h5
    · exfalso
      have := h5 _ (hI.clL.add ho hr) (.inr rfl)
      rcases this with h6 | h6
      · rw [h1 k ok hk hd] at h6; cases h6
      · exact hne h6
    · exact h5
theorem DInv.tmpK_next (hI : DInv P ops B0 g0 h0 w0 a0 n L K aK pd E nb D g A w) {i : Nat} {o : Oper} (ho : ops[i]? = some o) (hL : L.testBit i = false) (v : AV) (bit : Nat) (hb : bit = Nat.shiftLeft 1 i) (t : Nat) :
    (∃ k ok, ops[k]? = some ok ∧ ok.dst = some t ∧ (Nat.lor L bit).testBit k = true ∧ tmD ((putD o.dst v aK).get t) = (if k = i then (aK, v) else E k).2) ∨
    ((∀ (k : Nat) (ok : Oper), ops[k]? = some ok → ok.dst = some t → (Nat.lor L bit).testBit k = false) ∧ (putD o.dst v aK).get t = a0.get t) := by
  subst hb
  by_cases hd : o.dst = some t
  · left
    refine ⟨i, o, ho, hd, by rw [lor_test, bit_test]; simp, ?_⟩
    rw [hd, if_pos rfl]
    show tmD ((aK.set t v).get t) = v
    rw [get_set, if_pos rfl]
    rfl
  · have hp : (putD o.dst v aK).get t = aK.get t := by
      cases hdd : o.dst with
      | none => rfl
      | some d =>
        show (aK.set d v).get t = _
        rw [get_set, if_neg (fun e => hd (by rw [hdd, e]))]
    rw [hp]
    rcases hI.tmpK t with ⟨k, ok, h1, h2, h3, h4⟩ | ⟨h1, h2⟩
    · left
      have hne : k ≠ i := fun e => by subst e; rw [hL] at h3; cases h3
      exact ⟨k, ok, h1, h2, by rw [lor_test, h3]; rfl, by rw [if_neg hne]; exact h4⟩
    · right
      refine ⟨fun k ok hk hdk => ?_, h2⟩
      have hne : i ≠ k := fun e => by subst e; rw [ho] at hk; injection hk with hk; subst hk; exact hd hdk
      rw [lor_test, bit_test, h1 k ok hk hdk]
      simp [hne]
theorem lor_of {bit i j : Nat} (hb : bit = Nat.shiftLeft 1 i) : (Nat.lor L bit).testBit j = true ↔ L.testBit j = true ∨ j = i := by
  subst hb
  rw [lor_test, bit_test]
  simp only [Bool.or_eq_true, decide_eq_true_eq]
  constructor <;> rintro (h | h) <;> simp [h]
/-- The evaluator does one more, ahead of the model. -/
theorem DInv.add (hI : DInv P ops B0 g0 h0 w0 a0 n L K aK pd E nb D g A w) (hO : Once ops) {i : Nat} {o : Oper} (ho : ops[i]? = some o) (hL : L.testBit i = false) (hr : ∀ e ∈ o.after, Region.binds .any e = true → L.testBit e.on = true)
    {bit : Nat} (hb : bit = Nat.shiftLeft 1 i) {v : AV} {K' : H} {pd' : List RdE} {nbi : Option Nat} (htr : Tr B0 g0 h0 w0 g K' w) (hfr : Fresh g K') (hext : Ext K K') (hnx : K.next ≤ K'.next) (hpd : ∀ p ∈ pd, p ∈ pd') (hnb : ∀ b, nbi = some b → b = K.next ∧ b < K'.next)
    (hcan : Can P K' pd' g ops i o aK v nbi) :
    DInv P ops B0 g0 h0 w0 a0 n (Nat.lor L bit) K' (putD o.dst v aK) pd' (fun k => if k = i then (aK, v) else E k) (fun k => if k = i then nbi else nb k) D g A w := by
  have hDi : ¬ D i := fun h => by have := hI.sub i h; rw [hL] at this; cases this
  have hni : ∀ k, L.testBit k = true → k ≠ i := fun k hk e => by subst e; rw [hL] at hk; cases hk
  have hLor : ∀ j, (Nat.lor L bit).testBit j = true ↔ L.testBit j = true ∨ j = i := fun j => lor_of hb
  refine ⟨fun j hj => (hLor j).2 (.inl (hI.sub j hj)), hI.cl, fun j oj hj hl e he hbi => (hLor _).2 ?_, htr, hfr, hI.lo, fun j oj t hj hl ht => ?_, fun j oj d hj hd hdst => ?_, fun j oj hj hl hd => ?_, hI.tmpK_next ho hL v bit hb, hI.tmpA, hI.size, hI.dn, fun j b hj => ?_, fun j k b hj hk => ?_⟩
  · rcases (hLor j).1 hl with hl | rfl
    · exact .inl (hI.clL j oj hj hl e he hbi)
    · rw [ho] at hj; injection hj with hj; subst hj
      exact .inl (hr e he hbi)
  · have key : (∃ k ok, ops[k]? = some ok ∧ ok.dst = some t ∧ L.testBit k = true ∧ k ≠ j ∧ (∀ D, Closed ops D → D j → D k) ∧ tmD ((if j = i then (aK, v) else E j).1.get t) = (E k).2) ∨
      ((∀ k ok, ops[k]? = some ok → ok.dst = some t → k ≠ j → ∀ D, Closed ops D → D k → D j) ∧ (if j = i then (aK, v) else E j).1.get t = a0.get t) := by
      by_cases e : j = i
      · subst e
        rw [ho] at hj; injection hj with hj; subst hj
        rw [if_pos rfl]
        exact hI.opr_next hO ho hL hr t ht
      · rw [if_neg e]
        exact hI.opr j oj t hj (((hLor j).1 hl).resolve_right e) ht
    rcases key with ⟨k, ok, h1, h2, h3, h4, h5, h6⟩ | h1
    · exact .inl ⟨k, ok, h1, h2, (hLor k).2 (.inl h3), h4, h5, by rw [h6, if_neg (hni k h3)]⟩
    · exact .inr h1
  · have e : j ≠ i := fun e => by subst e; exact hDi hd
    simp only [if_neg e]
    exact hI.done j oj d hj hd hdst
  · by_cases e : j = i
    · subst e
      rw [ho] at hj; injection hj with hj; subst hj
      simp only [if_pos]
      exact hcan
    · simp only [if_neg e]
      cases hI.pend j oj hj (((hLor j).1 hl).resolve_right e) hd with
      | skip h1 h2 => exact .skip h1 h2
      | pure h1 h2 => exact .pure h1 h2
      | read h1 h2 h3 h4 => exact .read h1 h2 (xop_ext h2 hext h3) (hpd _ h4)
      | alloc h1 h2 b ob h3 h4 h5 h6 h7 => exact .alloc h1 h2 b ob h3 (hext _ _ h4) h5 h6 h7
  · by_cases e : j = i
    · subst e
      simp only [if_pos] at hj
      obtain ⟨h1, h2⟩ := hnb b hj
      exact ⟨(hLor j).2 (.inr rfl), by rw [h1]; exact hI.tr.next, h2⟩
    · simp only [if_neg e] at hj
      obtain ⟨h1, h2, h3⟩ := hI.nbL j b hj
      exact ⟨(hLor j).2 (.inl h1), h2, by omega⟩
  · by_cases e : j = i
    · by_cases e' : k = i
      · rw [e, e']
      · subst e
        simp only [if_pos] at hj
        simp only [if_neg e'] at hk
        have := (hnb b hj).1
        have := (hI.nbL k b hk).2.2
        omega
    · by_cases e' : k = i
      · subst e'
        simp only [if_pos] at hk
        simp only [if_neg e] at hj
        have := (hnb b hk).1
        have := (hI.nbL j b hj).2.2
        omega
      · simp only [if_neg e] at hj
        simp only [if_neg e'] at hk
        exact hI.inj j k b hj hk
theorem getD_put {A : Act} {d : Option Tmp} {v : Value} {t : Tmp} (h : d ≠ some t) : (A.put d v).tmps.getD t undef = A.tmps.getD t undef := by
  cases d with
  | none => rfl
  | some d =>
    have : d ≠ t := fun e => h (by rw [e])
    show (A.tmps.setIfInBounds d v).getD t undef = _
    simp only [Array.getD_eq_getD_getElem?, Array.getElem?_setIfInBounds_ne this]
theorem getD_put_same {A : Act} {d : Tmp} {v : Value} (h : d < A.tmps.size) : (A.put (some d) v).tmps.getD d undef = v := by
  show (A.tmps.setIfInBounds d v).getD d undef = v
  simp [Array.getD, h]
theorem put_size (A : Act) (d : Option Tmp) (v : Value) : (A.put d v).tmps.size = A.tmps.size := by cases d <;> simp [Act.put]
theorem put_defers (A : Act) (d : Option Tmp) (v : Value) : (A.put d v).defers = A.defers := by cases d <;> rfl
/-- The model does one that the evaluator has done. -/
theorem DInv.exec (hI : DInv P ops B0 g0 h0 w0 a0 n L K aK pd E nb D g A w) (hO : Once ops) {i : Nat} {o : Oper} (ho : ops[i]? = some o) (hL : L.testBit i = true) (hr : ∀ e ∈ o.after, Region.binds .any e = true → D e.on) (hok : dstOk n o.dst = true)
    {g1 : G} {w1 : World} {v' : Value} (htr : Tr B0 g0 h0 w0 g1 K w1) (hfr : Fresh g1 K) (hle : g.le g1) (hlo : B0 ≤ w1.heap.size) (hold : ∀ x, x < K.next → nb i ≠ some x → g1.pos x = g.pos x ∧ g1.grow x = g.grow x) (hv : VR g1 (E i).2 v') :
    DInv P ops B0 g0 h0 w0 a0 n L K aK pd E nb (fun x => D x ∨ x = i) g1 (A.put o.dst v') w1 := by
  refine ⟨fun j hj => ?_, hI.cl.add ho hr, hI.clL, htr, hfr, hlo, hI.opr, fun j oj d hj hd hdst => ?_, fun j oj hj hl hd => ?_, hI.tmpK, fun t ht => ?_, by rw [put_size]; exact hI.size, by rw [put_defers]; exact hI.dn, hI.nbL, hI.inj⟩
  · rcases hj with hj | rfl
    · exact hI.sub j hj
    · exact hL
  · by_cases e : j = i
    · subst e
      rw [ho] at hj; injection hj with hj; subst hj
      rw [hdst] at hok ⊢
      have hok : d < n := by simpa [dstOk, Nat.blt_eq] using hok
      rw [getD_put_same (Nat.lt_of_lt_of_le hok hI.size)]
      exact hv
    · rw [getD_put (fun h => e (hO.one j i oj o d hj ho hdst h))]
      exact (hI.done j oj d hj (hd.resolve_right e) hdst).mono hle
  · have e : j ≠ i := fun e => hd (.inr e)
    cases hI.pend j oj hj hl (fun h => hd (.inl h)) with
    | skip h1 h2 => exact .skip h1 h2
    | pure h1 h2 => exact .pure h1 h2
    | read h1 h2 h3 h4 => exact .read h1 h2 h3 h4
    | alloc h1 h2 b ob h3 h4 h5 h6 h7 =>
      have := hold b (hI.nbL j b h3).2.2 (fun h => e (hI.inj j i b h3 h))
      exact .alloc h1 h2 b ob h3 h4 (this.1.trans h5) (this.2.trans h6) h7
  · have hne : o.dst ≠ some t := fun h => ht i o ho h (.inr rfl)
    rw [getD_put hne]
    exact (hI.tmpA t fun k ok hk hd hDk => ht k ok hk hd (.inl hDk)).mono hle
/-- Both do one that may write. -/
theorem DInv.eff (hI : DInv P ops B0 g0 h0 w0 a0 n L K aK pd E nb D g A w) (hO : Once ops) {i : Nat} {o : Oper} (ho : ops[i]? = some o) (hL : L.testBit i = false) (hr : ∀ e ∈ o.after, Region.binds .any e = true → D e.on) (hok : dstOk n o.dst = true)
    {bit : Nat} (hb : bit = Nat.shiftLeft 1 i) {v : AV} {K' : H} {pd' : List RdE} {g1 : G} {w1 : World} {v' : Value} (u : Tr B0 g K w g1 K' w1) (hv : VR g1 v v')
    (hpd : ∀ j oj, ops[j]? = some oj → L.testBit j = true → ¬ D j → RdE.mk j (Nat.shiftLeft 1 j) oj (E j).1 (E j).2 ∈ pd → kd oj.op = .read → RdE.mk j (Nat.shiftLeft 1 j) oj (E j).1 (E j).2 ∈ pd' ∧ xop oj.op (mkTI P) (E j).1 K' = .val (E j).2 K') :
    DInv P ops B0 g0 h0 w0 a0 n (Nat.lor L bit) K' (putD o.dst v aK) pd' (fun k => if k = i then (aK, v) else E k) nb (fun x => D x ∨ x = i) g1 (A.put o.dst v') w1 := by
  have hDi : ¬ D i := fun h => by have := hI.sub i h; rw [hL] at this; cases this
  have hni : ∀ k, L.testBit k = true → k ≠ i := fun k hk e => by subst e; rw [hL] at hk; cases hk
  have hLor : ∀ j, (Nat.lor L bit).testBit j = true ↔ L.testBit j = true ∨ j = i := fun j => lor_of hb
  have hrL : ∀ e ∈ o.after, Region.binds .any e = true → L.testBit e.on = true := fun e he hbi => hI.sub _ (hr e he hbi)
  refine ⟨fun j hj => (hLor j).2 (hj.imp (hI.sub j) id), hI.cl.add ho hr, fun j oj hj hl e he hbi => (hLor _).2 ?_, hI.tr.trans u, hI.fr.tr u, Nat.le_trans hI.lo u.size, fun j oj t hj hl ht => ?_, fun j oj d hj hd hdst => ?_, fun j oj hj hl hd => ?_, hI.tmpK_next ho hL v bit hb, fun t ht => ?_, by rw [put_size]; exact hI.size, by rw [put_defers]; exact hI.dn, fun j b hj => ?_, hI.inj⟩
  · rcases (hLor j).1 hl with hl | rfl
    · exact .inl (hI.clL j oj hj hl e he hbi)
    · rw [ho] at hj; injection hj with hj; subst hj
      exact .inl (hrL e he hbi)
  · have key : (∃ k ok, ops[k]? = some ok ∧ ok.dst = some t ∧ L.testBit k = true ∧ k ≠ j ∧ (∀ D, Closed ops D → D j → D k) ∧ tmD ((if j = i then (aK, v) else E j).1.get t) = (E k).2) ∨
      ((∀ k ok, ops[k]? = some ok → ok.dst = some t → k ≠ j → ∀ D, Closed ops D → D k → D j) ∧ (if j = i then (aK, v) else E j).1.get t = a0.get t) := by
      by_cases e : j = i
      · subst e
        rw [ho] at hj; injection hj with hj; subst hj
        rw [if_pos rfl]
        exact hI.opr_next hO ho hL hrL t ht
      · rw [if_neg e]
        exact hI.opr j oj t hj (((hLor j).1 hl).resolve_right e) ht
    rcases key with ⟨k, ok, h1, h2, h3, h4, h5, h6⟩ | h1
    · exact .inl ⟨k, ok, h1, h2, (hLor k).2 (.inl h3), h4, h5, by rw [h6, if_neg (hni k h3)]⟩
    · exact .inr h1
  · by_cases e : j = i
    · subst e
      rw [ho] at hj; injection hj with hj; subst hj
      rw [hdst] at hok ⊢
      have hok : d < n := by simpa [dstOk, Nat.blt_eq] using hok
      rw [getD_put_same (Nat.lt_of_lt_of_le hok hI.size)]
      simp only [if_pos]
      exact hv
    · rw [getD_put (fun h => e (hO.one j i oj o d hj ho hdst h))]
      simp only [if_neg e]
      exact (hI.done j oj d hj (hd.resolve_right e) hdst).mono u.le
  · have e : j ≠ i := fun e => hd (.inr e)
    have hl := ((hLor j).1 hl).resolve_right e
    simp only [if_neg e]
    cases hI.pend j oj hj hl (fun h => hd (.inl h)) with
    | skip h1 h2 => exact .skip h1 h2
    | pure h1 h2 => exact .pure h1 h2
    | read h1 h2 h3 h4 =>
      obtain ⟨h5, h6⟩ := hpd j oj hj hl (fun h => hd (.inl h)) h4 h2
      exact .read h1 h2 h6 h5
    | alloc h1 h2 b ob h3 h4 h5 h6 h7 =>
      have hlt := (hI.nbL j b h3).2.2
      have := u.old b (.inl hlt)
      exact .alloc h1 h2 b ob h3 (u.afr b ob hlt h4 h5) (this.1.trans h5) (this.2.trans h6) h7
  · have hne : o.dst ≠ some t := fun h => ht i o ho h (.inr rfl)
    rw [getD_put hne]
    exact (hI.tmpA t fun k ok hk hd hDk => ht k ok hk hd (.inl hDk)).mono u.le
  · obtain ⟨h1, h2, h3⟩ := hI.nbL j b hj
    exact ⟨(hLor j).2 (.inl h1), h2, Nat.lt_of_lt_of_le h3 u.next⟩
end
end
end Go.Proofs.YtimjbojoeacaeaaDoor.Kx
