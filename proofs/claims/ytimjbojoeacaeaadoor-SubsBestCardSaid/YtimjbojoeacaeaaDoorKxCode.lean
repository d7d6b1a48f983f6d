/- The evaluator's code: what it reckons the model's code does. -/
import Derived.Test.YtimjbojoeacaeaaDoorKxOp
import Derived.Scope
namespace Go.Proofs.YtimjbojoeacaeaaDoor.Kx

/-- As the model says how code is left. -/
def exitOf : XE → Exit
  | .normal => .normal
  | .exit id => .exit id
  | .goto l => .goto l
  | .ret => .ret
/-- The temporaries. -/
structure TR (g : G) (a : Tm) (n : Nat) (A : Act) : Prop where
  size : n ≤ A.tmps.size
  val : ∀ t, VR g (tmD (a.get t)) (A.tmps.getD t undef)
  dn : A.defers = []
theorem TR.mono {g g' : G} {a : Tm} {n : Nat} {A : Act} (h : TR g a n A) (hl : g.le g') : TR g' a n A := ⟨h.size, fun t => (h.val t).mono hl, h.dn⟩
theorem TR.put {g : G} {a : Tm} {n : Nat} {A : Act} (h : TR g a n A) {d : Option Tmp} (hd : dstOk n d = true) {v : AV} {v' : Value} (hv : VR g v v') : TR g (putD d v a) n (A.put d v') := by
  cases d with
  | none => exact h
  | some d =>
    have hd : d < n := by simpa [dstOk, Nat.blt_eq] using hd
    refine ⟨by simp [Act.put]; exact h.size, fun t => ?_, h.dn⟩
    show VR g (tmD ((a.set d v).get t)) ((A.tmps.setIfInBounds d v').getD t undef)
    rw [get_set]
    by_cases e : d = t
    · subst e
      rw [if_pos rfl]
      have : d < A.tmps.size := Nat.lt_of_lt_of_le hd h.size
      simp [Array.getD, this, tmD]
      exact hv
    · rw [if_neg e]
      have := h.val t
      simp only [Array.getD_eq_getD_getElem?, Array.getElem?_setIfInBounds_ne e]
      simpa [Array.getD_eq_getD_getElem?] using this
theorem TR.ev {g : G} {a : Tm} {n : Nat} {A : Act} (h : TR g a n A) (x : Operand) : VR g (ev x a) (A.eval x) := by
  cases x with
  | tmp t => exact h.val t
  | const v => exact ofV_VR g v
  | global i => exact .any _
  | func f => exact .fn (.func f) [] [] [] [] .nil .nil

def LoopWp (P : Program) (c : Code) (Q : Exit → Act → World → Prop) (A : Act) (w : World) : Prop :=
  ∀ (b : Frame) (k : List Item) (cs : List Frame), ∃ e a' w', Q e a' w' ∧ Arrives P (lone (b.at A (.code c :: .inLoop c :: k)) cs w) b k cs e a' w'
def ScopeWp (P : Program) (s c : Code) (Q : Exit → Act → World → Prop) (A : Act) (w : World) : Prop :=
  ∀ (b : Frame) (k : List Item) (cs : List Frame), ∃ e a' w', Q e a' w' ∧ Arrives P (lone (b.at A (.code c :: .inScope s :: k)) cs w) b k cs e a' w'
def CW (P : Program) : Code → (Exit → Act → World → Prop) → Act → World → Prop
  | .loop c, Q, A, w => LoopWp P c Q A w
  | c, Q, A, w => c.wp P Q A w
section
variable {P : Program} {Q : Exit → Act → World → Prop} {A : Act} {w : World}
theorem CW.wp {c : Code} (h : CW P c Q A w) : c.wp P Q A w := by
  cases c <;> first | exact h | skip
  intro b k cs
  obtain ⟨e, a', w', q, r⟩ := h b k cs
  exact ⟨e, a', w', q, .of_steps (.one step_loop) r⟩
theorem LoopWp.round {c : Code} (h : c.wp P (Exit.then (fun a w => LoopWp P c Q a w) Q) A w) : LoopWp P c Q A w := by
  intro b k cs
  obtain ⟨e, a₁, w₁, hq, harr⟩ := h b (.inLoop c :: k) cs
  cases e with
  | normal =>
    obtain ⟨e₂, a₂, w₂, hq₂, harr₂⟩ := hq b k cs
    exact ⟨e₂, a₂, w₂, hq₂, .of_steps (Steps.trans harr (.one step_inLoop)) harr₂⟩
  | exit id => exact ⟨_, a₁, w₁, hq, .pass (x := .inLoop c) rfl (fun _ _ => .inl (by simp)) harr⟩
  | goto l => exact ⟨_, a₁, w₁, hq, .pass (x := .inLoop c) rfl (fun _ _ => .inl (by simp)) harr⟩
  | ret => exact ⟨_, a₁, w₁, hq, .pass (x := .inLoop c) rfl (fun _ _ => .inl (by simp)) harr⟩
  | panic ch => exact ⟨_, a₁, w₁, hq, .pass (x := .inLoop c) rfl (fun _ _ => .inl (by simp)) harr⟩
  | outgrown => exact ⟨_, a₁, w₁, hq, .pass (x := .inLoop c) rfl (fun _ _ => .inl (by simp)) harr⟩
/-- As Q; but by a goto into the scope it goes on there. -/
def ScopeQ (P : Program) (s : Code) (Q : Exit → Act → World → Prop) : Exit → Act → World → Prop
  | .goto l, a, w => match findLabel s l with
    | some rest => ScopeWp P s rest Q a w
    | none => Q (.goto l) a w
  | e, a, w => Q e a w
theorem ScopeWp.round {s c : Code} (h : c.wp P (ScopeQ P s Q) A w) : ScopeWp P s c Q A w := by
  intro b k cs
  obtain ⟨e, a₁, w₁, hq, harr⟩ := h b (.inScope s :: k) cs
  cases e with
  | normal => exact ⟨.normal, a₁, w₁, hq, Steps.trans harr (.one step_inScope)⟩
  | exit id => exact ⟨.exit id, a₁, w₁, hq, fun k' hk => harr k' (by simp [exitTo, hk])⟩
  | goto l =>
    simp only [ScopeQ] at hq
    cases hf : findLabel s l with
    | none =>
      rw [hf] at hq
      exact ⟨.goto l, a₁, w₁, hq, fun k' hk => harr k' (by simp [gotoIn, hf, hk])⟩
    | some rest =>
      rw [hf] at hq
      obtain ⟨e₂, a₂, w₂, hq₂, harr₂⟩ := hq b k cs
      exact ⟨e₂, a₂, w₂, hq₂, .of_steps (harr _ (by simp [gotoIn, hf])) harr₂⟩
  | ret => exact ⟨_, a₁, w₁, hq, harr⟩
  | panic ch => exact ⟨_, a₁, w₁, hq, harr⟩
  | outgrown => exact ⟨_, a₁, w₁, hq, harr⟩
theorem ScopeWp.scope {c : Code} (h : ScopeWp P c c Q A w) : (Code.scope c).wp P Q A w := by
  intro b k cs
  obtain ⟨e, a', w', q, r⟩ := h b k cs
  exact ⟨e, a', w', q, .of_steps (.one step_scope) r⟩
end
theorem codeOk_label {n : Nat} : ∀ {c : Code} {l : Nat} {r : Code}, codeOk n c = true → findLabel c l = some r → codeOk n r = true
  | .seq a b, l, r, h, hf => by
    have h : bi (codeOk n a) (codeOk n b) false = true := h
    cases ha : codeOk n a
    · rw [ha] at h; cases h
    · rw [ha, bi_true] at h
      rw [findLabel] at hf
      cases hfa : findLabel a l with
      | none => rw [hfa] at hf; exact codeOk_label h hf
      | some x =>
        rw [hfa] at hf
        injection hf with hf
        subst hf
        show bi (codeOk n x) (codeOk n b) false = true
        rw [codeOk_label ha hfa, h]
        rfl
  | .label l', l, r, _, hf => by
    rw [findLabel] at hf
    split at hf
    · injection hf with hf; subst hf; rfl
    · cases hf
  | .skip, _, _, _, hf => by simp [findLabel] at hf
  | .region .., _, _, _, hf => by simp [findLabel] at hf
  | .cond .., _, _, _, hf => by simp [findLabel] at hf
  | .block .., _, _, _, hf => by simp [findLabel] at hf
  | .loop .., _, _, _, hf => by simp [findLabel] at hf
  | .rangeFunc .., _, _, _, hf => by simp [findLabel] at hf
  | .exit .., _, _, _, hf => by simp [findLabel] at hf
  | .scope .., _, _, _, hf => by simp [findLabel] at hf
  | .goto .., _, _, _, hf => by simp [findLabel] at hf
  | .ret, _, _, _, hf => by simp [findLabel] at hf
  | .refuse .., _, _, _, hf => by simp [findLabel] at hf
end Go.Proofs.YtimjbojoeacaeaaDoor.Kx
