/- The evaluator runs as the model does. -/
import Derived.Test.YtimjbojoeacaeaaDoorKxDraw4
namespace Go.Proofs.YtimjbojoeacaeaaDoor.Kx
section
variable {P : Program} {Ov : Ovs}

/-- Where the run stands in both. -/
structure En (B0 : Nat) (g : G) (h : H) (w : World) : Prop where
  hr : HR B0 g h w
  fr : Fresh g h
  lo : B0 ≤ w.heap.size
theorem En.tr {B0 : Nat} {g g' : G} {h h' : H} {w w' : World} (e : En B0 g h w) (t : Tr B0 g h w g' h' w') : En B0 g' h' w' := ⟨t.hr, e.fr.tr t, Nat.le_trans e.lo t.size⟩
theorem En.hm {B0 : Nat} {g : G} {h : H} {w : World} (e : En B0 g h w) : ∀ b o, h.m.get b = some o → b < h.next := fun b o ho => by
  rcases Nat.lt_or_ge b h.next with hb | hb
  · exact hb
  · rw [e.fr.m b hb] at ho; cases ho

noncomputable abbrev rn (P : Program) (Ov : Ovs) (f : Nat) : Rc := run (mkTI P) (fun f => P.funcs[f]?) Ov f
/-- What comes of a piece of code. -/
def After (B0 : Nat) (g : G) (h : H) (w : World) (n : Nat) (e : XE) (a' : Tm) (h' : H) (Q : Exit → Act → World → Prop) : Prop :=
  ∀ g' A' w', TR g' a' n A' → Tr B0 g h w g' h' w' → Q (exitOf e) A' w'
def GoodC (P : Program) (Ov : Ovs) (f : Nat) : Prop := ∀ c a h e a' h', rn P Ov f (.code c) a h = .mk e a' h' → ∀ B0 g A w n, En B0 g h w → TR g a n A → codeOk n c = true → ∀ Q, After B0 g h w n e a' h' Q → CW P c Q A w
def GoodS (P : Program) (Ov : Ovs) (f : Nat) : Prop := ∀ s c a h e a' h', rn P Ov f (.scope s c) a h = .mk e a' h' → ∀ B0 g A w n, En B0 g h w → TR g a n A → codeOk n s = true → codeOk n c = true → ∀ Q, After B0 g h w n e a' h' Q → ScopeWp P s c Q A w
def GoodO (P : Program) (Ov : Ovs) (f : Nat) : Prop := ∀ ops l a h e a' h', rn P Ov f (.ops ops l) a h = .mk e a' h' → e = .normal ∧ ∀ B0 g A w n, En B0 g h w → TR g a n A → opsOk n l = true → ∀ Q, After B0 g h w n .normal a' h' Q → ∀ idxs : List Nat, idxs.map (fun i => ops[i]?) = l.map some → wpOps P ops Q idxs A w
def GoodK (P : Program) (Ov : Ovs) (f : Nat) : Prop := ∀ F args a h v h', rn P Ov f (.call F args) a h = .ret v h' → (∃ fn, P.funcs[F]? = some fn ∧ (fn.name == "runtime.NumGoroutine") = false ∧ fn.body.isSome = true) ∧ ∀ B0 g w args', En B0 g h w → VRs g args args' →
  Calls P F args'.toArray w fun e w' => ∃ v' g', e = .returned v' ∧ VR g' v v' ∧ Tr B0 g h w g' h' w'

def GoodD (P : Program) (Ov : Ovs) (f : Nat) : Prop := ∀ ops l L pd a h e a' h', rn P Ov f (.draw ops l L pd) a h = .mk e a' h' → (∀ x ∈ l, XOk ops x) → e = .normal ∧ ∀ B0 g0 h0 w0 a0 n, Once ops → opsOk n ops.toList = true → Rest ops L l → ∀ Q, After B0 g0 h0 w0 n .normal a' h' Q →
  ∀ E nb listed g A w, listed.size = ops.size → DInv P ops B0 g0 h0 w0 a0 n L h a pd E nb (DL listed) g A w → ∀ fuel, unl ops listed ≤ fuel → wpAny P .any ops Q fuel listed A w

/-- What comes of a call, whichever way it goes. -/
def CallOk (P : Program) (F : FuncId) (args' : Array Value) (B0 : Nat) (g : G) (h : H) (w : World) (v : AV) (h' : H) : Prop :=
  (∃ v' w' g', (callFunc F args').run P w = .ok (.value v') w' ∧ VR g' v v' ∧ Tr B0 g h w g' h' w') ∨
  ((callFunc F args').run P w = .ok (.enter F args') w ∧ Calls P F args' w fun e w' => ∃ v' g', e = .returned v' ∧ VR g' v v' ∧ Tr B0 g h w g' h' w')
/-- A call that is known beforehand. -/
def OvOk (P : Program) (F : FuncId) (x : List AV → H → XR) : Prop := ∀ args h v h', x args h = .val v h' → ∀ B0 g w args', En B0 g h w → VRs g args args' → CallOk P F args'.toArray B0 g h w v h'
def OvsOk (P : Program) (Ov : Ovs) : Prop := ∀ F x, Ov F = some x → OvOk P F x
def GoodX (P : Program) (Ov : Ovs) (f : Nat) : Prop := ∀ F args h v h', callK Ov (rn P Ov f) F args h = .ret v h' → ∀ B0 g w args', En B0 g h w → VRs g args args' → CallOk P F args'.toArray B0 g h w v h'
theorem goodX (hov : OvsOk P Ov) {f : Nat} (hK : GoodK P Ov f) : GoodX P Ov f := by
  intro F args h v h' hc B0 g w args' hE hargs
  have plain : rn P Ov f (.call F args) .e h = .ret v h' → CallOk P F args'.toArray B0 g h w v h' := fun hc => by
    obtain ⟨⟨fn, h1, h2, h3⟩, hcl⟩ := hK _ _ _ _ _ _ hc
    exact .inr ⟨callFunc_enter h1 h2 h3 _ _, hcl B0 g w args' hE hargs⟩
  unfold callK at hc
  cases ho : Ov F with
  | none =>
    rw [ho, oc_none] at hc
    exact plain hc
  | some x =>
    rw [ho, oc_some] at hc
    cases hx : x args h with
    | no => rw [hx] at hc; exact plain hc
    | call _ _ _ => rw [hx] at hc; exact plain hc
    | val v1 h1 =>
      rw [hx] at hc
      injection hc with e1 e2
      subst e1; subst e2
      exact hov F x ho args h _ _ hx B0 g w args' hE hargs
theorem CallOk.wp {F : FuncId} {args' : Array Value} {B0 : Nat} {g : G} {h : H} {w : World} {v : AV} {h' : H} (hc : CallOk P F args' B0 g h w v h') {o : Oper} {A : Act} (he : (execOp A.eval o).run P w = (callFunc F args').run P w) {K : Act → World → Prop} {Q : Exit → Act → World → Prop}
    (hk : ∀ v' g' w', VR g' v v' → Tr B0 g h w g' h' w' → K (A.put o.dst v') w') : o.wp P A w K Q := by
  unfold Oper.wp
  rw [he]
  rcases hc with ⟨v', w', g', h1, h2, h3⟩ | ⟨h1, h2⟩
  · rw [h1]; exact hk v' g' w' h2 h3
  · rw [h1]
    refine h2.mono ?_
    rintro e w' ⟨v', g', rfl, hv, ht⟩
    exact hk v' g' w' hv ht

theorem After.normal {B0 : Nat} {g : G} {h : H} {w : World} {n : Nat} {a : Tm} {A : Act} (hE : En B0 g h w) (hT : TR g a n A) {e : XE} {Q : Exit → Act → World → Prop} (hq : After B0 g h w n e a h Q) : Q (exitOf e) A w := hq g A w hT (.refl hE.hr)

theorem goodC_succ (hmo : P.follows .mixedOrders = true) {f : Nat} (hC : GoodC P Ov f) (hS : GoodS P Ov f) (hO : GoodO P Ov f) (hD : GoodD P Ov f) : GoodC P Ov (f + 1) := by
  intro c a h e a' h' hrun B0 g A w n hE hT hok Q hq
  replace hrun : codeF c (rn P Ov f) a h = .mk e a' h' := hrun
  cases c with
  | skip =>
    injection hrun with e1 e2 e3; subst e1; subst e2; subst e3
    exact wp_skip (hq.normal hE hT)
  | label l =>
    injection hrun with e1 e2 e3; subst e1; subst e2; subst e3
    exact wp_label (hq.normal hE hT)
  | exit id =>
    injection hrun with e1 e2 e3; subst e1; subst e2; subst e3
    exact wp_exit (hq.normal hE hT)
  | goto l =>
    injection hrun with e1 e2 e3; subst e1; subst e2; subst e3
    exact wp_goto (hq.normal hE hT)
  | ret =>
    injection hrun with e1 e2 e3; subst e1; subst e2; subst e3
    exact wp_ret (hq.normal hE hT)
  | region id ops d =>
    cases d with
    | false =>
      replace hrun : rn P Ov f (.ops ops ops.toList) a h = .mk e a' h' := hrun
      obtain ⟨he, hgo⟩ := hO _ _ _ _ _ _ _ hrun
      subst he
      refine wp_region (hgo B0 g A w n hE hT hok Q hq _ ?_)
      apply List.ext_getElem?
      intro i
      simp
      rcases Nat.lt_or_ge i ops.size with hi | hi
      · simp [hi]
      · simp [hi]
    | true =>
      replace hrun : rn P Ov f (.draw ops (prep ops) 0 []) a h = .mk e a' h' := hrun
      replace hok : bi (drawOk ops) (opsOk n ops.toList) false = true := hok
      obtain ⟨hd, hok⟩ := bi3 hok
      have hO := drawOk_once hd
      obtain ⟨hx, hall, hnd⟩ := prep_ok ops
      obtain ⟨he, hgo⟩ := hD _ _ _ _ _ _ _ _ _ hrun hx
      subst he
      refine wp_region_any hmo ?_
      refine hgo B0 g h w a n hO hok ⟨fun x hx' => ⟨hx x hx', by simp⟩, hnd, fun i o ho => .inr (hall i o ho)⟩ Q hq _ _ _ g A _ (by simp) (DInv.start hE.hr hE.fr hE.lo hT _) _ ?_
      unfold unl
      refine Nat.le_trans (List.length_filter_le _ _) ?_
      simp
  | seq x y =>
    replace hok : bi (codeOk n x) (codeOk n y) false = true := hok
    have hokx : codeOk n x = true ∧ codeOk n y = true := by
      cases h1 : codeOk n x <;> cases h2 : codeOk n y <;> rw [h1, h2] at hok <;> first | (cases hok; done) | exact ⟨rfl, rfl⟩
    replace hrun : seqK (rn P Ov f (.code x) a h) (rn P Ov f) y = .mk e a' h' := hrun
    cases hx : rn P Ov f (.code x) a h with
    | no => rw [hx] at hrun; cases hrun
    | ret v h2 => rw [hx] at hrun; cases hrun
    | mk e1 a1 h1 =>
      rw [hx] at hrun
      cases e1 with
      | normal =>
        replace hrun : rn P Ov f (.code y) a1 h1 = .mk e a' h' := hrun
        refine wp_seq (CW.wp (hC _ _ _ _ _ _ hx B0 g A w n hE hT hokx.1 _ ?_))
        intro g1 A1 w1 hT1 ht1
        exact CW.wp (hC _ _ _ _ _ _ hrun B0 g1 A1 w1 n (hE.tr ht1) hT1 hokx.2 Q (fun g2 A2 w2 hT2 ht2 => hq g2 A2 w2 hT2 (ht1.trans ht2)))
      | exit id =>
        injection hrun with e1 e2 e3; subst e1; subst e2; subst e3
        exact wp_seq (CW.wp (hC _ _ _ _ _ _ hx B0 g A w n hE hT hokx.1 _ hq))
      | goto l =>
        injection hrun with e1 e2 e3; subst e1; subst e2; subst e3
        exact wp_seq (CW.wp (hC _ _ _ _ _ _ hx B0 g A w n hE hT hokx.1 _ hq))
      | ret =>
        injection hrun with e1 e2 e3; subst e1; subst e2; subst e3
        exact wp_seq (CW.wp (hC _ _ _ _ _ _ hx B0 g A w n hE hT hokx.1 _ hq))
  | cond c x y =>
    replace hok : bi (codeOk n x) (codeOk n y) false = true := hok
    have hokx : codeOk n x = true ∧ codeOk n y = true := by
      cases h1 : codeOk n x <;> cases h2 : codeOk n y <;> rw [h1, h2] at hok <;> first | (cases hok; done) | exact ⟨rfl, rfl⟩
    replace hrun : condK (asBool (ev c a)) (rn P Ov f) x y a h = .mk e a' h' := hrun
    unfold condK at hrun
    cases hb : asBool (ev c a) with
    | none => rw [hb] at hrun; cases hrun
    | some b =>
      rw [hb] at hrun
      simp only [oc_some] at hrun
      have hv := hT.ev c
      rw [asBool_some hb] at hv
      generalize hcv : A.eval c = cv at hv
      cases hv
      cases b
      · exact wp_cond_false hcv (CW.wp (hC _ _ _ _ _ _ hrun B0 g A w n hE hT hokx.2 Q hq))
      · exact wp_cond_true hcv (CW.wp (hC _ _ _ _ _ _ hrun B0 g A w n hE hT hokx.1 Q hq))
  | block id c =>
    replace hrun : blockK (rn P Ov f (.code c) a h) id = .mk e a' h' := hrun
    cases hx : rn P Ov f (.code c) a h with
    | no => rw [hx] at hrun; cases hrun
    | ret v h2 => rw [hx] at hrun; cases hrun
    | mk e1 a1 h1 =>
      rw [hx] at hrun
      refine wp_block (CW.wp (hC _ _ _ _ _ _ hx B0 g A w n hE hT hok _ ?_))
      cases e1 with
      | normal => injection hrun with e1 e2 e3; subst e1; subst e2; subst e3; exact hq
      | goto l => injection hrun with e1 e2 e3; subst e1; subst e2; subst e3; exact hq
      | ret => injection hrun with e1 e2 e3; subst e1; subst e2; subst e3; exact hq
      | exit j =>
        replace hrun : bi (Nat.beq j id) (R.mk .normal a1 h1) (.mk (.exit j) a1 h1) = .mk e a' h' := hrun
        intro g1 A1 w1 hT1 ht1
        show (if j = id then Q .normal A1 w1 else Q (.exit j) A1 w1)
        cases hji : Nat.beq j id
        · rw [hji] at hrun
          injection hrun with e1 e2 e3; subst e1; subst e2; subst e3
          rw [if_neg (Nat.ne_of_beq_eq_false hji)]
          exact hq g1 A1 w1 hT1 ht1
        · rw [hji] at hrun
          injection hrun with e1 e2 e3; subst e1; subst e2; subst e3
          rw [if_pos (Nat.eq_of_beq_eq_true hji)]
          exact hq g1 A1 w1 hT1 ht1
  | loop c =>
    replace hrun : seqK (rn P Ov f (.code c) a h) (rn P Ov f) (.loop c) = .mk e a' h' := hrun
    show LoopWp P c Q A w
    cases hx : rn P Ov f (.code c) a h with
    | no => rw [hx] at hrun; cases hrun
    | ret v h2 => rw [hx] at hrun; cases hrun
    | mk e1 a1 h1 =>
      rw [hx] at hrun
      cases e1 with
      | normal =>
        replace hrun : rn P Ov f (.code (.loop c)) a1 h1 = .mk e a' h' := hrun
        refine LoopWp.round (CW.wp (hC _ _ _ _ _ _ hx B0 g A w n hE hT hok _ ?_))
        intro g1 A1 w1 hT1 ht1
        exact hC _ _ _ _ _ _ hrun B0 g1 A1 w1 n (hE.tr ht1) hT1 hok Q (fun g2 A2 w2 hT2 ht2 => hq g2 A2 w2 hT2 (ht1.trans ht2))
      | exit id =>
        injection hrun with e1 e2 e3; subst e1; subst e2; subst e3
        exact LoopWp.round (CW.wp (hC _ _ _ _ _ _ hx B0 g A w n hE hT hok _ hq))
      | goto l =>
        injection hrun with e1 e2 e3; subst e1; subst e2; subst e3
        exact LoopWp.round (CW.wp (hC _ _ _ _ _ _ hx B0 g A w n hE hT hok _ hq))
      | ret =>
        injection hrun with e1 e2 e3; subst e1; subst e2; subst e3
        exact LoopWp.round (CW.wp (hC _ _ _ _ _ _ hx B0 g A w n hE hT hok _ hq))
  | scope c =>
    replace hrun : rn P Ov f (.scope c c) a h = .mk e a' h' := hrun
    exact (hS _ _ _ _ _ _ _ hrun B0 g A w n hE hT hok hok Q hq).scope
  | rangeFunc _ _ _ _ => cases hrun
  | refuse _ => cases hrun
theorem goodS_succ {f : Nat} (hC : GoodC P Ov f) (hS : GoodS P Ov f) : GoodS P Ov (f + 1) := by
  intro s c a h e a' h' hrun B0 g A w n hE hT hoks hokc Q hq
  replace hrun : scopeK (rn P Ov f (.code c) a h) (rn P Ov f) s = .mk e a' h' := hrun
  cases hx : rn P Ov f (.code c) a h with
  | no => rw [hx] at hrun; cases hrun
  | ret v h2 => rw [hx] at hrun; cases hrun
  | mk e1 a1 h1 =>
    rw [hx] at hrun
    refine ScopeWp.round (CW.wp (hC _ _ _ _ _ _ hx B0 g A w n hE hT hokc _ ?_))
    cases e1 with
    | normal => injection hrun with e1 e2 e3; subst e1; subst e2; subst e3; exact hq
    | exit id => injection hrun with e1 e2 e3; subst e1; subst e2; subst e3; exact hq
    | ret => injection hrun with e1 e2 e3; subst e1; subst e2; subst e3; exact hq
    | goto l =>
      replace hrun : gotoK (findLabel s l) (rn P Ov f) s l a1 h1 = .mk e a' h' := hrun
      intro g1 A1 w1 hT1 ht1
      show (match findLabel s l with | some rest => ScopeWp P s rest Q A1 w1 | none => Q (.goto l) A1 w1)
      unfold gotoK at hrun
      cases hf : findLabel s l with
      | none =>
        rw [hf] at hrun
        injection hrun with e1 e2 e3; subst e1; subst e2; subst e3
        exact hq g1 A1 w1 hT1 ht1
      | some rest =>
        rw [hf] at hrun
        exact hS _ _ _ _ _ _ _ hrun B0 g1 A1 w1 n (hE.tr ht1) hT1 hoks (codeOk_label hoks hf) Q (fun g2 A2 w2 hT2 ht2 => hq g2 A2 w2 hT2 (ht1.trans ht2))

theorem VR.bool_inv {g : G} {b : Bool} {v : Value} (h : VR g (.bool b) v) : v = .bool b := by cases h; rfl
theorem wants_ok {g : G} {a : Tm} {n : Nat} {A : Act} (hT : TR g a n A) {ops : Array Oper} {o : Oper} {b : Bool} (h : wants o.guard ops a = some b) : Region.wanted o (yielded ops A.tmps) = b := by
  unfold wants at h
  unfold Region.wanted
  cases hg : o.guard with
  | none => rw [hg] at h; injection h
  | some p =>
    obtain ⟨j, want⟩ := p
    rw [hg] at h
    simp only [oc_some, idx_eq] at h
    unfold wantD at h
    cases ho : ops.toList[j]? with
    | none => rw [ho] at h; cases h
    | some o' =>
      rw [ho] at h
      simp only [oc_some] at h
      cases hd : o'.dst with
      | none => rw [hd] at h; cases h
      | some d =>
        rw [hd] at h
        simp only [oc_some] at h
        have hv := hT.val d
        have ho' : ops[j]? = some o' := by simpa using ho
        simp only [yielded, ho', hd, Option.bind_some]
        generalize tmD (a.get d) = x at h hv
        cases x <;> first | (cases h; done) | skip
        · rename_i c
          have hvv := hv.bool_inv
          have hlt : d < A.tmps.size := by
            rcases Nat.lt_or_ge d A.tmps.size with h1 | h1
            · exact h1
            · simp [Array.getD, Nat.not_lt.2 h1, undef] at hvv
          have hc : A.tmps[d]? = some (.bool c) := by
            rw [Array.getElem?_eq_getElem hlt]
            simp [Array.getD, hlt] at hvv
            rw [hvv]
          rw [hc]
          have h : some (bi want c (bi c false true)) = some b := h
          injection h with h
          rw [← h]
          cases want <;> cases c <;> rfl
        · rename_i l
          have h : some false = some b := h
          injection h with h
          subst h
          obtain ⟨l', hl', _⟩ := hv.tup_inv
          cases hc : A.tmps[d]? with
          | none => rfl
          | some y =>
            have : y = .tuple l'.toArray := by
              rw [← hl', Array.getD_eq_getD_getElem?, hc]
              rfl
            subst this
            rfl
theorem goodO_succ {f : Nat} (hO : GoodO P Ov f) (hX : GoodX P Ov f) : GoodO P Ov (f + 1) := by
  intro ops l a h e a' h' hrun
  replace hrun : opsF l (mkTI P) Ov (rn P Ov f) ops a h = .mk e a' h' := hrun
  cases l with
  | nil =>
    injection hrun with e1 e2 e3; subst e1; subst e2; subst e3
    refine ⟨rfl, fun B0 g A w n hE hT _ Q hq idxs hi => ?_⟩
    have : idxs = [] := by simpa using hi
    subst this
    exact hq.normal hE hT
  | cons o r =>
    replace hrun : op1 o (mkTI P) Ov (rn P Ov f) ops r a h = .mk e a' h' := hrun
    unfold op1 at hrun
    cases hw : wants o.guard ops a with
    | none => rw [hw] at hrun; cases hrun
    | some b =>
      rw [hw] at hrun
      simp only [oc_some] at hrun
      have split : ∀ n, opsOk n (o :: r) = true → dstOk n o.dst = true ∧ opsOk n r = true := fun n hok => by
        replace hok : bi (dstOk n o.dst) (opsOk n r) false = true := hok
        cases h1 : dstOk n o.dst <;> cases h2 : opsOk n r <;> rw [h1, h2] at hok <;> first | (cases hok; done) | exact ⟨rfl, rfl⟩
      cases b with
      | false =>
        rw [bi_false] at hrun
        obtain ⟨he, hgo⟩ := hO _ _ _ _ _ _ _ hrun
        refine ⟨he, fun B0 g A w n hE hT hok Q hq idxs hi => ?_⟩
        obtain ⟨hd, hok⟩ := split n hok
        cases idxs with
        | nil => simp at hi
        | cons i rest =>
          simp only [List.map_cons, List.cons.injEq] at hi
          simp only [wpOps, hi.1, wants_ok hT hw, Bool.false_eq_true, if_false]
          exact hgo B0 g (A.put o.dst undef) w n hE (hT.put hd (.tup [] [] .nil)) hok Q hq rest hi.2
      | true =>
        rw [bi_true] at hrun
        cases hx : xop o.op (mkTI P) a h with
        | no => rw [hx] at hrun; cases hrun
        | val v h1 =>
          rw [hx] at hrun
          replace hrun : rn P Ov f (.ops ops r) (putD o.dst v a) h1 = .mk e a' h' := hrun
          obtain ⟨he, hgo⟩ := hO _ _ _ _ _ _ _ hrun
          refine ⟨he, fun B0 g A w n hE hT hok Q hq idxs hi => ?_⟩
          obtain ⟨hd, hok⟩ := split n hok
          cases idxs with
          | nil => simp at hi
          | cons i rest =>
            simp only [List.map_cons, List.cons.injEq] at hi
            simp only [wpOps, hi.1, wants_ok hT hw, if_true]
            left
            have hog := xop_good (P := P) hE.hr hE.lo hE.hm (hE.fr.pos _ (Nat.le_refl _)) (hE.fr.grow _ (Nat.le_refl _)) o a A.eval (fun x _ => hT.ev x)
            rw [hx] at hog
            obtain ⟨nx, w1, g1, v', hr1, hnx, hv, ht⟩ := hog
            have key := hgo B0 g1 (A.put o.dst v') w1 n (hE.tr ht) ((hT.mono ht.le).put hd hv) hok Q (fun g2 A2 w2 hT2 ht2 => hq g2 A2 w2 hT2 (ht.trans ht2)) rest hi.2
            unfold Oper.wp
            rw [hr1]
            rcases hnx with rfl | ⟨rfl, rfl⟩
            · exact key
            · exact key
        | call F args h1 =>
          rw [hx] at hrun
          replace hrun : retK (callK Ov (rn P Ov f) F args h1) (rn P Ov f) ops r o.dst a = .mk e a' h' := hrun
          cases hc : callK Ov (rn P Ov f) F args h1 with
          | no => rw [hc] at hrun; cases hrun
          | mk _ _ _ => rw [hc] at hrun; cases hrun
          | ret v h2 =>
            rw [hc] at hrun
            replace hrun : rn P Ov f (.ops ops r) (putD o.dst v a) h2 = .mk e a' h' := hrun
            obtain ⟨he, hgo⟩ := hO _ _ _ _ _ _ _ hrun
            refine ⟨he, fun B0 g A w n hE hT hok Q hq idxs hi => ?_⟩
            obtain ⟨hd, hok⟩ := split n hok
            cases idxs with
            | nil => simp at hi
            | cons i rest =>
              simp only [List.map_cons, List.cons.injEq] at hi
              simp only [wpOps, hi.1, wants_ok hT hw, if_true]
              left
              have hog := xop_good (P := P) hE.hr hE.lo hE.hm (hE.fr.pos _ (Nat.le_refl _)) (hE.fr.grow _ (Nat.le_refl _)) o a A.eval (fun x _ => hT.ev x)
              rw [hx] at hog
              obtain ⟨rfl, args', hargs, hrun1⟩ := hog
              refine (hX _ _ _ _ _ hc B0 g w args' hE hargs).wp hrun1 fun v' g1 w1 hv ht => ?_
              exact hgo B0 g1 (A.put o.dst v') w1 n (hE.tr ht) ((hT.mono ht.le).put hd hv) hok Q (fun g2 A2 w2 hT2 ht2 => hq g2 A2 w2 hT2 (ht.trans ht2)) rest hi.2
theorem rd_ok {B0 : Nat} {g : G} {h : H} {w : World} (hr : HR B0 g h w) (t : TypeId) {x : AV} {xv : Value} (hx : VR g x xv) {v : AV} (e : rd h x (mkTI P t) = some v) : ∃ v', (do loadVar t (← asAddr xv) : Sem Value).run P w = .ok v' w ∧ VR g v v' := by
  unfold rd at e
  cases e1 : asPtr x with
  | none => rw [e1] at e; cases e
  | some p =>
    rw [e1] at e
    have := asPtr_some e1; subst this
    cases hx with | ptr b o B base hp =>
    cases e2 : mkTI P t with
    | none => rw [e2] at e; cases e
    | some ti =>
      have ht := mkTI_some e2
      rw [e2] at e
      simp only [oc_some] at e
      cases e3 : objCells (h.m.get p.1) with
      | none => rw [e3] at e; cases e
      | some c =>
        rw [e3] at e
        simp only [oc_some] at e
        have hc := hr.row e3 hp
        cases ha : isAgg ti.kind
        · rw [ha, bi_false, idx_eq] at e
          obtain ⟨v', a1, a2, _⟩ := hc.cell e
          exact ⟨v', by simp [asAddr, loadVar, ht.isAgg, ha, a1, Result.andThen], a2⟩
        · rw [ha, bi_true] at e
          cases e4 : sub c.1 p.2 ti.size with
          | none => rw [e4] at e; cases e
          | some r =>
            rw [e4] at e
            injection e with e
            subst e
            obtain ⟨cs, a1, a2, a3, a4, _⟩ := hc.cells (P := P) e4
            exact ⟨.agg cs.toArray, by simp [asAddr, loadVar, ht.isAgg, ha, ht.sizeOf, a4, Result.andThen], .agg r cs a2 a3⟩
def resF (tmps : Array Value) : ResultVar → Sem Value
  | .tmp t => pure (tmps.getD t undef)
  | .cell a t => do loadVar t (← asAddr (tmps.getD a undef))
theorem results_eq (fn : Func) (tmps : Array Value) : results fn tmps = (do let vs ← fn.results.mapM (resF tmps); pure (if h : vs.size = 1 then vs[0] else .tuple vs)) := by
  unfold results
  congr 2
theorem readL_ok {B0 : Nat} {g : G} {h : H} {w : World} (hr : HR B0 g h w) {a : Tm} {n : Nat} {A : Act} (hT : TR g a n A) (F : ResultVar → Sem Value) (hF1 : ∀ t, F (.tmp t) = pure (A.tmps.getD t undef)) (hF2 : ∀ a t, F (.cell a t) = (do loadVar t (← asAddr (A.tmps.getD a undef)))) :
    ∀ (l : List ResultVar) {vs : List AV}, readL (mkTI P) h a l = some vs → ∃ vs', (l.mapM (m := Sem) F).run P w = .ok vs' w ∧ VRs g vs vs'
  | [], vs, e => by injection e with e; subst e; exact ⟨[], rfl, .nil⟩
  | x :: r, vs, e => by
    replace e : oc none (fun v => oc none (fun l => some (v :: l)) (readL (mkTI P) h a r)) (rd1 x (mkTI P) h a) = some vs := e
    cases e1 : rd1 x (mkTI P) h a with
    | none => rw [e1] at e; cases e
    | some v =>
      cases e2 : readL (mkTI P) h a r with
      | none => rw [e1, e2] at e; cases e
      | some l =>
        rw [e1, e2] at e
        injection e with e
        subst e
        obtain ⟨vs', b1, b2⟩ := readL_ok hr hT F hF1 hF2 r e2
        rw [List.mapM_cons]
        cases x with
        | tmp t =>
          injection e1 with e1
          subst e1
          exact ⟨_, by simp only [Sem.run_bind, hF1, Sem.run_pure, Result.andThen_ok, b1], .cons _ _ _ _ (hT.val t) b2⟩
        | cell ad t =>
          replace e1 : rd h (tmD (a.get ad)) (mkTI P t) = some v := e1
          obtain ⟨v', c1, c2⟩ := rd_ok hr t (hT.val ad) e1
          exact ⟨v' :: vs', by rw [hF2]; simp only [Sem.run_bind] at c1 ⊢; rw [c1]; simp only [Result.andThen_ok, b1, Sem.run_pure], .cons _ _ _ _ c2 b2⟩
theorem one_ok {g : G} {l : List AV} {l' : List Value} (h : VRs g l l') : VR g (one l) (if h : l'.toArray.size = 1 then l'.toArray[0] else .tuple l'.toArray) := by
  cases h with
  | nil => exact .tup [] [] .nil
  | cons v v' r r' hv hs =>
    cases hs with
    | nil => exact hv
    | cons v2 v2' r2 r2' hv2 hs2 =>
      rw [dif_neg (by simp)]
      exact .tup _ (v' :: v2' :: r2') (.cons _ _ _ _ hv (.cons _ _ _ _ hv2 hs2))
theorem initT_get (l : List AV) : ∀ (i : Nat) (t : Tm) (k : Nat), (initT l i t).get k = if i ≤ k ∧ k < i + l.length then l[k - i]? else t.get k := by
  induction l with
  | nil => intro i t k; rw [if_neg (by simp)]; rfl
  | cons v r ih =>
    intro i t k
    show (initT r (i + 1) (t.set i v)).get k = _
    rw [ih, get_set]
    by_cases h1 : i + 1 ≤ k ∧ k < i + 1 + r.length
    · rw [if_pos h1, if_pos (by simp; omega), show k - i = (k - (i + 1)) + 1 by omega]
      rfl
    · rw [if_neg h1]
      by_cases h2 : i = k
      · subst h2
        rw [if_pos rfl, if_pos (by simp)]
        simp
      · rw [if_neg h2, if_neg (by simp; omega)]
theorem goodK_succ {f : Nat} (hC : GoodC P Ov f) : GoodK P Ov (f + 1) := by
  intro F args a h v h' hrun
  replace hrun : callF (P.funcs[F]?) (rn P Ov f) (mkTI P) args h = .ret v h' := hrun
  unfold callF at hrun
  cases hf : P.funcs[F]? with
  | none => rw [hf] at hrun; cases hrun
  | some fn =>
    rw [hf] at hrun
    simp only [oc_some] at hrun
    cases hok : fnOk fn
    · rw [hok] at hrun; cases hrun
    · rw [hok, bi_true] at hrun
      unfold fnOk at hok
      cases hnm : fn.name == "runtime.NumGoroutine"
      · rw [hnm, bi_false] at hok
        unfold bodyK at hrun
        cases hb : fn.body with
        | none => rw [hb] at hok; cases hok
        | some c =>
          rw [hb] at hrun hok
          simp only [oc_some] at hrun hok
          refine ⟨⟨fn, rfl, hnm, by rw [hb]; rfl⟩, fun B0 g w args' hE hargs => ?_⟩
          cases hx : rn P Ov f (.code c) (initT args 0 .e) h with
          | no => rw [hx] at hrun; cases hrun
          | ret _ _ => rw [hx] at hrun; cases hrun
          | mk e a1 h1 =>
            rw [hx] at hrun
            have hres : (e = .normal ∨ e = .ret) ∧ resK (readL (mkTI P) h1 a1 fn.results.toList) h1 = .ret v h' := by
              cases e with
              | normal => exact ⟨.inl rfl, hrun⟩
              | ret => exact ⟨.inr rfl, hrun⟩
              | exit _ => cases hrun
              | goto _ => cases hrun
            obtain ⟨hen, hres⟩ := hres
            unfold resK at hres
            cases hl : readL (mkTI P) h1 a1 fn.results.toList with
            | none => rw [hl] at hres; cases hres
            | some l =>
              rw [hl] at hres
              injection hres with r1 r2
              subst r1; subst r2
              refine calls_of_wp hf hb (CW.wp (hC _ _ _ _ _ _ hx B0 g _ w fn.ntmps hE ?_ hok _ ?_))
              · refine ⟨by simp; omega, fun t => ?_, rfl⟩
                rw [initT_get]
                simp only [Nat.zero_le, true_and, Nat.zero_add, Nat.sub_zero, get_e]
                by_cases ht : t < args.length
                · rw [if_pos ht]
                  obtain ⟨v', e1, e2⟩ := hargs.at (List.getElem?_eq_getElem ht)
                  have hlt : t < args'.length := by rw [← hargs.length]; exact ht
                  rw [List.getElem?_eq_getElem ht]
                  have : (args'.toArray ++ Array.replicate (fn.ntmps - args'.toArray.size) undef).getD t undef = v' := by
                    rw [Array.getD_eq_getD_getElem?, Array.getElem?_append_left (by simpa using hlt)]
                    simp [e1]
                  rw [this]
                  exact e2
                · rw [if_neg ht]
                  exact .any _
              · intro g1 A1 w1 hT1 ht1
                have hfin : A1.defers = [] ∧ ∃ v', (results fn A1.tmps).run P w1 = .ok v' w1 ∧ VR g1 (one l) v' := by
                  refine ⟨hT1.dn, ?_⟩
                  obtain ⟨vs', b1, b2⟩ := readL_ok (P := P) ht1.hr hT1 (resF A1.tmps) (fun _ => rfl) (fun _ _ => rfl) fn.results.toList hl
                  refine ⟨_, ?_, one_ok b2⟩
                  rw [results_eq, Array.mapM_eq_mapM_toList]
                  simp only [Sem.run_bind, Sem.run_map, b1, Result.andThen_ok, Sem.run_pure]
                obtain ⟨hd, v', hv1, hv2⟩ := hfin
                rcases hen with rfl | rfl
                · exact ⟨hd, v', hv1, v', g1, rfl, hv2, ht1⟩
                · exact ⟨hd, v', hv1, v', g1, rfl, hv2, ht1⟩
      · rw [hnm] at hok; cases hok
theorem dop_mk {x : XR} {Ty : TypeId → Option TI} {Ov : Ovs} {g : Rc} {ops : Array Oper} {e : OX} {r : List OX} {L : Nat} {a : Tm} {pd : List RdE} {e' : XE} {a' : Tm} {h' : H} (h : dop x Ty Ov g ops e r L a pd = .mk e' a' h') :
    ∃ v k, (x = .val v k ∨ ∃ F args k0, x = .call F args k0 ∧ callK Ov g F args k0 = .ret v k) ∧ ∃ pd', chk Ty e.b k pd = some pd' ∧ g (.draw ops r (Nat.lor L e.bit) pd') (putD e.o.dst v a) k = .mk e' a' h' := by
  have st : ∀ v k, stage2 Ty g ops e r L a pd v k = .mk e' a' h' → ∃ pd', chk Ty e.b k pd = some pd' ∧ g (.draw ops r (Nat.lor L e.bit) pd') (putD e.o.dst v a) k = .mk e' a' h' := fun v k h => by
    unfold stage2 at h
    cases hc : chk Ty e.b k pd with
    | none => rw [hc] at h; cases h
    | some pd' => rw [hc, oc_some, nF_eq] at h; exact ⟨pd', rfl, h⟩
  cases x with
  | no => cases h
  | val v k => exact ⟨v, k, .inl rfl, st v k h⟩
  | call F args k0 =>
    replace h : dret (callK Ov g F args k0) Ty g ops e r L a pd = .mk e' a' h' := h
    cases hc : callK Ov g F args k0 with
    | no => rw [hc] at h; cases h
    | mk _ _ _ => rw [hc] at h; cases h
    | ret v k => rw [hc] at h; exact ⟨v, k, .inr ⟨F, args, k0, rfl, hc⟩, st v k h⟩
theorem revL_mem {α : Type} : ∀ (l r : List α) (x : α), x ∈ revL l r ↔ x ∈ l ∨ x ∈ r := by
  intro l
  induction l with
  | nil => intro r x; show x ∈ r ↔ _; simp
  | cons a s ih => intro r x; show x ∈ revL s (a :: r) ↔ _; rw [ih]; simp [or_assoc, or_left_comm]
theorem revL_perm {α : Type} : ∀ (l r : List α), (revL l r).Perm (l ++ r) := by
  intro l
  induction l with
  | nil => intro r; exact .refl _
  | cons a s ih => intro r; exact (ih (a :: r)).trans List.perm_middle
theorem stage1_mk {Ty : TypeId → Option TI} {Ov : Ovs} {ops : Array Oper} {g : Rc} {e : OX} {r : List OX} {L : Nat} {a : Tm} {h : H} {pd : List RdE} {e' : XE} {a' : Tm} {h' : H} (hs : stage1 Ty Ov ops g e r L a h pd = .mk e' a' h') :
    (∀ x ∈ r, hasB x.b e.bit = true) ∧ wants e.o.guard ops a = some true ∧ dop (xop e.o.op Ty a h) Ty Ov g ops e r L a pd = .mk e' a' h' := by
  unfold stage1 at hs
  cases h1 : Nat.beq (Nat.land e.m L) e.m
  · rw [h1] at hs; cases hs
  · rw [h1, bi_true] at hs
    cases h2 : allL (fun x => hasB x.b e.bit) r
    · rw [h2] at hs; cases hs
    · rw [h2, bi_true] at hs
      cases h3 : wants e.o.guard ops a with
      | none => rw [h3] at hs; cases hs
      | some b =>
        rw [h3, oc_some] at hs
        cases b
        · cases hs
        · exact ⟨allL_mem h2, rfl, hs⟩
theorem goodD_succ {f : Nat} (hD : GoodD P Ov f) (hX : GoodX P Ov f) : GoodD P Ov (f + 1) := by
  intro ops l L pd a h e a' h' hrun hx
  replace hrun : passF l (mkTI P) ops (fun kept L a h pd => stageL (mkTI P) Ov ops (rn P Ov f) (revL kept []) L a h pd) [] L a h pd = .mk e a' h' := hrun
  refine ⟨?_, fun B0 g0 h0 w0 a0 n hO hok hR Q hq E nb listed g A w hs hI fuel hf => ?_⟩
  · obtain ⟨kept, L1, a1, h1, pd1, h2, h3⟩ := pass_fin l [] L a h pd hx hrun
    replace h2 : stageL (mkTI P) Ov ops (rn P Ov f) (revL kept []) L1 a1 h1 pd1 = .mk e a' h' := h2
    cases hk : revL kept [] with
    | nil => rw [hk] at h2; injection h2 with h2; exact h2.symm
    | cons y r =>
      rw [hk] at h2
      obtain ⟨_, _, h4⟩ := stage1_mk (show stage1 (mkTI P) Ov ops (rn P Ov f) y r L1 a1 h1 pd1 = _ from h2)
      obtain ⟨v, k, _, pd', _, h5⟩ := dop_mk h4
      refine (hD _ _ _ _ _ _ _ _ _ h5 fun z hz => ?_).1
      have : z ∈ revL kept [] := by rw [hk]; exact .tail _ hz
      rcases (revL_mem _ _ _).1 this with h6 | h6
      · rcases h3 z h6 with h7 | h7
        · exact hx z h7
        · cases h7
      · cases h6
  · obtain ⟨kept, L1, a1, h1, pd1, E1, nb1, h2, hR1, hI1⟩ := pass_ok hO l [] L a h pd E nb (by simpa using hR) hI hrun
    replace h2 : stageL (mkTI P) Ov ops (rn P Ov f) (revL kept []) L1 a1 h1 pd1 = .mk e a' h' := h2
    replace hR1 : Rest ops L1 (revL kept []) := hR1.perm (by have := (revL_perm kept []).symm; simpa using this)
    cases hk : revL kept [] with
    | nil =>
      rw [hk] at h2 hR1
      injection h2 with r1 r2 r3
      subst r1; subst r2; subst r3
      refine any_stage hO hok (fun listed g A w hs hI hall => hq g A w (hI.tr_all hall) hI.tr) (fun listed g A w hs hI i o ho hn hr hL => ?_) fuel listed g A w hs hI1 hf
      exfalso
      rcases hR1.cov i o ho with h3 | ⟨x, hx, _⟩
      · rw [hL] at h3; cases h3
      · cases hx
    | cons y r =>
      rw [hk] at h2 hR1
      obtain ⟨hall, hw, h4⟩ := stage1_mk (show stage1 (mkTI P) Ov ops (rn P Ov f) y r L1 a1 h1 pd1 = _ from h2)
      obtain ⟨v, k, hvk, pd', hc, h5⟩ := dop_mk h4
      obtain ⟨hy, hyL⟩ := hR1.mem y (.head _)
      obtain ⟨_, hgo⟩ := hD _ _ _ _ _ _ _ _ _ h5 (fun z hz => (hR1.mem z (.tail _ hz)).1)
      refine any_stage hO hok (fun listed g A w hs hI hall' => ?_) (fun listed g A w hs hI i o ho hn hr hL fuel hf => ?_) fuel listed g A w hs hI1 hf
      · exfalso
        have := hI.sub y.i (hall' _ _ hy.op)
        rw [hyL] at this; cases this
      · have hi : i < ops.size := (Array.getElem?_eq_some_iff.1 ho).1
        have hDy : ¬ DL listed y.i := fun h => by have := hI.sub _ h; rw [hyL] at this; cases this
        have hiy : i = y.i := by
          rcases hR1.cov i o ho with h3 | ⟨x, hx, hxi⟩
          · rw [hL] at h3; cases h3
          · cases hx with
            | head => exact hxi.symm
            | tail _ hx =>
              exfalso
              have hxk := (hR1.mem x (.tail _ hx)).1
              have hb := hall x hx
              rw [hy.bit] at hb
              have ho' : ops[i]? = some x.o := by rw [← hxi]; exact hxk.op
              rw [ho] at ho'; injection ho' with ho'; subst ho'
              have := hxk.b _ (hI.cl.add ho hr) (.inr hxi) _ (hasB_true hb)
              rcases this with h6 | h6
              · exact hDy h6
              · have hnd := hR1.nd
                rw [List.map_cons, List.nodup_cons] at hnd
                exact hnd.1 (List.mem_map.2 ⟨x, hx, by rw [hxi, h6]⟩)
        subst hiy
        have hoy : o = y.o := by have := hy.op; rw [ho] at this; injection this
        subst hoy
        have hT := hI.he_next hO ho hL hr
        have hok' := opsOk_mem hok y.o (by simpa using Array.mem_of_getElem? ho)
        have hpd : ∀ j oj, ops[j]? = some oj → L1.testBit j = true → ¬ DL listed j → RdE.mk j (Nat.shiftLeft 1 j) oj (E1 j).1 (E1 j).2 ∈ pd1 → kd oj.op = .read → RdE.mk j (Nat.shiftLeft 1 j) oj (E1 j).1 (E1 j).2 ∈ pd' ∧ xop oj.op (mkTI P) (E1 j).1 k = .val (E1 j).2 k := fun j oj hj hLj hDj hp hk => by
          rcases chk_some hc _ hp with h6 | ⟨h6, k2, h7⟩
          · exfalso
            have := hy.b _ (hI.cl.add ho hr) (.inr rfl) _ (hasB_true h6)
            rcases this with h8 | h8
            · exact hDj h8
            · subst h8; rw [hL] at hLj; cases hLj
          · have := xop_read hk h7
            subst this
            exact ⟨h6, h7⟩
        have fin : ∀ v' g2 w2, VR g2 v v' → Tr B0 g h1 w g2 k w2 → wpAny P .any ops Q fuel (listed.setIfInBounds y.i true) (A.put y.o.dst v') w2 := fun v' g2 w2 hv ht => by
          have hI2 := hI.eff hO ho hL hr hok' hy.bit ht hv hpd
          rw [← DL_set (by omega)] at hI2
          exact hgo B0 g0 h0 w0 a0 n hO hok hR1.next Q hq _ _ _ g2 _ w2 (by simpa using hs) hI2 fuel hf
        have hog := xop_good (P := P) hI.tr.hr hI.lo (fun b o hb => by
          rcases Nat.lt_or_ge b h1.next with h1' | h1'
          · exact h1'
          · rw [hI.fr.m b h1'] at hb; cases hb) (hI.fr.pos _ (Nat.le_refl _)) (hI.fr.grow _ (Nat.le_refl _)) y.o a1 A.eval (ev_of hT)
        unfold wpOp
        simp only [ho]
        rw [if_pos (wants_ok' hT hw)]
        left
        rcases hvk with hvk | ⟨F, args, k0, hvk, hcall⟩
        · unfold Oper.wp
          rw [hvk] at hog
          obtain ⟨nx, w2, g2, v', hr1, hnx, hv, ht⟩ := hog
          rw [hr1]
          rcases hnx with rfl | ⟨rfl, rfl⟩
          · exact fin _ g2 w2 hv ht
          · exact fin _ g2 w2 hv ht
        · rw [hvk] at hog
          obtain ⟨rfl, args', hargs, hrun1⟩ := hog
          exact (hX _ _ _ _ _ hcall B0 g w args' ⟨hI.tr.hr, hI.fr, hI.lo⟩ hargs).wp hrun1 fun v' g2 w2 hv ht => fin v' g2 w2 hv ht
theorem good (hmo : P.follows .mixedOrders = true) (hov : OvsOk P Ov) (f : Nat) : GoodC P Ov f ∧ GoodS P Ov f ∧ GoodO P Ov f ∧ GoodK P Ov f ∧ GoodD P Ov f := by
  induction f with
  | zero =>
    refine ⟨?_, ?_, ?_, ?_, ?_⟩
    · intro c a h e a' h' hr; cases hr
    · intro s c a h e a' h' hr; cases hr
    · intro ops l a h e a' h' hr; cases hr
    · intro F args a h v h' hr; cases hr
    · intro ops l L pd a h e a' h' hr; cases hr
  | succ f ih =>
    obtain ⟨hC, hS, hO, hK, hD⟩ := ih
    exact ⟨goodC_succ hmo hC hS hO hD, goodS_succ hC hS, goodO_succ hO (goodX hov hK), goodK_succ hC, goodD_succ hD (goodX hov hK)⟩
end
end Go.Proofs.YtimjbojoeacaeaaDoor.Kx
