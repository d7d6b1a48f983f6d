/- KxTop, larger: lists of pieces in one run, rows of cells kept between pieces with what is said about them. -/
import Derived.Test.YtfffehbipcikoaaKxMain
namespace Go.Proofs.Ytfffehbipcikoaa.Kx
open Go.RowKit
noncomputable section
def xeEq : XE → XE → Bool := @XE.rec (fun _ => XE → Bool) (fun e => @XE.rec (fun _ => Bool) true (fun _ => false) (fun _ => false) false e) (fun i e => @XE.rec (fun _ => Bool) false (fun j => Nat.beq i j) (fun _ => false) false e) (fun i e => @XE.rec (fun _ => Bool) false (fun _ => false) (fun j => Nat.beq i j) false e) (fun e => @XE.rec (fun _ => Bool) false (fun _ => false) (fun _ => false) true e)
def ofL (l : List (Nat × AV)) : Tm := @List.rec (Nat × AV) (fun _ => Tm) .e (fun p _ r => r.set p.1 p.2) l
def ofH (l : List (Nat × AObj)) : T AObj := @List.rec (Nat × AObj) (fun _ => T AObj) .e (fun p _ r => r.set p.1 p.2) l
/-- Alike, or nothing said. -/
def avsEq (x : List AV) : List AV → Bool := @List.rec AV (fun _ => List AV → Bool) (fun y => @List.rec AV (fun _ => Bool) true (fun _ _ _ => false) y) (fun a _ g y => @List.rec AV (fun _ => Bool) false (fun b r _ => bi (bi (isAny b) true (avEq a b)) (g r) false) y) x
/-- Rows alone are kept. -/
def obEq (o : Option AObj) (p : AObj) : Bool := oc false (fun c => oc false (fun d => bi (avsEq c.1 d.1) (Nat.beq c.2 d.2) false) (objCells (some p))) (objCells o)
def topC (r : R) (e : XE) (l : List (Nat × AV)) (hl : List (Nat × AObj)) (N : Nat) : Bool := @R.rec (fun _ => Bool) false (fun e' a h => bi (xeEq e' e) (bi (Nat.ble h.next N) (bi (allL (fun p => avEq (tmD (a.get p.1)) p.2) l) (allL (fun p => bi (Nat.blt p.1 N) (obEq (h.m.get p.1) p.2) false) hl) false) false) false) (fun _ _ => false) r
end
theorem xeEq_true {e e' : XE} (h : xeEq e e' = true) : e = e' := by
  cases e <;> cases e' <;> first | rfl | (cases h; done) | exact congrArg _ (Nat.eq_of_beq_eq_true h)
section
variable {P : Program} {Ov : Ovs}
inductive Less : List AV → List AV → Prop where
  | nil : Less [] []
  | any (a : AV) {l m : List AV} (h : Less l m) : Less (a :: l) (.any :: m)
  | same (a : AV) {l m : List AV} (h : Less l m) : Less (a :: l) (a :: m)
theorem avsEq_true : ∀ {x y : List AV}, avsEq x y = true → Less x y
  | [], [], _ => .nil
  | [], _ :: _, h => by cases h
  | _ :: _, [], h => by cases h
  | a :: r, b :: s, h => by
    obtain ⟨h1, h2⟩ := bi3 (show bi (bi (isAny b) true (avEq a b)) (avsEq r s) false = true from h)
    cases hb : isAny b
    · rw [hb, bi_false] at h1
      rw [avEq_true _ _ h1]
      exact .same _ (avsEq_true h2)
    · have : b = .any := by cases b <;> first | rfl | cases hb
      subst this
      exact .any _ (avsEq_true h2)
theorem Less.length {l m : List AV} (h : Less l m) : l.length = m.length := by induction h <;> simp [*]
theorem Less.at {l m : List AV} (h : Less l m) : ∀ {i : Nat} {v : AV}, m[i]? = some v → ∃ u, l[i]? = some u ∧ (v = .any ∨ v = u) := by
  induction h with
  | nil => intro i v h; simp at h
  | any a _ ih =>
    intro i v hv
    cases i with
    | zero => injection hv with hv; exact ⟨a, rfl, .inl hv.symm⟩
    | succ i => exact ih hv
  | same a _ ih =>
    intro i v hv
    cases i with
    | zero => injection hv with hv; exact ⟨a, rfl, .inr hv.symm⟩
    | succ i => exact ih hv
theorem obEq_true {o : Option AObj} {p : AObj} (h : obEq o p = true) : ∃ l m t, o = some (.cells l t) ∧ p = .cells m t ∧ Less l m := by
  unfold obEq at h
  cases h1 : objCells o with
  | none => rw [h1] at h; cases h
  | some c =>
    cases h2 : objCells (some p) with
    | none => rw [h1, h2] at h; cases h
    | some d =>
      rw [h1, h2, oc_some, oc_some] at h
      obtain ⟨h3, h4⟩ := bi3 h
      have e1 := objCells_some h1
      have e2 := objCells_some h2
      injection e2 with e2
      exact ⟨c.1, d.1, c.2, e1, by rw [e2, Nat.eq_of_beq_eq_true h4], avsEq_true h3⟩
theorem CR.less {g : G} {b B base : Nat} {l m : List AV} {t : TypeId} {w : World} (hc : CR g b B base l t w) (h : Less l m) : CR g b B base m t w := by
  obtain ⟨cs, fr, e1, e2, e3, e4, e5⟩ := hc.ex
  refine ⟨cs, fr, e1, e2, by rw [← h.length]; exact e3, fun i v hv => ?_, fun c s hg => by rw [← h.length]; exact e5 c s hg⟩
  obtain ⟨u, hu, hv⟩ := h.at hv
  obtain ⟨v', q1, q2, q3⟩ := e4 i u hu
  rcases hv with rfl | rfl
  · exact ⟨v', q1, .any _, q3⟩
  · exact ⟨v', q1, q2, q3⟩
theorem ofL_get {α : Type} {F : List (Nat × α) → T α} (hF0 : F [] = .e) (hF : ∀ p r, F (p :: r) = (F r).set p.1 p.2) {l : List (Nat × α)} {t : Nat} {v : α} (h : (F l).get t = some v) : (t, v) ∈ l := by
  induction l with
  | nil => rw [hF0] at h; simp at h
  | cons p r ih =>
    rw [hF, get_set] at h
    by_cases e : p.1 = t
    · rw [if_pos e] at h
      injection h with h
      rw [← e, ← h]
      exact .head _
    · rw [if_neg e] at h
      exact .tail _ (ih h)
theorem En.part {B0 : Nat} {g : G} {h h' : H} {w : World} (e : En B0 g h w) (hx : ∀ b o, h'.m.get b = some o → (∃ l m t, h.m.get b = some (.cells l t) ∧ o = .cells m t ∧ Less l m) ∧ b < h'.next) (hn : h.next ≤ h'.next) : En B0 g h' w := by
  have hlv : ∀ b, live h' b → live h b := fun b ⟨o, h1, _⟩ => by
    obtain ⟨⟨l, m, t, h2, _⟩, _⟩ := hx b o h1
    exact ⟨_, h2, by simp⟩
  refine ⟨⟨fun b l t B base h1 h2 => ?_, fun b es c B base h1 h2 => ?_, fun b it B base h1 h2 => ?_, fun b b' B base base' h1 h2 h3 h4 => e.hr.inj b b' B base base' (hlv b h1) (hlv b' h2) h3 h4, fun b B base h1 h2 => e.hr.low b B base (hlv b h1) h2, e.hr.bnd⟩,
   ⟨fun b hb => ?_, fun b hb => e.fr.pos b (Nat.le_trans hn hb), fun b hb => e.fr.grow b (Nat.le_trans hn hb)⟩, e.lo⟩
  · obtain ⟨⟨l0, m, t0, q1, q2, q3⟩, _⟩ := hx _ _ h1
    injection q2 with q4 q5
    subst q4; subst q5
    exact (e.hr.cells b l0 t B base q1 h2).less q3
  · obtain ⟨⟨l0, m, t0, q1, q2, q3⟩, _⟩ := hx _ _ h1
    cases q2
  · obtain ⟨⟨l0, m, t0, q1, q2, q3⟩, _⟩ := hx _ _ h1
    cases q2
  · cases hg : h'.m.get b with
    | none => rfl
    | some o => have := (hx _ _ hg).2; omega
/-- A piece: from a state to a state. -/
def Top (P : Program) (c : Code) (a : Tm) (h : H) (e : XE) (a' : Tm) (h' : H) : Prop := ∀ (B0 : Nat) (g : G) (A : Act) (w : World) (n : Nat), TR g a n A → En B0 g h w → codeOk n c = true → ∀ Q : Exit → Act → World → Prop, (∀ g' A' w', TR g' a' n A' → En B0 g' h' w' → Below B0 w w' → Q (exitOf e) A' w') → CW P c Q A w
theorem Tr.belowB {B0 : Nat} {g g' : G} {h h' : H} {w w' : World} (t : Tr B0 g h w g' h' w') (hr : HR B0 g h w) (hB : B0 ≤ w.heap.size) : Below B0 w w' :=
  ⟨t.os, t.tape, t.output, t.size, fun k hk => t.frame k (by omega) fun b base hl hp => by have := hr.low b k base hl hp; omega⟩
theorem Top.of_run (hmo : P.follows .mixedOrders = true) (hov : OvsOk P Ov) {f : Nat} {c : Code} {a : Tm} {h : H} {e : XE} {l : List (Nat × AV)} {hl : List (Nat × AObj)} {N : Nat} (hr : topC (rn P Ov f (.code c) a h) e l hl N = true) : Top P c a h e (ofL l) ⟨ofH hl, N⟩ := by
  intro B0 g A w n hT hE hok Q hq
  cases hx : rn P Ov f (.code c) a h with
  | no => rw [hx] at hr; cases hr
  | ret _ _ => rw [hx] at hr; cases hr
  | mk e' a1 h1 =>
    rw [hx] at hr
    obtain ⟨q1, q2⟩ := bi3 (show bi (xeEq e' e) (bi (Nat.ble h1.next N) (bi (allL (fun p => avEq (tmD (a1.get p.1)) p.2) l) (allL (fun p => bi (Nat.blt p.1 N) (obEq (h1.m.get p.1) p.2) false) hl) false) false) false = true from hr)
    obtain ⟨q2, q3⟩ := bi3 q2
    obtain ⟨q3, q4⟩ := bi3 q3
    have := xeEq_true q1
    subst this
    refine (good hmo hov f).1 _ _ _ _ _ _ hx B0 g A w n hE hT hok Q fun g1 A1 w1 hT1 ht1 => hq g1 A1 w1 ⟨hT1.size, fun t => ?_, hT1.dn⟩ ((hE.tr ht1).part (fun b o hb => ?_) (Nat.le_of_ble_eq_true q2)) (ht1.belowB hE.hr hE.lo)
    · cases hg : (ofL l).get t with
      | none => exact .any _
      | some v =>
        have p2 := allL_mem q3 _ (ofL_get (F := ofL) rfl (fun _ _ => rfl) hg)
        have hv := hT1.val t
        rw [avEq_true _ _ p2] at hv
        exact hv
    · obtain ⟨r1, r2⟩ := bi3 (allL_mem q4 _ (ofL_get (F := ofH) rfl (fun _ _ => rfl) hb))
      exact ⟨obEq_true r2, by simpa [Nat.blt_eq] using r1⟩
theorem codeOk_seq {n : Nat} {x y : Code} (h : codeOk n (.seq x y) = true) : codeOk n x = true ∧ codeOk n y = true := bi3 (show bi (codeOk n x) (codeOk n y) false = true from h)
variable {x y c : Code} {a a1 a2 : Tm} {h h1 h2 : H} {e : XE}
theorem Top.seq (hx : Top P x a h .normal a1 h1) (hy : Top P y a1 h1 e a2 h2) : Top P (.seq x y) a h e a2 h2 := by
  intro B0 g A w n hT hE hok Q hq
  obtain ⟨ok1, ok2⟩ := codeOk_seq hok
  refine wp_seq (CW.wp (hx B0 g A w n hT hE ok1 _ fun g1 A1 w1 hT1 hE1 hb1 => ?_))
  exact CW.wp (hy B0 g1 A1 w1 n hT1 hE1 ok2 Q fun g2 A2 w2 hT2 hE2 hb2 => hq g2 A2 w2 hT2 hE2 (hb1.trans hb2))
theorem Top.seq_out (he : e ≠ .normal) (hx : Top P x a h e a1 h1) : Top P (.seq x y) a h e a1 h1 := by
  intro B0 g A w n hT hE hok Q hq
  obtain ⟨ok1, _⟩ := codeOk_seq hok
  refine wp_seq (CW.wp (hx B0 g A w n hT hE ok1 _ fun g1 A1 w1 hT1 hE1 hb1 => ?_))
  have := hq g1 A1 w1 hT1 hE1 hb1
  cases e with
  | normal => exact absurd rfl he
  | exit id => exact this
  | goto l => exact this
  | ret => exact this
theorem Top.block_exit {id : Nat} (hc : Top P c a h (.exit id) a1 h1) : Top P (.block id c) a h .normal a1 h1 := by
  intro B0 g A w n hT hE hok Q hq
  refine wp_block (CW.wp (hc B0 g A w n hT hE hok _ fun g1 A1 w1 hT1 hE1 hb1 => ?_))
  show (if id = id then Q .normal A1 w1 else Q (.exit id) A1 w1)
  rw [if_pos rfl]
  exact hq g1 A1 w1 hT1 hE1 hb1
theorem Top.block_end {id : Nat} (hc : Top P c a h .normal a1 h1) : Top P (.block id c) a h .normal a1 h1 := by
  intro B0 g A w n hT hE hok Q hq
  exact wp_block (CW.wp (hc B0 g A w n hT hE hok _ fun g1 A1 w1 hT1 hE1 hb1 => hq g1 A1 w1 hT1 hE1 hb1))
theorem Top.loop (hc : Top P c a h .normal a1 h1) (hl : Top P (.loop c) a1 h1 e a2 h2) : Top P (.loop c) a h e a2 h2 := by
  intro B0 g A w n hT hE hok Q hq
  refine LoopWp.round (CW.wp (hc B0 g A w n hT hE hok _ fun g1 A1 w1 hT1 hE1 hb1 => ?_))
  exact hl B0 g1 A1 w1 n hT1 hE1 hok Q fun g2 A2 w2 hT2 hE2 hb2 => hq g2 A2 w2 hT2 hE2 (hb1.trans hb2)
theorem Top.loop_out (he : e ≠ .normal) (hc : Top P c a h e a1 h1) : Top P (.loop c) a h e a1 h1 := by
  intro B0 g A w n hT hE hok Q hq
  refine LoopWp.round (CW.wp (hc B0 g A w n hT hE hok _ fun g1 A1 w1 hT1 hE1 hb1 => ?_))
  have := hq g1 A1 w1 hT1 hE1 hb1
  cases e with
  | normal => exact absurd rfl he
  | exit id => exact this
  | goto l => exact this
  | ret => exact this
/-- The whole call. -/
theorem Top.call {F : FuncId} {fn : Func} {args : List AV} {r : Nat} (hf : P.funcs[F]? = some fn) (hb : fn.body = some c) (hok : codeOk fn.ntmps c = true) (hres : fn.results = #[.tmp r]) (hc : Top P c (initT args 0 .e) ⟨.e, 0⟩ .ret a1 h1) (hv : asBool (tmD (a1.get r)) = some true) {args' : List Value} (ha : VRs G.e args args') (W : World) :
    Calls P F args'.toArray W fun e W' => e = .returned (.bool true) ∧ Below W.heap.size W W' := by
  refine calls_of_wp hf hb (CW.wp (hc W.heap.size G.e _ W fn.ntmps ⟨by simp; omega, fun t => ?_, rfl⟩ (.start W) hok _ fun g' A' w' hT' _ hb' => ?_))
  · rw [initT_get]
    simp only [Nat.zero_le, true_and, Nat.zero_add, Nat.sub_zero, get_e]
    by_cases ht : t < args.length
    · rw [if_pos ht]
      obtain ⟨v', e1, e2⟩ := ha.at (List.getElem?_eq_getElem ht)
      have hlt : t < args'.length := by rw [← ha.length]; exact ht
      rw [List.getElem?_eq_getElem ht]
      have : (args'.toArray ++ Array.replicate (fn.ntmps - args'.toArray.size) undef).getD t undef = v' := by
        rw [Array.getD_eq_getD_getElem?, Array.getElem?_append_left (by simpa using hlt)]
        simp [e1]
      rw [this]
      exact e2
    · rw [if_neg ht]
      exact .any _
  · have h1 := hT'.val r
    rw [asBool_some hv] at h1
    have h2 := h1.bool_inv
    refine ⟨hT'.dn, .bool true, ?_, rfl, hb'⟩
    rw [results_eq, hres]
    simp [resF, h2]
/-- Pieces one behind the other, in one run. -/
noncomputable def thenR (r : R) : (Tm → H → R) → R := @R.rec (fun _ => (Tm → H → R) → R) (fun _ => .no) (fun e a h k => @XE.rec (fun _ => R) (k a h) (fun _ => .no) (fun _ => .no) .no e) (fun _ _ _ => .no) r
noncomputable def runL (g : Rc) (l : List Code) : Tm → H → R := @List.rec Code (fun _ => Tm → H → R) (fun a h => .mk .normal a h) (fun c _ k a h => thenR (g (.code c) a h) k) l
noncomputable def nest (l : List Code) (y : Code) : Code := @List.rec Code (fun _ => Code) y (fun c _ r => .seq c r) l
theorem runL_ok (hmo : P.follows .mixedOrders = true) (hov : OvsOk P Ov) {f : Nat} {y : Code} : ∀ (l : List Code) {a : Tm} {h : H} {e : XE} {a1 : Tm} {h1 : H}, runL (rn P Ov f) l a h = .mk e a1 h1 → e = .normal ∧ ∀ (B0 : Nat) (g : G) (A : Act) (w : World) (n : Nat), En B0 g h w → TR g a n A → codeOk n (nest l y) = true → ∀ Q : Exit → Act → World → Prop,
    (∀ g' A' w', TR g' a1 n A' → Tr B0 g h w g' h1 w' → codeOk n y = true → CW P y Q A' w') → CW P (nest l y) Q A w
  | [], a, h, e, a1, h1, hr => by
    injection hr with r1 r2 r3
    subst r1; subst r2; subst r3
    exact ⟨rfl, fun B0 g A w n hE hT hok Q hq => hq g A w hT (.refl hE.hr) hok⟩
  | c :: r, a, h, e, a1, h1, hr => by
    replace hr : thenR (rn P Ov f (.code c) a h) (runL (rn P Ov f) r) = .mk e a1 h1 := hr
    cases hx : rn P Ov f (.code c) a h with
    | no => rw [hx] at hr; cases hr
    | ret _ _ => rw [hx] at hr; cases hr
    | mk e2 a2 h2 =>
      rw [hx] at hr
      cases e2 with
      | normal =>
        replace hr : runL (rn P Ov f) r a2 h2 = .mk e a1 h1 := hr
        obtain ⟨he, hgo⟩ := runL_ok hmo hov (y := y) r hr
        refine ⟨he, fun B0 g A w n hE hT hok Q hq => ?_⟩
        obtain ⟨ok1, ok2⟩ := codeOk_seq (show codeOk n (.seq c (nest r y)) = true from hok)
        exact wp_seq (CW.wp ((good hmo hov f).1 _ _ _ _ _ _ hx B0 g A w n hE hT ok1 _ fun g2 A2 w2 hT2 ht2 => CW.wp (hgo B0 g2 A2 w2 n (hE.tr ht2) hT2 ok2 Q fun g3 A3 w3 hT3 ht3 => hq g3 A3 w3 hT3 (ht2.trans ht3))))
      | exit _ => cases hr
      | goto _ => cases hr
      | ret => cases hr
theorem Top.of_list (hmo : P.follows .mixedOrders = true) (hov : OvsOk P Ov) {f : Nat} {l : List Code} {tl : List (Nat × AV)} {hl : List (Nat × AObj)} {N : Nat} (hr : topC (runL (rn P Ov f) l a h) .normal tl hl N = true) (hy : Top P y (ofL tl) ⟨ofH hl, N⟩ e a2 h2) : Top P (nest l y) a h e a2 h2 := by
  intro B0 g A w n hT hE hok Q hq
  cases hx : runL (rn P Ov f) l a h with
  | no => rw [hx] at hr; cases hr
  | ret _ _ => rw [hx] at hr; cases hr
  | mk e' a1 h1 =>
    rw [hx] at hr
    obtain ⟨_, q2⟩ := bi3 (show bi (xeEq e' .normal) (bi (Nat.ble h1.next N) (bi (allL (fun p => avEq (tmD (a1.get p.1)) p.2) tl) (allL (fun p => bi (Nat.blt p.1 N) (obEq (h1.m.get p.1) p.2) false) hl) false) false) false = true from hr)
    obtain ⟨q2, q3⟩ := bi3 q2
    obtain ⟨q3, q4⟩ := bi3 q3
    refine (runL_ok hmo hov (y := y) l hx).2 B0 g A w n hE hT hok Q fun g1 A1 w1 hT1 ht1 oky => ?_
    have hT' : TR g1 (ofL tl) n A1 := ⟨hT1.size, fun t => by
      cases hg : (ofL tl).get t with
      | none => exact .any _
      | some v =>
        have p2 := allL_mem q3 _ (ofL_get (F := ofL) rfl (fun _ _ => rfl) hg)
        have hv := hT1.val t
        rw [avEq_true _ _ p2] at hv
        exact hv, hT1.dn⟩
    have hE' : En B0 g1 ⟨ofH hl, N⟩ w1 := (hE.tr ht1).part (fun b o hb => by
      obtain ⟨r1, r2⟩ := bi3 (allL_mem q4 _ (ofL_get (F := ofH) rfl (fun _ _ => rfl) hb))
      exact ⟨obEq_true r2, by simpa [Nat.blt_eq] using r1⟩) (Nat.le_of_ble_eq_true q2)
    exact hy B0 g1 A1 w1 n hT' hE' oky Q fun g2 A2 w2 hT2 hE2 hb2 => hq g2 A2 w2 hT2 hE2 ((ht1.belowB hE.hr hE.lo).trans hb2)
/-- Parts of code. -/
def sL : Code → Code
  | .seq x _ => x
  | .block _ x => x
  | .loop x => x
  | _ => .skip
def sR : Code → Code
  | .seq _ y => y
  | _ => .skip
end
end Go.Proofs.Ytfffehbipcikoaa.Kx
