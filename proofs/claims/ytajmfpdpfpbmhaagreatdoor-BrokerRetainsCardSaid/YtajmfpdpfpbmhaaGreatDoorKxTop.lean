/- A law's own body, piece by piece: between two pieces only what holds no pointer is kept. -/
import Derived.Test.YtajmfpdpfpbmhaaGreatDoorKxMain
namespace Go.Proofs.YtajmfpdpfpbmhaaGreatDoor.Kx
open Go.RowKit
noncomputable section
def xeEq : XE → XE → Bool := @XE.rec (fun _ => XE → Bool) (fun e => @XE.rec (fun _ => Bool) true (fun _ => false) (fun _ => false) false e) (fun i e => @XE.rec (fun _ => Bool) false (fun j => Nat.beq i j) (fun _ => false) false e) (fun i e => @XE.rec (fun _ => Bool) false (fun _ => false) (fun j => Nat.beq i j) false e) (fun e => @XE.rec (fun _ => Bool) false (fun _ => false) (fun _ => false) true e)
def ofL (l : List (Nat × AV)) : Tm := @List.rec (Nat × AV) (fun _ => Tm) .e (fun p _ r => r.set p.1 p.2) l
def ofH (l : List (Nat × AObj)) : T AObj := @List.rec (Nat × AObj) (fun _ => T AObj) .e (fun p _ r => r.set p.1 p.2) l
def avsEq (x : List AV) : List AV → Bool := @List.rec AV (fun _ => List AV → Bool) (fun y => @List.rec AV (fun _ => Bool) true (fun _ _ _ => false) y) (fun a _ g y => @List.rec AV (fun _ => Bool) false (fun b r _ => bi (avEq a b) (g r) false) y) x
/-- Rows alone are kept. -/
def obEq (o : Option AObj) (p : AObj) : Bool := oc false (fun c => oc false (fun d => bi (avsEq c.1 d.1) (Nat.beq c.2 d.2) false) (objCells (some p))) (objCells o)
def topC (r : R) (e : XE) (l : List (Nat × AV)) (hl : List (Nat × AObj)) (N : Nat) : Bool := @R.rec (fun _ => Bool) false (fun e' a h => bi (xeEq e' e) (bi (Nat.ble h.next N) (bi (allL (fun p => avEq (tmD (a.get p.1)) p.2) l) (allL (fun p => bi (Nat.blt p.1 N) (obEq (h.m.get p.1) p.2) false) hl) false) false) false) (fun _ _ => false) r
end
theorem xeEq_true {e e' : XE} (h : xeEq e e' = true) : e = e' := by
  cases e <;> cases e' <;> first | rfl | (cases h; done) | exact congrArg _ (Nat.eq_of_beq_eq_true h)
section
variable {P : Program} {Ov : Ovs}
theorem avsEq_true : ∀ {x y : List AV}, avsEq x y = true → x = y
  | [], [], _ => rfl
  | [], _ :: _, h => by cases h
  | _ :: _, [], h => by cases h
  | a :: r, b :: s, h => by
    obtain ⟨h1, h2⟩ := bi3 (show bi (avEq a b) (avsEq r s) false = true from h)
    rw [avEq_true _ _ h1, avsEq_true h2]
theorem obEq_true {o : Option AObj} {p : AObj} (h : obEq o p = true) : o = some p := by
  unfold obEq at h
  cases h1 : objCells o with
  | none => rw [h1] at h; cases h
  | some c =>
    cases h2 : objCells (some p) with
    | none => rw [h1, h2] at h; cases h
    | some d =>
      rw [h1, h2, oc_some, oc_some] at h
      obtain ⟨h3, h4⟩ := bi3 h
      have e1 := objCells_some h1
      have e2 := objCells_some h2
      injection e2 with e2
      rw [e1, e2, avsEq_true h3, Nat.eq_of_beq_eq_true h4]
theorem ofL_get {α : Type} {F : List (Nat × α) → T α} (hF0 : F [] = .e) (hF : ∀ p r, F (p :: r) = (F r).set p.1 p.2) {l : List (Nat × α)} {t : Nat} {v : α} (h : (F l).get t = some v) : (t, v) ∈ l := by
  induction l with
  | nil => rw [hF0] at h; simp at h
  | cons p r ih =>
    rw [hF, get_set] at h
    by_cases e : p.1 = t
    · rw [if_pos e] at h
      injection h with h
      rw [← e, ← h]
      exact .head _
    · rw [if_neg e] at h
      exact .tail _ (ih h)
theorem En.part {B0 : Nat} {g : G} {h h' : H} {w : World} (e : En B0 g h w) (hx : ∀ b o, h'.m.get b = some o → h.m.get b = some o ∧ b < h'.next) (hn : h.next ≤ h'.next) : En B0 g h' w :=
  ⟨⟨fun b l t B base h1 h2 => e.hr.cells b l t B base (hx _ _ h1).1 h2, fun b es c B base h1 h2 => e.hr.maps b es c B base (hx _ _ h1).1 h2, fun b l pos B base h1 h2 => e.hr.sits b l pos B base (hx _ _ h1).1 h2,
    fun b b' B base base' ⟨o, h1, h1'⟩ ⟨o', h2, h2'⟩ h3 h4 => e.hr.inj b b' B base base' ⟨o, (hx _ _ h1).1, h1'⟩ ⟨o', (hx _ _ h2).1, h2'⟩ h3 h4, fun b B base ⟨o, h1, h1'⟩ h2 => e.hr.low b B base ⟨o, (hx _ _ h1).1, h1'⟩ h2, e.hr.bnd⟩,
   ⟨fun b hb => by
      cases hg : h'.m.get b with
      | none => rfl
      | some o => have := (hx _ _ hg).2; omega, fun b hb => e.fr.pos b (Nat.le_trans hn hb), fun b hb => e.fr.grow b (Nat.le_trans hn hb)⟩, e.lo⟩
/-- A piece: from a state to a state. -/
def Top (P : Program) (c : Code) (a : Tm) (h : H) (e : XE) (a' : Tm) (h' : H) : Prop := ∀ (B0 : Nat) (g : G) (A : Act) (w : World) (n : Nat), TR g a n A → En B0 g h w → codeOk n c = true → ∀ Q : Exit → Act → World → Prop, (∀ g' A' w', TR g' a' n A' → En B0 g' h' w' → Below B0 w w' → Q (exitOf e) A' w') → CW P c Q A w
theorem Tr.belowB {B0 : Nat} {g g' : G} {h h' : H} {w w' : World} (t : Tr B0 g h w g' h' w') (hr : HR B0 g h w) (hB : B0 ≤ w.heap.size) : Below B0 w w' :=
  ⟨t.os, t.tape, t.output, t.size, fun k hk => t.frame k (by omega) fun b base hl hp => by have := hr.low b k base hl hp; omega⟩
theorem Top.of_run (hmo : P.follows .mixedOrders = true) (hov : OvsOk P Ov) {f : Nat} {c : Code} {a : Tm} {h : H} {e : XE} {l : List (Nat × AV)} {hl : List (Nat × AObj)} {N : Nat} (hr : topC (rn P Ov f (.code c) a h) e l hl N = true) : Top P c a h e (ofL l) ⟨ofH hl, N⟩ := by
  intro B0 g A w n hT hE hok Q hq
  cases hx : rn P Ov f (.code c) a h with
  | no => rw [hx] at hr; cases hr
  | ret _ _ => rw [hx] at hr; cases hr
  | mk e' a1 h1 =>
    rw [hx] at hr
    obtain ⟨q1, q2⟩ := bi3 (show bi (xeEq e' e) (bi (Nat.ble h1.next N) (bi (allL (fun p => avEq (tmD (a1.get p.1)) p.2) l) (allL (fun p => bi (Nat.blt p.1 N) (obEq (h1.m.get p.1) p.2) false) hl) false) false) false = true from hr)
    obtain ⟨q2, q3⟩ := bi3 q2
    obtain ⟨q3, q4⟩ := bi3 q3
    have := xeEq_true q1
    subst this
    refine (good hmo hov f).1 _ _ _ _ _ _ hx B0 g A w n hE hT hok Q fun g1 A1 w1 hT1 ht1 => hq g1 A1 w1 ⟨hT1.size, fun t => ?_, hT1.dn⟩ ((hE.tr ht1).part (fun b o hb => ?_) (Nat.le_of_ble_eq_true q2)) (ht1.belowB hE.hr hE.lo)
    · cases hg : (ofL l).get t with
      | none => exact .any _
      | some v =>
        have p2 := allL_mem q3 _ (ofL_get (F := ofL) rfl (fun _ _ => rfl) hg)
        have hv := hT1.val t
        rw [avEq_true _ _ p2] at hv
        exact hv
    · obtain ⟨r1, r2⟩ := bi3 (allL_mem q4 _ (ofL_get (F := ofH) rfl (fun _ _ => rfl) hb))
      exact ⟨obEq_true r2, by simpa [Nat.blt_eq] using r1⟩
theorem codeOk_seq {n : Nat} {x y : Code} (h : codeOk n (.seq x y) = true) : codeOk n x = true ∧ codeOk n y = true := bi3 (show bi (codeOk n x) (codeOk n y) false = true from h)
variable {x y c : Code} {a a1 a2 : Tm} {h h1 h2 : H} {e : XE}
theorem Top.seq (hx : Top P x a h .normal a1 h1) (hy : Top P y a1 h1 e a2 h2) : Top P (.seq x y) a h e a2 h2 := by
  intro B0 g A w n hT hE hok Q hq
  obtain ⟨ok1, ok2⟩ := codeOk_seq hok
  refine wp_seq (CW.wp (hx B0 g A w n hT hE ok1 _ fun g1 A1 w1 hT1 hE1 hb1 => ?_))
  exact CW.wp (hy B0 g1 A1 w1 n hT1 hE1 ok2 Q fun g2 A2 w2 hT2 hE2 hb2 => hq g2 A2 w2 hT2 hE2 (hb1.trans hb2))
theorem Top.seq_out (he : e ≠ .normal) (hx : Top P x a h e a1 h1) : Top P (.seq x y) a h e a1 h1 := by
  intro B0 g A w n hT hE hok Q hq
  obtain ⟨ok1, _⟩ := codeOk_seq hok
  refine wp_seq (CW.wp (hx B0 g A w n hT hE ok1 _ fun g1 A1 w1 hT1 hE1 hb1 => ?_))
  have := hq g1 A1 w1 hT1 hE1 hb1
  cases e with
  | normal => exact absurd rfl he
  | exit id => exact this
  | goto l => exact this
  | ret => exact this
theorem Top.block_exit {id : Nat} (hc : Top P c a h (.exit id) a1 h1) : Top P (.block id c) a h .normal a1 h1 := by
  intro B0 g A w n hT hE hok Q hq
  refine wp_block (CW.wp (hc B0 g A w n hT hE hok _ fun g1 A1 w1 hT1 hE1 hb1 => ?_))
  show (if id = id then Q .normal A1 w1 else Q (.exit id) A1 w1)
  rw [if_pos rfl]
  exact hq g1 A1 w1 hT1 hE1 hb1
theorem Top.block_end {id : Nat} (hc : Top P c a h .normal a1 h1) : Top P (.block id c) a h .normal a1 h1 := by
  intro B0 g A w n hT hE hok Q hq
  exact wp_block (CW.wp (hc B0 g A w n hT hE hok _ fun g1 A1 w1 hT1 hE1 hb1 => hq g1 A1 w1 hT1 hE1 hb1))
theorem Top.loop (hc : Top P c a h .normal a1 h1) (hl : Top P (.loop c) a1 h1 e a2 h2) : Top P (.loop c) a h e a2 h2 := by
  intro B0 g A w n hT hE hok Q hq
  refine LoopWp.round (CW.wp (hc B0 g A w n hT hE hok _ fun g1 A1 w1 hT1 hE1 hb1 => ?_))
  exact hl B0 g1 A1 w1 n hT1 hE1 hok Q fun g2 A2 w2 hT2 hE2 hb2 => hq g2 A2 w2 hT2 hE2 (hb1.trans hb2)
theorem Top.loop_out (he : e ≠ .normal) (hc : Top P c a h e a1 h1) : Top P (.loop c) a h e a1 h1 := by
  intro B0 g A w n hT hE hok Q hq
  refine LoopWp.round (CW.wp (hc B0 g A w n hT hE hok _ fun g1 A1 w1 hT1 hE1 hb1 => ?_))
  have := hq g1 A1 w1 hT1 hE1 hb1
  cases e with
  | normal => exact absurd rfl he
  | exit id => exact this
  | goto l => exact this
  | ret => exact this
/-- The whole call. -/
theorem Top.call {F : FuncId} {fn : Func} {args : List AV} {r : Nat} (hf : P.funcs[F]? = some fn) (hb : fn.body = some c) (hok : codeOk fn.ntmps c = true) (hres : fn.results = #[.tmp r]) (hc : Top P c (initT args 0 .e) ⟨.e, 0⟩ .ret a1 h1) (hv : asBool (tmD (a1.get r)) = some true) {args' : List Value} (ha : VRs G.e args args') (W : World) :
    Calls P F args'.toArray W fun e W' => e = .returned (.bool true) ∧ Below W.heap.size W W' := by
  refine calls_of_wp hf hb (CW.wp (hc W.heap.size G.e _ W fn.ntmps ⟨by simp; omega, fun t => ?_, rfl⟩ (.start W) hok _ fun g' A' w' hT' _ hb' => ?_))
  · rw [initT_get]
    simp only [Nat.zero_le, true_and, Nat.zero_add, Nat.sub_zero, get_e]
    by_cases ht : t < args.length
    · rw [if_pos ht]
      obtain ⟨v', e1, e2⟩ := ha.at (List.getElem?_eq_getElem ht)
      have hlt : t < args'.length := by rw [← ha.length]; exact ht
      rw [List.getElem?_eq_getElem ht]
      have : (args'.toArray ++ Array.replicate (fn.ntmps - args'.toArray.size) undef).getD t undef = v' := by
        rw [Array.getD_eq_getD_getElem?, Array.getElem?_append_left (by simpa using hlt)]
        simp [e1]
      rw [this]
      exact e2
    · rw [if_neg ht]
      exact .any _
  · have h1 := hT'.val r
    rw [asBool_some hv] at h1
    have h2 := h1.bool_inv
    refine ⟨hT'.dn, .bool true, ?_, rfl, hb'⟩
    rw [results_eq, hres]
    simp [resF, h2]
/-- Parts of code. -/
def sL : Code → Code
  | .seq x _ => x
  | .block _ x => x
  | .loop x => x
  | _ => .skip
def sR : Code → Code
  | .seq _ y => y
  | _ => .skip
end
end Go.Proofs.YtajmfpdpfpbmhaaGreatDoor.Kx
