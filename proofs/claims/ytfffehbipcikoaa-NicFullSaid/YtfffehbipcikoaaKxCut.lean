/- Pieces again: maps are kept, too, and several rounds of a loop are one piece. -/
import Derived.Test.YtfffehbipcikoaaKxTops
namespace Go.Proofs.Ytfffehbipcikoaa.Kx
open Go.RowKit
noncomputable section
def esEq (x : List (AV × AV × Nat)) : List (AV × AV × Nat) → Bool := @List.rec (AV × AV × Nat) (fun _ => List (AV × AV × Nat) → Bool) (fun y => @List.rec (AV × AV × Nat) (fun _ => Bool) true (fun _ _ _ => false) y) (fun a _ g y => @List.rec (AV × AV × Nat) (fun _ => Bool) false (fun b r _ => bi (avEq a.1 b.1) (bi (avEq a.2.1 b.2.1) (bi (Nat.beq a.2.2 b.2.2) (g r) false) false) false) y) x
def obEq2 (o : Option AObj) (p : AObj) : Bool := bi (obEq o p) true (oc false (fun m => oc false (fun n => bi (esEq m.es n.es) (Nat.beq m.clock n.clock) false) (objMap (some p))) (objMap o))
def topD (r : R) (e : XE) (l : List (Nat × AV)) (hl : List (Nat × AObj)) (N : Nat) : Bool := @R.rec (fun _ => Bool) false (fun e' a h => bi (xeEq e' e) (bi (Nat.ble h.next N) (bi (allL (fun p => avEq (tmD (a.get p.1)) p.2) l) (allL (fun p => bi (Nat.blt p.1 N) (obEq2 (h.m.get p.1) p.2) false) hl) false) false) false) (fun _ _ => false) r
def iterR (g : Rc) (c : Code) (k : Nat) : Tm → H → R := @Nat.rec (fun _ => Tm → H → R) (fun a h => .mk .normal a h) (fun _ r a h => thenR (g (.code c) a h) r) k
end
section
variable {P : Program} {Ov : Ovs}
theorem esEq_true : ∀ {x y : List (AV × AV × Nat)}, esEq x y = true → x = y
  | [], [], _ => rfl
  | [], _ :: _, h => by cases h
  | _ :: _, [], h => by cases h
  | (a, b, n) :: r, (a', b', n') :: s, h => by
    obtain ⟨h1, h2⟩ := bi3 (show bi (avEq a a') (bi (avEq b b') (bi (Nat.beq n n') (esEq r s) false) false) false = true from h)
    obtain ⟨h2, h3⟩ := bi3 h2
    obtain ⟨h3, h4⟩ := bi3 h3
    rw [avEq_true _ _ h1, avEq_true _ _ h2, Nat.eq_of_beq_eq_true h3, esEq_true h4]
/-- What is kept of a block. -/
def Kept (o : Option AObj) (p : AObj) : Prop := (∃ l m t, o = some (.cells l t) ∧ p = .cells m t ∧ Less l m) ∨ ∃ es c, o = some (.map es c) ∧ p = .map es c
theorem obEq2_true {o : Option AObj} {p : AObj} (h : obEq2 o p = true) : Kept o p := by
  unfold obEq2 at h
  cases hb : obEq o p
  · rw [hb, bi_false] at h
    cases h1 : objMap o with
    | none => rw [h1] at h; cases h
    | some c =>
      cases h2 : objMap (some p) with
      | none => rw [h1, h2] at h; cases h
      | some d =>
        rw [h1, h2, oc_some, oc_some] at h
        obtain ⟨h3, h4⟩ := bi3 h
        have e1 := objMap_some h1
        have e2 := objMap_some h2
        injection e2 with e2
        refine .inr ⟨c.es, c.clock, e1, ?_⟩
        rw [e2, esEq_true h3, Nat.eq_of_beq_eq_true h4]
  · exact .inl (obEq_true hb)
theorem En.part2 {B0 : Nat} {g : G} {h h' : H} {w : World} (e : En B0 g h w) (hx : ∀ b o, h'.m.get b = some o → Kept (h.m.get b) o ∧ b < h'.next) (hn : h.next ≤ h'.next) : En B0 g h' w := by
  have hlv : ∀ b, live h' b → live h b := fun b ⟨o, h1, _⟩ => by
    rcases (hx b o h1).1 with ⟨l, m, t, h2, _⟩ | ⟨es, c, h2, _⟩ <;> exact ⟨_, h2, by simp⟩
  refine ⟨⟨fun b l t B base h1 h2 => ?_, fun b es c B base h1 h2 => ?_, fun b it B base h1 h2 => ?_, fun b b' B base base' h1 h2 h3 h4 => e.hr.inj b b' B base base' (hlv b h1) (hlv b' h2) h3 h4, fun b B base h1 h2 => e.hr.low b B base (hlv b h1) h2, e.hr.bnd⟩,
   ⟨fun b hb => ?_, fun b hb => e.fr.pos b (Nat.le_trans hn hb), fun b hb => e.fr.grow b (Nat.le_trans hn hb)⟩, e.lo⟩
  · rcases (hx _ _ h1).1 with ⟨l0, m, t0, q1, q2, q3⟩ | ⟨es0, c0, q1, q2⟩
    · injection q2 with q4 q5
      subst q4; subst q5
      exact (e.hr.cells b l0 t B base q1 h2).less q3
    · cases q2
  · rcases (hx _ _ h1).1 with ⟨l0, m, t0, q1, q2, q3⟩ | ⟨es0, c0, q1, q2⟩
    · cases q2
    · injection q2 with q4 q5
      subst q4; subst q5
      exact e.hr.maps b es c B base q1 h2
  · rcases (hx _ _ h1).1 with ⟨l0, m, t0, q1, q2, q3⟩ | ⟨es0, c0, q1, q2⟩ <;> cases q2
  · cases hg : h'.m.get b with
    | none => rfl
    | some o => have := (hx _ _ hg).2; omega
/-- A state that keeps what the lists say of a state reckoned. -/
theorem topD_parts {e' e : XE} {a1 : Tm} {h1 : H} {l : List (Nat × AV)} {hl : List (Nat × AObj)} {N : Nat} (hr : topD (.mk e' a1 h1) e l hl N = true) :
    e' = e ∧ (∀ {g : G} {n : Nat} {A : Act}, TR g a1 n A → TR g (ofL l) n A) ∧ ∀ {B0 : Nat} {g : G} {w : World}, En B0 g h1 w → En B0 g ⟨ofH hl, N⟩ w := by
  obtain ⟨q1, q2⟩ := bi3 (show bi (xeEq e' e) (bi (Nat.ble h1.next N) (bi (allL (fun p => avEq (tmD (a1.get p.1)) p.2) l) (allL (fun p => bi (Nat.blt p.1 N) (obEq2 (h1.m.get p.1) p.2) false) hl) false) false) false = true from hr)
  obtain ⟨q2, q3⟩ := bi3 q2
  obtain ⟨q3, q4⟩ := bi3 q3
  refine ⟨xeEq_true q1, fun {g n A} hT1 => ⟨hT1.size, fun t => ?_, hT1.dn⟩, fun hE => hE.part2 (fun b o hb => ?_) (Nat.le_of_ble_eq_true q2)⟩
  · cases hg : (ofL l).get t with
    | none => exact .any _
    | some v =>
      have p2 := allL_mem q3 _ (ofL_get (F := ofL) rfl (fun _ _ => rfl) hg)
      have hv := hT1.val t
      rw [avEq_true _ _ p2] at hv
      exact hv
  · obtain ⟨r1, r2⟩ := bi3 (allL_mem q4 _ (ofL_get (F := ofH) rfl (fun _ _ => rfl) hb))
    exact ⟨obEq2_true r2, by simpa [Nat.blt_eq] using r1⟩
theorem Top.of_runD (hmo : P.follows .mixedOrders = true) (hov : OvsOk P Ov) {f : Nat} {c : Code} {a : Tm} {h : H} {e : XE} {l : List (Nat × AV)} {hl : List (Nat × AObj)} {N : Nat} (hr : topD (rn P Ov f (.code c) a h) e l hl N = true) : Top P c a h e (ofL l) ⟨ofH hl, N⟩ := by
  intro B0 g A w n hT hE hok Q hq
  cases hx : rn P Ov f (.code c) a h with
  | no => rw [hx] at hr; cases hr
  | ret _ _ => rw [hx] at hr; cases hr
  | mk e' a1 h1 =>
    rw [hx] at hr
    obtain ⟨he, q2, q3⟩ := topD_parts hr
    subst he
    exact (good hmo hov f).1 _ _ _ _ _ _ hx B0 g A w n hE hT hok Q fun g1 A1 w1 hT1 ht1 => hq g1 A1 w1 (q2 hT1) (q3 (hE.tr ht1)) (ht1.belowB hE.hr hE.lo)
variable {y : Code} {a a2 : Tm} {h h2 : H} {e : XE}
theorem Top.of_listD (hmo : P.follows .mixedOrders = true) (hov : OvsOk P Ov) {f : Nat} {l : List Code} {tl : List (Nat × AV)} {hl : List (Nat × AObj)} {N : Nat} (hr : topD (runL (rn P Ov f) l a h) .normal tl hl N = true) (hy : Top P y (ofL tl) ⟨ofH hl, N⟩ e a2 h2) : Top P (nest l y) a h e a2 h2 := by
  intro B0 g A w n hT hE hok Q hq
  cases hx : runL (rn P Ov f) l a h with
  | no => rw [hx] at hr; cases hr
  | ret _ _ => rw [hx] at hr; cases hr
  | mk e' a1 h1 =>
    rw [hx] at hr
    obtain ⟨_, q2, q3⟩ := topD_parts hr
    exact (runL_ok hmo hov (y := y) l hx).2 B0 g A w n hE hT hok Q fun g1 A1 w1 hT1 ht1 oky => hy B0 g1 A1 w1 n (q2 hT1) (q3 (hE.tr ht1)) oky Q fun g2 A2 w2 hT2 hE2 hb2 => hq g2 A2 w2 hT2 hE2 ((ht1.belowB hE.hr hE.lo).trans hb2)
theorem iterR_ok (hmo : P.follows .mixedOrders = true) (hov : OvsOk P Ov) {f : Nat} {c : Code} : ∀ (k : Nat) {a : Tm} {h : H} {e : XE} {a1 : Tm} {h1 : H}, iterR (rn P Ov f) c k a h = .mk e a1 h1 → e = .normal ∧ ∀ (B0 : Nat) (g : G) (A : Act) (w : World) (n : Nat), En B0 g h w → TR g a n A → codeOk n c = true → ∀ Q : Exit → Act → World → Prop,
    (∀ g' A' w', TR g' a1 n A' → Tr B0 g h w g' h1 w' → CW P (.loop c) Q A' w') → CW P (.loop c) Q A w
  | 0, a, h, e, a1, h1, hr => by
    injection hr with r1 r2 r3
    subst r1; subst r2; subst r3
    exact ⟨rfl, fun B0 g A w n hE hT hok Q hq => hq g A w hT (.refl hE.hr)⟩
  | k + 1, a, h, e, a1, h1, hr => by
    replace hr : thenR (rn P Ov f (.code c) a h) (iterR (rn P Ov f) c k) = .mk e a1 h1 := hr
    cases hx : rn P Ov f (.code c) a h with
    | no => rw [hx] at hr; cases hr
    | ret _ _ => rw [hx] at hr; cases hr
    | mk e2 a2 h2 =>
      rw [hx] at hr
      cases e2 with
      | normal =>
        replace hr : iterR (rn P Ov f) c k a2 h2 = .mk e a1 h1 := hr
        obtain ⟨he, hgo⟩ := iterR_ok hmo hov k hr
        refine ⟨he, fun B0 g A w n hE hT hok Q hq => ?_⟩
        exact LoopWp.round (CW.wp ((good hmo hov f).1 _ _ _ _ _ _ hx B0 g A w n hE hT hok _ fun g2 A2 w2 hT2 ht2 => hgo B0 g2 A2 w2 n (hE.tr ht2) hT2 hok Q fun g3 A3 w3 hT3 ht3 => hq g3 A3 w3 hT3 (ht2.trans ht3)))
      | exit _ => cases hr
      | goto _ => cases hr
      | ret => cases hr
/-- k rounds of a loop, then the rest of it. -/
theorem Top.of_rounds (hmo : P.follows .mixedOrders = true) (hov : OvsOk P Ov) {f : Nat} {c : Code} {k : Nat} {tl : List (Nat × AV)} {hl : List (Nat × AObj)} {N : Nat} (hr : topD (iterR (rn P Ov f) c k a h) .normal tl hl N = true) (hy : Top P (.loop c) (ofL tl) ⟨ofH hl, N⟩ e a2 h2) : Top P (.loop c) a h e a2 h2 := by
  intro B0 g A w n hT hE hok Q hq
  cases hx : iterR (rn P Ov f) c k a h with
  | no => rw [hx] at hr; cases hr
  | ret _ _ => rw [hx] at hr; cases hr
  | mk e' a1 h1 =>
    rw [hx] at hr
    obtain ⟨_, q2, q3⟩ := topD_parts hr
    exact (iterR_ok hmo hov k hx).2 B0 g A w n hE hT hok Q fun g1 A1 w1 hT1 ht1 => hy B0 g1 A1 w1 n (q2 hT1) (q3 (hE.tr ht1)) hok Q fun g2 A2 w2 hT2 hE2 hb2 => hq g2 A2 w2 hT2 hE2 ((ht1.belowB hE.hr hE.lo).trans hb2)
end
end Go.Proofs.Ytfffehbipcikoaa.Kx
