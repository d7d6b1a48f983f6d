/- The evaluator's append. -/
import Derived.Test.YtimjbojoeacaeaaDoorKxApp
namespace Go.Proofs.YtimjbojoeacaeaaDoor.Kx
section
variable {P : Program} {B0 : Nat} {g : G} {h : H} {w : World}

theorem Tr.kill (hr : HR B0 g h w) (b : Nat) {B base : Nat} (hl : live h b) (hb : b < h.next) (hp : g.pos b = some (B, base)) : Tr B0 g h w g (h.upd b .dead) w :=
  Tr.write hr b B base hl hb hp _ (fun _ _ => rfl) rfl rfl rfl rfl (fun _ _ e => by cases e) (fun _ _ e => by cases e)
/-- A block that grows in place goes on under a new number. -/
theorem Tr.move (hr : HR B0 g h w) (hm : ∀ b o, h.m.get b = some o → b < h.next) (hpn : g.pos h.next = none) (hgn : g.grow h.next = none) (b B base off : Nat) (hl : live h b) (hp : g.pos b = some (B, base)) (gr : Nat × Nat) (l : List AV) (t : TypeId) {w1 : World}
    (hc : CR (g.add h.next B (base + off) (some gr)) h.next B (base + off) l t w1) (hother : ∀ B', B' ≠ B → w1.heap[B']? = w.heap[B']?) (hsz : w1.heap.size = w.heap.size) (hos : w1.os = w.os) (ht : w1.tape = w.tape) (hou : w1.output = w.output) :
    Tr B0 g h w (g.add h.next B (base + off) (some gr)) ⟨(h.m.set b .dead).set h.next (.cells l t), Nat.succ h.next⟩ w1 := by
  have hb : b < h.next := by obtain ⟨o, ho, _⟩ := hl; exact hm b o ho
  have hle := G.add_le g h.next B (base + off) (some gr) hpn hgn
  have hget : ∀ x, ((h.m.set b .dead).set h.next (.cells l t)).get x = if h.next = x then some (.cells l t) else if b = x then some .dead else h.m.get x := fun x => by rw [get_set, get_set]
  have hposne : ∀ x, x ≠ h.next → (g.add h.next B (base + off) (some gr)).pos x = g.pos x := fun x hx => if_neg hx
  have hposeq : (g.add h.next B (base + off) (some gr)).pos h.next = some (B, base + off) := if_pos rfl
  have hlv : ∀ x, x ≠ h.next → live ⟨(h.m.set b .dead).set h.next (.cells l t), Nat.succ h.next⟩ x → x ≠ b ∧ live h x := fun x hx ⟨o, ho, hd⟩ => by
    have ho : ((h.m.set b .dead).set h.next (.cells l t)).get x = some o := ho
    rw [hget, if_neg (fun e => hx e.symm)] at ho
    by_cases e : b = x
    · rw [if_pos e] at ho; injection ho with ho; exact absurd ho.symm hd
    · rw [if_neg e] at ho; exact ⟨fun e' => e e'.symm, o, ho, hd⟩
  have hne : ∀ x X bx, x ≠ b → live h x → g.pos x = some (X, bx) → X ≠ B := fun x X bx hx hlx hpx e => by
    subst e
    exact hx (hr.inj x b X bx base hlx hl hpx hp)
  refine ⟨⟨fun x l' t' X bx h1 h2 => ?_, fun x es c X bx h1 h2 => ?_, fun x it X bx h1 h2 => ?_, fun x x' X b1 b2 h1 h2 h3 h4 => ?_, fun x X b1 h1 h2 => ?_, fun x X b1 h1 => ?_⟩, hle, fun x hx => ?_, Nat.le_succ _, by rw [hsz]; exact Nat.le_refl _, fun X _ hno => hother X (fun e => by subst e; exact hno b base hl hp), fun x o hx ho hg => ?_, fun x hx hlx => (hlv x (by omega) hlx).2, fun x hx => ?_, fun x h1 h2 => ?_, fun x X b1 h1 h2 => ?_, hos, ht, hou⟩
  · have h1 : ((h.m.set b .dead).set h.next (.cells l t)).get x = some (.cells l' t') := h1
    rw [hget] at h1
    by_cases e : h.next = x
    · subst e
      rw [if_pos rfl] at h1
      rw [hposeq] at h2
      injection h2 with h2
      injection h2 with e1 e2
      subst e1; subst e2
      injection h1 with h1
      injection h1 with e1 e2
      subst e1; subst e2
      exact hc
    · rw [if_neg e] at h1
      rw [hposne x (fun e' => e e'.symm)] at h2
      by_cases e' : b = x
      · rw [if_pos e'] at h1; cases h1
      · rw [if_neg e'] at h1
        exact (hr.cells x l' t' X bx h1 h2).mono hle (if_neg (fun e' => e e'.symm)) (hother X (hne x X bx (fun e => e' e.symm) ⟨_, h1, by simp⟩ h2))
  · have h1 : ((h.m.set b .dead).set h.next (.cells l t)).get x = some (.map es c) := h1
    rw [hget] at h1
    by_cases e : h.next = x
    · rw [if_pos e] at h1; cases h1
    · rw [if_neg e] at h1
      rw [hposne x (fun e' => e e'.symm)] at h2
      by_cases e' : b = x
      · rw [if_pos e'] at h1; cases h1
      · rw [if_neg e'] at h1
        obtain ⟨e0, es', e1, e2⟩ := hr.maps x es c X bx h1 h2
        exact ⟨e0, es', (hother X (hne x X bx (fun e => e' e.symm) ⟨_, h1, by simp⟩ h2)).trans e1, e2.mono hle⟩
  · have h1 : ((h.m.set b .dead).set h.next (.cells l t)).get x = some (.sit it) := h1
    rw [hget] at h1
    by_cases e : h.next = x
    · rw [if_pos e] at h1; cases h1
    · rw [if_neg e] at h1
      rw [hposne x (fun e' => e e'.symm)] at h2
      by_cases e' : b = x
      · rw [if_pos e'] at h1; cases h1
      · rw [if_neg e'] at h1
        obtain ⟨e0, s, e1, e2⟩ := hr.sits x it X bx h1 h2
        exact ⟨e0, s, (hother X (hne x X bx (fun e => e' e.symm) ⟨_, h1, by simp⟩ h2)).trans e1, e2.mono hle⟩
  · by_cases e : x = h.next
    · by_cases e' : x' = h.next
      · rw [e, e']
      · subst e
        rw [hposeq] at h3
        injection h3 with h3
        injection h3 with e1 e2
        subst e1
        rw [hposne x' e'] at h4
        obtain ⟨q1, q2⟩ := hlv x' e' h2
        exact absurd rfl (hne x' B b2 q1 q2 h4)
    · rw [hposne x e] at h3
      obtain ⟨q1, q2⟩ := hlv x e h1
      by_cases e' : x' = h.next
      · subst e'
        rw [hposeq] at h4
        injection h4 with h4
        injection h4 with e1 e2
        subst e1
        exact absurd rfl (hne x B b1 q1 q2 h3)
      · rw [hposne x' e'] at h4
        exact hr.inj x x' X b1 b2 q2 (hlv x' e' h2).2 h3 h4
  · by_cases e : x = h.next
    · subst e
      rw [hposeq] at h2
      injection h2 with h2
      injection h2 with e1 e2
      subst e1
      exact hr.low b B base hl hp
    · rw [hposne x e] at h2
      exact hr.low x X b1 (hlv x e h1).2 h2
  · rw [hsz]
    by_cases e : x = h.next
    · subst e
      rw [hposeq] at h1
      injection h1 with h1
      injection h1 with e1 e2
      subst e1
      exact hr.bnd b B base hp
    · rw [hposne x e] at h1
      exact hr.bnd x X b1 h1
  · have hx : x < h.next ∨ h.next + 1 ≤ x := hx
    have hne : x ≠ h.next := by omega
    exact ⟨if_neg hne, if_neg hne⟩
  · show ((h.m.set b .dead).set h.next (.cells l t)).get x = _
    rw [hget, if_neg (by omega), if_neg (fun e => by subst e; rw [hp] at hg; cases hg)]
    exact ho
  · have hx : h.next + 1 ≤ x := hx
    show ((h.m.set b .dead).set h.next (.cells l t)).get x = _
    rw [hget, if_neg (by omega), if_neg (by omega)]
  · have h2 : x < h.next + 1 := h2
    obtain rfl : x = h.next := by omega
    exact ⟨hpn, hgn⟩
  · by_cases e : x = h.next
    · subst e
      rw [hposeq] at h2
      injection h2 with h2
      injection h2 with e1 e2
      subst e1
      exact .inr ⟨b, base, hl, hp⟩
    · rw [hposne x e] at h2
      rw [h1] at h2
      cases h2

theorem zeroCells_list (z : Array Value) (n : Nat) : (Builtin.zeroCells z n).toList = ((Array.range (n * z.size)).map (z[· % z.size]!)).toList := by simp [Builtin.zeroCells]
/-- What append asks of its types. -/
structure AppT (P : Program) (t xt e : TypeId) (te : TI) : Prop where
  und : P.underlying t = some (.slice e)
  xund : ∃ d, P.underlying xt = some d ∧ ∀ k, d ≠ .int k
  elem : TOk P e te
theorem append_fits {t xt e ty : TypeId} {te : TI} (hT : AppT P t xt e te) (base : Option Addr) (sLen sCap n : Nat) (xv : Value) (hlen : (Builtin.lenOf xv).run P w = .ok n w) (new : List Value) (hnew : (Builtin.firstCells te.size n xv).run P w = .ok new.toArray w) (hfit : sLen + n ≤ sCap)
    (w1 : World) (hst : ∀ a, base = some a → (storeCells (a.add (sLen * te.size)) new).run P w = .ok () w1) (hno : base = none → w1 = w) :
    (Builtin.append_ #[t, xt] ty #[.slice base sLen sCap, xv]).run P w = .ok (.slice base (sLen + n) sCap) w1 := by
  obtain ⟨d, hd, hni⟩ := hT.xund
  unfold Builtin.append_
  have hmx : ∀ k, d ≠ .int k := hni
  cases base with
  | none =>
    obtain rfl := hno rfl
    simp [run_underlying hT.und, run_underlying hd, hT.elem.sizeOf, hlen, hnew, hfit, Result.andThen]
  | some a =>
    have := hst a rfl
    simp [run_underlying hT.und, run_underlying hd, hT.elem.sizeOf, hlen, hnew, hfit, this, Result.andThen]
theorem append_grows {t xt e ty : TypeId} {te : TI} (hT : AppT P t xt e te) (base : Option Addr) (sLen sCap n : Nat) (xv : Value) (hlen : (Builtin.lenOf xv).run P w = .ok n w) (old new : List Value) (hnofit : sCap < sLen + n) (hsm : sLen + n ≤ 1048576) (hby : te.bytes ≤ 1048576)
    (hold : ∀ w', w'.heap = w.heap → (Builtin.firstCells te.size sLen (.slice base sLen sCap)).run P w' = .ok old.toArray w') (hnew : ∀ w', w'.heap = w.heap → (Builtin.firstCells te.size n xv).run P w' = .ok new.toArray w') :
    ∃ (nc : Nat) (zs : Array Value) (w1 : World), sLen + n ≤ nc ∧ zs.size = (nc - (sLen + n)) * te.size ∧ (Builtin.append_ #[t, xt] ty #[.slice base sLen sCap, xv]).run P w = .ok (.slice (some ⟨w.heap.size, 0, none⟩) (sLen + n) nc) w1 ∧
      w1.heap = w.heap.push (.cells ((old ++ new).toArray ++ zs) e) ∧ w1.os = w.os ∧ w1.tape = w.tape ∧ w1.output = w.output := by
  obtain ⟨d, hd, hni⟩ := hT.xund
  obtain ⟨i, hi, hib⟩ := hT.elem.bytes
  obtain ⟨z, hz, _, _, hzs, _⟩ := hT.elem.zero ⟨fun _ => none, fun _ => none, fun _ => 0, fun _ _ _ h => by cases h⟩
  have hne : ¬ (sLen + n ≤ sCap) := by omega
  have hb1 : ¬ ((9223372036854775807 : Int) < (sLen : Int) + (n : Int)) := by omega
  have hb2 : ¬ (281474976710656 < Builtin.nextslicecap (sLen + n) sCap * te.bytes) := by
    have h1 := nextslicecap_le hnofit
    have h2 : Builtin.nextslicecap (sLen + n) sCap * te.bytes ≤ 2097152 * 1048576 := Nat.mul_le_mul (by omega) hby
    omega
  have hq : (Question.appendCap (sLen + n) sCap e).forced = false := rfl
  have ho := hold w.drew rfl
  have hn := hnew w.drew rfl
  refine ⟨(Question.appendCap (sLen + n) sCap e).cut (w.tape w.drawn (.appendCap (sLen + n) sCap e)), Builtin.zeroCells z.cells ((Question.appendCap (sLen + n) sCap e).cut (w.tape w.drawn (.appendCap (sLen + n) sCap e)) - (sLen + n)), w.drew.alloc (.cells ((old ++ new).toArray ++ Builtin.zeroCells z.cells ((Question.appendCap (sLen + n) sCap e).cut (w.tape w.drawn (.appendCap (sLen + n) sCap e)) - (sLen + n))) e), ?_, ?_, ?_, rfl, rfl, rfl, rfl⟩
  · simp only [Question.cut]; omega
  · simp [Builtin.zeroCells, hzs]
  · unfold Builtin.append_
    have hmx : ∀ k, d ≠ .int k := hni
    simp [run_underlying hT.und, run_underlying hd, hT.elem.sizeOf, hlen, hne, run_typeInfo _ hi, hib, hq, hz, hb1, hb2, ho, hn, newRow, Result.andThen]
    congr 2
    apply Array.ext'
    simp
/-- What grows into a new block. -/
theorem grow_new (hr : HR B0 g h w) (hB : B0 ≤ w.heap.size) (hp : g.pos h.next = none) (hgr : g.grow h.next = none) (e : TypeId) (te : TI) (l : List AV) (cs : List Value) (hl : VRs g l cs) (h1 : ∀ v ∈ cs, one1 v = true) (need : Nat) (hlen : l.length = need * te.size) (hs0 : 0 < te.size)
    {s : Sem Value} (nc : Nat) (zs : Array Value) (w1 : World) (hnc : need ≤ nc) (hzs : zs.size = (nc - need) * te.size) (hs : s.run P w = .ok (.slice (some ⟨w.heap.size, 0, none⟩) need nc) w1) (hh : w1.heap = w.heap.push (.cells (cs.toArray ++ zs) e)) (hos : w1.os = w.os) (ht : w1.tape = w.tape) (hou : w1.output = w.output) :
    VG P B0 g h w s (kNew h (.cells l e) fun b => .slc b 0 need (.v te.size 0)) := by
  have hcl : cs.length = need * te.size := by rw [← hl.length, hlen]
  have hsz : (cs.toArray ++ zs).size = nc * te.size := by
    simp [hcl, hzs]
    rw [← Nat.add_mul]
    congr 1
    omega
  refine new_good hr hB hp hgr l e _ (some (nc, te.size)) _ w1 (cs.toArray ++ zs) (0, 0) hs hh hos ht hou (fun i => by simp) (by rw [hsz, hlen]; exact Nat.mul_le_mul_right _ hnc) (fun i v hi => ?_) (fun c s' e => ?_) ?_
  · obtain ⟨v', e, hv⟩ := hl.at hi
    refine ⟨v', ?_, hv, h1 v' (List.mem_of_getElem? e)⟩
    have := (List.getElem?_eq_some_iff.1 e).1
    rw [Array.getElem?_append_left (by simpa using this)]
    simpa using e
  · injection e with e
    injection e with e1 e2
    subst e1; subst e2
    exact ⟨hs0, by rw [hlen]; exact Nat.mul_le_mul_right _ hnc, by rw [hsz]; exact Nat.le_refl _⟩
  · have := VR.slcv (g := g.add h.next w.heap.size 0 (some (nc, te.size))) h.next 0 need 0 w.heap.size 0 nc te.size 0 (if_pos rfl) (if_pos rfl) (by simp) (by omega) (fun _ => rfl)
    simpa using this

theorem put_nil_addr {a : Addr} {w : World} : (storeCells a []).run P w = .ok () w := rfl
theorem append_good (hr : HR B0 g h w) (hB : B0 ≤ w.heap.size) (hm : ∀ b o, h.m.get b = some o → b < h.next) (hp : g.pos h.next = none) (hgr : g.grow h.next = none) (t xt ty : TypeId) (s x : AV) (sv xv : Value) (hs : VR g s sv) (hx : VR g x xv) :
    VG P B0 g h w (Builtin.append_ #[t, xt] ty #[sv, xv]) (bi (notInt (mkTI P xt)) (xAppend (mkTI P) h s x (elemT (mkTI P t))) .no) := by
  cases hni : notInt (mkTI P xt)
  · trivial
  · rw [bi_true]
    unfold xAppend
    cases ht : mkTI P t with
    | none => trivial
    | some ti =>
      have hTt := mkTI_some ht
      cases hk : elemK ti.kind with
      | none => show VG P B0 g h w _ (oc .no _ (elemK ti.kind)); rw [hk]; trivial
      | some e =>
        show VG P B0 g h w _ (oc .no _ (elemK ti.kind))
        rw [hk]
        have hu := hTt.slice (elemK_some hk)
        simp only [oc_some]
        cases hte : mkTI P e with
        | none => trivial
        | some te =>
          have hTe := mkTI_some hte
          simp only [oc_some]
          have hxu : ∃ d, P.underlying xt = some d ∧ ∀ k, d ≠ .int k := by
            unfold notInt at hni
            cases hxt : mkTI P xt with
            | none => rw [hxt] at hni; cases hni
            | some xi =>
              rw [hxt] at hni
              obtain ⟨d, hd, hkd⟩ := (mkTI_some hxt).und
              refine ⟨d, hd, fun k e => ?_⟩
              subst e
              simp only [oc_some, hkd] at hni
              cases hni
          have hT : AppT P t xt e te := ⟨hu, hxu, hTe⟩
          cases hl : lenOf x with
          | none => trivial
          | some n =>
            simp only [oc_some]
            cases hso : strOk x te.size
            · trivial
            · rw [bi_true]
              have hstr : ∀ l, x = .str l → te.size = 1 := fun l e => by
                subst e
                exact Nat.eq_of_beq_eq_true hso
              cases hf : firstCells x h te.size n with
              | none => trivial
              | some new =>
                simp only [oc_some]
                have hlen := lenOf_ok (P := P) hx hl w
                obtain ⟨new', hnewW, n2, n3, n4⟩ := firstCells_ok (P := P) hr hx hl (Nat.le_refl _) hf hstr
                have n1 := hnewW w rfl
                unfold app1
                cases hss : asSlc s with
                | none =>
                  simp only [oc_none]
                  cases hn : isNils s
                  · trivial
                  · have := isNils_true hn; subst this
                    cases hs
                    rw [bi_true]
                    cases hn0 : Nat.beq n 0
                    · rw [bi_false]
                      have hn0 := Nat.ne_of_beq_eq_false hn0
                      unfold kGrow
                      cases h1 : Nat.ble n 1048576
                      · trivial
                      · cases h2 : Nat.ble te.bytes 1048576
                        · trivial
                        · cases h3 : Nat.beq te.size 0
                          · simp only [bi_true, bi_false]
                            have h1 := Nat.le_of_ble_eq_true h1
                            have h2 := Nat.le_of_ble_eq_true h2
                            have h3 := Nat.ne_of_beq_eq_false h3
                            obtain ⟨nc, zs, w1, a1, a2, a3, a4, a5, a6, a7⟩ := append_grows (w := w) (ty := ty) hT none 0 0 n xv hlen [] new' (by omega) (by omega) h2 (fun w' _ => by simp [Builtin.firstCells]) hnewW
                            simp only [Nat.zero_add, List.nil_append] at a1 a2 a3 a4
                            exact grow_new hr hB hp hgr e te new new' n2 n3 n (by rw [n2.length, n4]) (by omega) nc zs w1 a1 a2 a3 a4 a5 a6 a7
                          · trivial
                    · rw [bi_true]
                      have hn0 := Nat.eq_of_beq_eq_true hn0
                      subst hn0
                      have := append_fits (w := w) (ty := ty) hT none 0 0 0 xv hlen new' n1 (Nat.le_refl _) w (fun a e => by cases e) (fun _ => rfl)
                      exact VG.same hr this .nils
                | some sl =>
                  have := asSlc_some hss; subst this
                  simp only [oc_some]
                  obtain ⟨b, o, len, cp⟩ := sl
                  dsimp only at hs ⊢
                  cases hob : objCells (h.m.get b) with
                  | none => trivial
                  | some c =>
                    simp only [oc_some]
                    have hrow := fun B base (hp : g.pos b = some (B, base)) => hr.row hob hp
                    unfold app2
                    dsimp only
                    cases hfit : bi (Nat.ble (Nat.add o (Nat.mul (Nat.add len n) te.size)) (Kx.len c.1)) (capOk (Nat.add len n) te.size cp) false
                    · rw [bi_false]
                      cases hsb : sub c.1 o (Nat.mul len te.size) with
                      | none => trivial
                      | some old =>
                        simp only [oc_some, nF_eq]
                        have hca : cellsAt h b o (len * te.size) = some old := by unfold cellsAt; rw [hob]; exact hsb
                        obtain ⟨old', o1, o2, o3, o4⟩ := sliceCells (P := P) hr hs (Nat.le_refl _) rfl hca
                        have hvs : VRs g (app old new) (old' ++ new') := by rw [app_eq]; exact o2.append n2
                        have hv1 : ∀ v ∈ old' ++ new', one1 v = true := fun v hv => by
                          rcases List.mem_append.1 hv with hv | hv
                          · exact o3 v hv
                          · exact n3 v hv
                        have hvl : (app old new).length = (len + n) * te.size := by rw [hvs.length, List.length_append, o4, n4, Nat.add_mul]
                        have hdl : live h b := ⟨_, objCells_some hob, by simp⟩
                        have hbn := hm _ _ (objCells_some hob)
                        cases hs with
                        | slck _ _ _ cc B base ro hpb hn hro =>
                          show VG P B0 g h w _ (bi (Nat.ble (len + n) cc) .no (kGrow h e te (len + n) (app old new)))
                          cases hnc : Nat.ble (len + n) cc
                          · rw [bi_false]
                            have hnc : cc < len + n := by
                              rcases Nat.lt_or_ge cc (len + n) with h1 | h1
                              · exact h1
                              · rw [Nat.ble_eq_true_of_le h1] at hnc; cases hnc
                            unfold kGrow
                            cases h1 : Nat.ble (len + n) 1048576
                            · trivial
                            · cases h2 : Nat.ble te.bytes 1048576
                              · trivial
                              · cases h3 : Nat.beq te.size 0
                                · simp only [bi_true, bi_false]
                                  have h1 := Nat.le_of_ble_eq_true h1
                                  have h2 := Nat.le_of_ble_eq_true h2
                                  have h3 := Nat.ne_of_beq_eq_false h3
                                  obtain ⟨nc, zs, w1, a1, a2, a3, a4, a5, a6, a7⟩ := append_grows (w := w) (ty := ty) hT (some ⟨B, ro, none⟩) len cc n xv hlen old' new' hnc h1 h2 o1 hnewW
                                  exact grow_new hr hB hp hgr e te _ _ hvs hv1 (len + n) hvl (by omega) nc zs w1 a1 a2 a3 a4 a5 a6 a7
                                · trivial
                          · trivial
                        | slcv _ _ _ k B base cc s ro hpb hg ho hn hro =>
                          show VG P B0 g h w _ (bi (Nat.beq c.2 e) (bi (Nat.beq s te.size) (kGrow (h.upd b .dead) e te (len + n) (app old new)) .no) .no)
                          cases hte2 : Nat.beq c.2 e
                          · trivial
                          have hte2 : c.2 = e := Nat.eq_of_beq_eq_true hte2
                          rw [bi_true]
                          cases hse : Nat.beq s te.size
                          · trivial
                          · have hse := Nat.eq_of_beq_eq_true hse
                            subst hse
                            rw [bi_true]
                            unfold kGrow
                            cases h1 : Nat.ble (len + n) 1048576
                            · trivial
                            · cases h2 : Nat.ble te.bytes 1048576
                              · trivial
                              · cases h3 : Nat.beq te.size 0
                                · simp only [bi_true, bi_false]
                                  have h1 := Nat.le_of_ble_eq_true h1
                                  have h2 := Nat.le_of_ble_eq_true h2
                                  have h3 := Nat.ne_of_beq_eq_false h3
                                  by_cases hreal : len + n ≤ cc - k
                                  · obtain ⟨cs, fr, e1, e2, e3, e4, e5⟩ := (hrow B base hpb).ex
                                    obtain ⟨hs0, hle2, hle3⟩ := e5 cc te.size hg
                                    have hBl : B < w.heap.size := (Array.getElem?_eq_some_iff.1 e1).1
                                    obtain ⟨od, d1, d2, d3, _, d5⟩ := (hrow B base hpb).cells (P := P) hsb
                                    have hvs2 : VRs g (app old new) (od ++ new') := by rw [app_eq]; exact d2.append n2
                                    have hv2 : ∀ v ∈ od ++ new', one1 v = true := fun v hv => by
                                      rcases List.mem_append.1 hv with hv | hv
                                      · exact d3 v hv
                                      · exact n3 v hv
                                    have d1 : od.length = len * te.size := d1
                                    have hk : o = k * te.size := ho
                                    have hall : o + (len + n) * te.size ≤ cc * te.size := by
                                      rw [hk, ← Nat.add_mul]
                                      exact Nat.mul_le_mul_right _ (by omega)
                                    have hmul : (len + n) * te.size = len * te.size + n * te.size := Nat.add_mul _ _ _
                                    have hst := run_storeRow (P := P) B (base + o + len * te.size) c.2 fr new' 0 cs w e1 e2 (by omega) n3
                                    have hrun := append_fits (w := w) (ty := ty) hT (some ⟨B, ro, none⟩) len (cc - k) n xv hlen new' n1 hreal _ (fun a e => by
                                      injection e with e
                                      subst e
                                      rw [add_none]
                                      by_cases hc0 : k < cc
                                      · rw [hro hc0]; exact hst
                                      · obtain rfl : n = 0 := by omega
                                        have : new' = [] := List.eq_nil_of_length_eq_zero (by rw [n4]; simp)
                                        subst this
                                        exact hst) (fun e => by cases e)
                                    unfold kNew
                                    rw [nF_eq]
                                    refine ⟨_, _, g.add h.next B (base + o) (some (cc - k, te.size)), hrun, ?_, Tr.move hr hm hp hgr b B base o hdl hpb _ _ _ ⟨_, fr, wset_same _ _ _ hBl |>.trans (by rw [hte2]), ?_, ?_, ?_, ?_⟩ (fun B' hB' => wset_other _ _ _ _ hB') (wset_size _ _ _) rfl rfl rfl⟩
                                    · have := VR.slcv (g := g.add h.next B (base + o) (some (cc - k, te.size))) h.next 0 (len + n) 0 B (base + o) (cc - k) te.size ro (if_pos rfl) (if_pos rfl) (by simp) (by omega) (fun hlt => by rw [hro (by omega)]; rfl)
                                      rw [Nat.sub_zero] at this
                                      exact this
                                    · exact e2
                                    · simp only [hvl]
                                      simp
                                      omega
                                    · intro i v hv
                                      obtain ⟨v', q1, q2⟩ := hvs2.at hv
                                      refine ⟨v', ?_, q2.mono (G.add_le g _ _ _ _ hp hgr), hv2 v' (List.mem_of_getElem? q1)⟩
                                      have hi := (List.getElem?_eq_some_iff.1 q1).1
                                      rw [List.length_append, d1, n4] at hi
                                      simp only [Nat.add_zero, List.getElem?_toArray]
                                      have hto : (cs.toList.take (base + o + len * te.size)).length = base + o + len * te.size := by simp; omega
                                      rcases Nat.lt_or_ge i (len * te.size) with h5 | h5
                                      · rw [List.getElem?_append_left (by omega), List.getElem?_take, if_pos (by omega)]
                                        rw [List.getElem?_append_left (by omega)] at q1
                                        have := d5 i v' q1
                                        rw [add_none] at this
                                        simp [World.cell?, e1] at this
                                        simpa using this
                                      · rw [List.getElem?_append_right (by omega), hto, show base + o + i - (base + o + len * te.size) = i - len * te.size by omega, List.getElem?_append_left (by omega)]
                                        rw [List.getElem?_append_right (by omega), d1] at q1
                                        exact q1
                                    · intro c' s' hcs
                                      have : (some (cc - k, te.size) : Option (Nat × Nat)) = some (c', s') := by rw [← hcs]; exact (if_pos rfl).symm
                                      injection this with this
                                      injection this with e1 e2
                                      subst e1; subst e2
                                      refine ⟨hs0, by rw [hvl]; exact Nat.mul_le_mul_right _ hreal, ?_⟩
                                      have : (cc - k) * te.size + k * te.size = cc * te.size := by rw [← Nat.add_mul]; congr 1; omega
                                      simp
                                      omega
                                  · have t1 := Tr.kill hr b hdl hbn hpb
                                    obtain ⟨nc, zs, w1, a1, a2, a3, a4, a5, a6, a7⟩ := append_grows (w := w) (ty := ty) hT (some ⟨B, ro, none⟩) len (cc - k) n xv hlen old' new' (by omega) h1 h2 o1 hnewW
                                    have := grow_new (h := h.upd b .dead) t1.hr hB hp hgr e te _ _ hvs hv1 (len + n) hvl (by omega) nc zs w1 a1 a2 a3 a4 a5 a6 a7
                                    unfold kNew at this ⊢
                                    rw [nF_eq] at this ⊢
                                    obtain ⟨v', w', g', q1, q2, q3⟩ := this
                                    exact ⟨v', w', g', q1, q2, t1.trans q3⟩
                                · trivial
                    · rw [bi_true, nF_eq]
                      have hf1 : o + (len + n) * te.size ≤ c.1.length ∧ capOk (len + n) te.size cp = true := by
                        rw [bi_eq] at hfit
                        split at hfit
                        · rename_i hb
                          have := Nat.le_of_ble_eq_true hb
                          rw [len_eq] at this
                          exact ⟨this, hfit⟩
                        · cases hfit
                      obtain ⟨hf1, hf2⟩ := hf1
                      cases hpu : put (Nat.add o (Nat.mul len te.size)) new c.1 with
                      | none => trivial
                      | some r =>
                        have hpu : put (o + len * te.size) new c.1 = some r := hpu
                        unfold kUpd
                        simp only [oc_some]
                        cases hs with
                        | slck _ _ _ cc B base ro hpb hn hro =>
                          have hfc : len + n ≤ cc := Nat.le_of_ble_eq_true hf2
                          obtain ⟨w1, a1, a2, a3, a4, a5, a6, a7⟩ := (hrow B base hpb).put (P := P) n2 n3 hpu
                          have hrun := append_fits (w := w) (ty := ty) hT (some ⟨B, ro, none⟩) len cc n xv hlen new' n1 hfc w1 (fun a e => by
                            injection e with e
                            subst e
                            rw [add_none]
                            by_cases hc0 : 0 < cc
                            · rw [hro hc0, Nat.add_assoc]; exact a1
                            · obtain rfl : n = 0 := by omega
                              have : new' = [] := List.eq_nil_of_length_eq_zero (by rw [n4]; simp)
                              subst this
                              exact a1) (fun e => by cases e)
                          exact ⟨_, w1, g, hrun, .slck b o (len + n) cc B base ro hpb hfc hro, Tr.cells hr hm hob hpb a2 a3 a4 a5 a6 a7⟩
                        | slcv _ _ _ k B base cc s ro hpb hg ho hn hro =>
                          have hsz : s = te.size := Nat.eq_of_beq_eq_true hf2
                          subst hsz
                          obtain ⟨cs, fr, _, _, _, _, hgr'⟩ := (hrow B base hpb).ex
                          obtain ⟨hs0, hle2, _⟩ := hgr' cc te.size hg
                          have hfc : len + n ≤ cc - k := by
                            have : (k + (len + n)) * te.size ≤ cc * te.size := by rw [Nat.add_mul]; omega
                            have := Nat.le_of_mul_le_mul_right this hs0
                            omega
                          obtain ⟨w1, a1, a2, a3, a4, a5, a6, a7⟩ := (hrow B base hpb).put (P := P) n2 n3 hpu
                          have hrun := append_fits (w := w) (ty := ty) hT (some ⟨B, ro, none⟩) len (cc - k) n xv hlen new' n1 hfc w1 (fun a e => by
                            injection e with e
                            subst e
                            rw [add_none]
                            by_cases hc0 : k < cc
                            · rw [hro hc0, Nat.add_assoc]; exact a1
                            · obtain rfl : n = 0 := by omega
                              have : new' = [] := List.eq_nil_of_length_eq_zero (by rw [n4]; simp)
                              subst this
                              exact a1) (fun e => by cases e)
                          exact ⟨_, w1, g, hrun, .slcv b o (len + n) k B base cc te.size ro hpb hg ho (by omega) hro, Tr.cells hr hm hob hpb a2 a3 a4 a5 a6 a7⟩
end
end Go.Proofs.YtimjbojoeacaeaaDoor.Kx
