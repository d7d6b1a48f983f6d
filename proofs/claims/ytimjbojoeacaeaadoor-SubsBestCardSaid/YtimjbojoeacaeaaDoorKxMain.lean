/- A run that the evaluator answers with true: what the model's call comes to. -/
import Derived.Test.YtimjbojoeacaeaaDoorKxRun
import Derived.Below
import Derived.WideShapes
namespace Go.Proofs.YtimjbojoeacaeaaDoor.Kx
open Go.RowKit

noncomputable def isT (r : R) : Bool := @R.rec (fun _ => Bool) false (fun _ _ _ => false) (fun v _ => oc false (fun b => b) (asBool v)) r
theorem isT_true {r : R} (h : isT r = true) : ∃ h', r = .ret (.bool true) h' := by
  cases r with
  | no => cases h
  | mk _ _ _ => cases h
  | ret v h' =>
    replace h : oc false (fun b => b) (asBool v) = true := h
    cases hv : asBool v with
    | none => rw [hv] at h; cases h
    | some b =>
      rw [hv, oc_some] at h
      subst h
      exact ⟨h', by rw [asBool_some hv]⟩
def G.e : G := ⟨fun _ => none, fun _ => none, fun _ => 0, fun _ _ _ h => by cases h⟩
theorem En.start (w : World) : En w.heap.size G.e ⟨.e, 0⟩ w :=
  ⟨⟨fun b l t B base h => (by simp at h), fun b es c B base h => (by simp at h), fun b it B base h => (by simp at h), fun b b' B base base' ⟨o, h, _⟩ => (by simp at h), fun b B base ⟨o, h, _⟩ => (by simp at h), fun b B base h => (by cases h)⟩,
   ⟨fun b _ => by simp, fun b _ => rfl, fun b _ => rfl⟩, Nat.le_refl _⟩
/-- The call answers true, and leaves what was there. -/
theorem run_true {P : Program} (hmo : P.follows .mixedOrders = true) {Ov : Ovs} (hov : OvsOk P Ov) {f F : Nat} {args : List AV} (hr : isT (rn P Ov f (.call F args) .e ⟨.e, 0⟩) = true) {args' : List Value} (ha : VRs G.e args args') (W : World) :
    Calls P F args'.toArray W fun e W' => e = .returned (.bool true) ∧ Below W.heap.size W W' := by
  obtain ⟨h', hr⟩ := isT_true hr
  refine (((good hmo hov f).2.2.2.1 _ _ _ _ _ _ hr).2 _ _ W args' (.start W) ha).mono ?_
  rintro e W' ⟨v', g', rfl, hv, ht⟩
  cases hv
  exact ⟨rfl, ht.os, ht.tape, ht.output, ht.size, fun k hk => ht.frame k hk fun b base ⟨o, h, _⟩ => by simp at h⟩
/-- Nothing known beforehand. -/
def noOv : Ovs := fun _ => none
theorem noOv_ok (P : Program) : OvsOk P noOv := fun _ _ h => by cases h
/-- Calls known beforehand, by their numbers. -/
noncomputable def ovl (l : List (FuncId × (List AV → H → XR))) (f : FuncId) : Option (List AV → H → XR) := @List.rec (FuncId × (List AV → H → XR)) (fun _ => Option (List AV → H → XR)) none (fun p _ r => bi (Nat.beq p.1 f) (some p.2) r) l
theorem ovl_ok {P : Program} {l : List (FuncId × (List AV → H → XR))} (h : ∀ p ∈ l, OvOk P p.1 p.2) : OvsOk P (ovl l) := by
  intro F x hx
  induction l with
  | nil => cases hx
  | cons p r ih =>
    replace hx : bi (Nat.beq p.1 F) (some p.2) (ovl r F) = some x := hx
    cases hb : Nat.beq p.1 F
    · rw [hb, bi_false] at hx
      exact ih (fun q hq => h q (.tail _ hq)) hx
    · rw [hb, bi_true] at hx
      injection hx with hx
      subst hx
      have := Nat.eq_of_beq_eq_true hb
      subst this
      exact h p (.head _)
/-- What is known of an argument by its type alone. -/
noncomputable def absT (P : Program) (u : TypeId) : AV := @Option.rec TypeDesc (fun _ => AV) .any (fun d => @TK.rec (fun _ => AV) .any (fun _ => .any) .any (fun _ => .xslc 0 true) (fun _ => .any) (fun _ _ => .any) (fun _ => .any) (fun _ _ => .any) .any .any .any (kOf d)) (P.underlying u)
theorem absT_VR {P : Program} {g : G} {w : World} {r : Reach} {base : Nat} {u : TypeId} {v : Value} (h : Cell.okWide P w r base u v) : VR g (absT P u) v ∧ one1 v = true := by
  constructor
  · unfold absT
    cases hu : P.underlying u with
    | none => exact .any v
    | some d =>
      cases d <;> first | exact .any v | skip
      simp only [Cell.okWide, hu] at h
      cases v <;> first | (simp [Cell.ok, hu] at h; done) | exact .xslc _ _ _ _ _ (Nat.zero_le _) (fun h => by cases h)
  · cases v <;> first | rfl | skip
    all_goals
      exfalso
      cases hu : P.underlying u with
      | none => simp [Cell.okWide, Cell.ok, hu] at h
      | some d => cases d <;> simp [Cell.okWide, Cell.ok, hu] at h
theorem absL_VRs {P : Program} {g : G} {w : World} {r : Reach} {base : Nat} : ∀ (ts : List TypeId) (cs : List Value), cs.length = ts.length → (∀ (i : Nat) (v : Value), cs[i]? = some v → ∃ u, ts[i]? = some u ∧ Cell.okWide P w r base u v) → VRs g (ts.map (absT P)) cs ∧ ∀ x ∈ cs, one1 x = true
  | [], [], _, _ => ⟨.nil, fun x hx => by cases hx⟩
  | [], _ :: _, h, _ => by cases h
  | _ :: _, [], h, _ => by cases h
  | t :: ts, c :: cs, hl, h => by
    obtain ⟨u, e, hc⟩ := h 0 c rfl
    injection e with e
    subst e
    obtain ⟨h1, h2⟩ := absT_VR (g := g) hc
    obtain ⟨h3, h4⟩ := absL_VRs (g := g) ts cs (by simpa using hl) (fun i v hi => h (i + 1) v hi)
    refine ⟨.cons _ _ _ _ h1 h3, fun x hx => ?_⟩
    cases hx with
    | head => exact h2
    | tail _ hx => exact h4 x hx
theorem abs_struct {P : Program} {g : G} {w : World} {r : Reach} {base : Nat} {t : TypeId} {v : Value} {fs : Array Field} {ts : List TypeId} (hu : P.underlying t = some (.struct fs)) (hc : P.cellTypes P.depth t = some ts) (hn : P.cellsOf t = ts.length)
    (h : Value.okWide P w r base t v) : VR g (.agg (ts.map (absT P))) v := by
  simp only [Value.okWide, hu] at h
  obtain ⟨cs, rfl, h1, ts', h2, _, h3⟩ := h
  rw [hc] at h2
  injection h2 with h2
  subst h2
  have key := absL_VRs (P := P) (g := g) (w := w) (r := r) (base := base) ts cs.toList (by simp; omega) (fun i v hi => by
    have hi' : cs[i]? = some v := by simpa using hi
    have hlt : i < cs.size := (Array.getElem?_eq_some_iff.1 hi').1
    obtain ⟨u, e, hk⟩ := h3 i v hi'
    rw [Nat.mod_eq_of_lt (by omega)] at e
    exact ⟨u, e, hk⟩)
  exact .agg _ cs.toList key.1 key.2
theorem abs_cell {P : Program} {g : G} {w : World} {r : Reach} {base : Nat} {t e : TypeId} {v : Value} (hu : P.underlying t = some (.slice e)) (h : Value.okWide P w r base t v) : VR g (.xslc 0 true) v := by
  obtain ⟨a, n, c, rfl⟩ := WideShapes.okWide_slice hu h
  exact .xslc a n c _ _ (Nat.zero_le _) (fun h => by cases h)
end Go.Proofs.YtimjbojoeacaeaaDoor.Kx
