/- All operations of the evaluator. -/
import Derived.Test.YtimjbojoeacaeaaDoorKxIter
namespace Go.Proofs.YtimjbojoeacaeaaDoor.Kx
section
variable {P : Program} {B0 : Nat} {g : G} {h : H} {w : World}

/-- An operation's goodness. -/
def OG (P : Program) (B0 : Nat) (g : G) (h : H) (w : World) (s : Sem Next) : XR → Prop
  | .no => True
  | .val v h' => ∃ n w' g' v', s.run P w = .ok n w' ∧ (n = .value v' ∨ (n = .skip ∧ v' = undef)) ∧ VR g' v v' ∧ Tr B0 g h w g' h' w'
  | .call f args h' => h' = h ∧ ∃ args' : List Value, VRs g args args' ∧ s.run P w = (callFunc f args'.toArray).run P w
theorem OG.of_VG {s : Sem Value} {r : XR} (hv0 : VG P B0 g h w s r) : OG P B0 g h w (do pure (.value (← s))) r := by
  cases r with
  | no => trivial
  | val v h' =>
    obtain ⟨v', w', g', e, hv, ht⟩ := hv0
    exact ⟨.value v', w', g', v', by simp [e, Result.andThen], .inl rfl, hv, ht⟩
  | call _ _ _ => exact hv0.elim
theorem OG.of_UG {s : Sem Unit} {r : XR} (hv0 : UG P B0 g h w s r) : OG P B0 g h w (do s; pure .skip) r := by
  cases r with
  | no => trivial
  | val v h' =>
    obtain ⟨rfl, w', e, g', ht⟩ := hv0
    exact ⟨.skip, w', g', undef, by simp [e, Result.andThen], .inr ⟨rfl, rfl⟩, .tup [] [] .nil, ht⟩
  | call _ _ _ => exact hv0.elim
theorem hd2_cases {α : Type} (k : α → α → XR) (l : List α) : hd2 k l = .no ∨ ∃ x y, l = [x, y] ∧ hd2 k l = k x y := by
  cases l with
  | nil => exact .inl rfl
  | cons x r => cases r with
    | nil => exact .inl rfl
    | cons y s => cases s with
      | nil => exact .inr ⟨x, y, rfl, rfl⟩
      | cons _ _ => exact .inl rfl
theorem hd1_cases {α : Type} (k : α → XR) (l : List α) : hd1 k l = .no ∨ ∃ x, l = [x] ∧ hd1 k l = k x := by
  cases l with
  | nil => exact .inl rfl
  | cons x r => cases r with
    | nil => exact .inr ⟨x, rfl, rfl⟩
    | cons _ _ => exact .inl rfl
theorem evL_VRs {a : Tm} {ρ : Operand → Value} : ∀ (l : List Operand), (∀ x ∈ l, VR g (ev x a) (ρ x)) → VRs g (evL l a) (l.map ρ)
  | [], _ => .nil
  | x :: r, h => .cons _ _ _ _ (h x (List.mem_cons_self)) (evL_VRs r (fun y hy => h y (List.mem_cons_of_mem _ hy)))
theorem prs_PRs {a : Tm} {ρ : Operand → Value} : ∀ (l : List (Nat × Operand)), (∀ p ∈ l, VR g (ev p.2 a) (ρ p.2)) → PRs g (prs l a) (l.map fun p => (p.1, ρ p.2))
  | [], _ => .nil
  | (i, x) :: r, h => .cons _ _ _ _ _ (h (i, x) (List.mem_cons_self)) (prs_PRs r (fun y hy => h y (List.mem_cons_of_mem _ hy)))
theorem evO_OR {a : Tm} {ρ : Operand → Value} (o : Option Operand) (h : ∀ x, o = some x → VR g (ev x a) (ρ x)) : OR g (evO o a) (o.map ρ) := by
  cases o with
  | none => exact .none
  | some x => exact .some _ _ (h x rfl)
theorem builtin_good (hr : HR B0 g h w) (hB : B0 ≤ w.heap.size) (hm : ∀ b o, h.m.get b = some o → b < h.next) (hp : g.pos h.next = none) (hgr : g.grow h.next = none) (b : Builtin) (ts : Array TypeId) (ty : TypeId) (cs : Array Bool) (l : List AV) (l' : List Value) (hl : VRs g l l') :
    OG P B0 g h w (builtin b ts ty cs l'.toArray) (xBuiltin b (mkTI P) h ts.toList l) := by
  cases b <;> try trivial
  case len =>
    show OG P B0 g h w _ (hd1 (fun x => hd1 (fun t => xLen x h (mkTI P t)) ts.toList) l)
    rcases hd1_cases (fun x => hd1 (fun t => xLen x h (mkTI P t)) ts.toList) l with e | ⟨x, rfl, e⟩
    · rw [e]; trivial
    · rw [e]
      rcases hd1_cases (fun t => xLen x h (mkTI P t)) ts.toList with e | ⟨t, ht, e⟩
      · rw [e]; trivial
      · rw [e]
        cases hl with | cons _ xv _ _ hx hs =>
        cases hs
        have : ts = #[t] := by cases ts; simp at ht; rw [ht]
        subst this
        exact OG.of_VG (len_good hr t ty x xv hx)
  case append =>
    show OG P B0 g h w _ (hd2 (fun s x => hd2 (fun t u => bi (notInt (mkTI P u)) (xAppend (mkTI P) h s x (elemT (mkTI P t))) .no) ts.toList) l)
    rcases hd2_cases (fun s x => hd2 (fun t u => bi (notInt (mkTI P u)) (xAppend (mkTI P) h s x (elemT (mkTI P t))) .no) ts.toList) l with e | ⟨s, x, rfl, e⟩
    · rw [e]; trivial
    · rw [e]
      rcases hd2_cases (fun t u => bi (notInt (mkTI P u)) (xAppend (mkTI P) h s x (elemT (mkTI P t))) .no) ts.toList with e | ⟨t, u, ht, e⟩
      · rw [e]; trivial
      · rw [e]
        cases hl with | cons _ sv _ _ hs hl =>
        cases hl with | cons _ xv _ _ hx hl =>
        cases hl
        have : ts = #[t, u] := by cases ts; simp at ht; rw [ht]
        subst this
        exact OG.of_VG (append_good hr hB hm hp hgr t u ty s x sv xv hs hx)
  case copy =>
    show OG P B0 g h w _ (hd2 (fun d s => hd2 (fun t _ => xCopy h d s (oc none (szOf (mkTI P)) (elemT (mkTI P t)))) ts.toList) l)
    rcases hd2_cases (fun d s => hd2 (fun t _ => xCopy h d s (oc none (szOf (mkTI P)) (elemT (mkTI P t)))) ts.toList) l with e | ⟨d, s, rfl, e⟩
    · rw [e]; trivial
    · rw [e]
      rcases hd2_cases (fun t _ => xCopy h d s (oc none (szOf (mkTI P)) (elemT (mkTI P t)))) ts.toList with e | ⟨t, u, ht, e⟩
      · rw [e]; trivial
      · rw [e]
        cases hl with | cons _ dv _ _ hd hl =>
        cases hl with | cons _ sv _ _ hs hl =>
        cases hl
        have : ts = #[t, u] := by cases ts; simp at ht; rw [ht]
        subst this
        exact OG.of_VG (copy_good hr hm t u ty d s dv sv hd hs)
  case delete =>
    show OG P B0 g h w _ (hd2 (fun m k => hd2 (fun t _ => xDelete (mkTI P) h k m (mapT (mkTI P t))) ts.toList) l)
    rcases hd2_cases (fun m k => hd2 (fun t _ => xDelete (mkTI P) h k m (mapT (mkTI P t))) ts.toList) l with e | ⟨m, k, rfl, e⟩
    · rw [e]; trivial
    · rw [e]
      rcases hd2_cases (fun t _ => xDelete (mkTI P) h k m (mapT (mkTI P t))) ts.toList with e | ⟨t, u, ht, e⟩
      · rw [e]; trivial
      · rw [e]
        cases hl with | cons _ mv _ _ hmv hl =>
        cases hl with | cons _ kv _ _ hk hl =>
        cases hl
        have : ts = #[t, u] := by cases ts; simp at ht; rw [ht]
        subst this
        exact OG.of_VG (delete_good hr hm t ty u m k mv kv hmv hk)
  case clear =>
    show OG P B0 g h w _ (hd1 (fun x => hd1 (fun t => xClear (mkTI P) h x (mkTI P t)) ts.toList) l)
    rcases hd1_cases (fun x => hd1 (fun t => xClear (mkTI P) h x (mkTI P t)) ts.toList) l with e | ⟨x, rfl, e⟩
    · rw [e]; trivial
    · rw [e]
      rcases hd1_cases (fun t => xClear (mkTI P) h x (mkTI P t)) ts.toList with e | ⟨t, ht, e⟩
      · rw [e]; trivial
      · rw [e]
        cases hl with | cons _ xv _ _ hx hl =>
        cases hl
        have : ts = #[t] := by cases ts; simp at ht; rw [ht]
        subst this
        exact OG.of_VG (clear_good hr hm t ty x xv hx)
  case max =>
    show OG P B0 g h w _ (hd2 (xMax h) l)
    rcases hd2_cases (xMax h) l with e | ⟨x, y, rfl, e⟩
    · rw [e]; trivial
    · rw [e]
      cases hl with | cons _ xv _ _ hx hl =>
      cases hl with | cons _ yv _ _ hy hl =>
      cases hl
      exact OG.of_VG (max_good hr ts ty x y xv yv hx hy)
  case min =>
    show OG P B0 g h w _ (hd2 (xMin h) l)
    rcases hd2_cases (xMin h) l with e | ⟨x, y, rfl, e⟩
    · rw [e]; trivial
    · rw [e]
      cases hl with | cons _ xv _ _ hx hl =>
      cases hl with | cons _ yv _ _ hy hl =>
      cases hl
      exact OG.of_VG (min_good hr ts ty x y xv yv hx hy)

theorem isFunc_some {f : Fn} (h : isFunc f = true) : ∃ i, f = .func i := by cases f <;> first | exact ⟨_, rfl⟩ | cases h
theorem nilCheck_good (hr : HR B0 g h w) (x : AV) (xv : Value) (hx : VR g x xv) {ρ : Operand → Value} {o : Oper} {y : Operand} (ho : o.op = .nilCheck y) (hy : ρ y = xv) : OG P B0 g h w (execOp ρ o) (xNilCheck h x) := by
  unfold xNilCheck
  cases hn : notNil x
  · trivial
  · rw [bi_true]
    have hval : (execOp ρ o).run P w = .ok (.value xv) w := by
      unfold execOp
      simp only [ho, hy]
      cases hx <;> first | (cases hn; done) | rfl | skip
      rename_i f a b a' b' h1 h2
      obtain ⟨i, rfl⟩ := isFunc_some hn
      rfl
    exact ⟨.value xv, w, g, xv, hval, .inl rfl, hx, .refl hr⟩
theorem fnId_some {f : Fn} {i : FuncId} (h : fnId f = some i) : f = .func i := by cases f <;> first | (injection h with h; subst h; rfl) | cases h
set_option maxHeartbeats 1000000 in
theorem xop_good (hr : HR B0 g h w) (hB : B0 ≤ w.heap.size) (hm : ∀ b o, h.m.get b = some o → b < h.next) (hp : g.pos h.next = none) (hgr : g.grow h.next = none) (o : Oper) (a : Tm) (ρ : Operand → Value) (he : ∀ x ∈ o.op.operands, VR g (ev x a) (ρ x)) :
    OG P B0 g h w (execOp ρ o) (xop o.op (mkTI P) a h) := by
  cases ho : o.op <;> rw [ho] at he <;> try trivial
  case move x =>
    have h1 := he x (by simp [Op.operands])
    exact ⟨.value (ρ x), w, g, ρ x, by simp [execOp, ho], .inl rfl, h1, .refl hr⟩
  case assign x =>
    have h1 := he x (by simp [Op.operands])
    exact ⟨.value (ρ x), w, g, ρ x, by simp [execOp, ho], .inl rfl, h1, .refl hr⟩
  case pick c x y =>
    have hc := he c (by simp [Op.operands])
    have hx := he x (by simp [Op.operands])
    have hy := he y (by simp [Op.operands])
    show OG P B0 g h w _ (oc .no (fun b => .val (bi b (ev x a) (ev y a)) h) (asBool (ev c a)))
    generalize ev c a = ca at hc
    generalize hcv : ρ c = cv at hc
    cases h1 : asBool ca with
    | none => trivial
    | some b =>
      have := asBool_some h1; subst this
      cases hc
      cases b
      · exact ⟨.value (ρ y), w, g, ρ y, by simp [execOp, ho, hcv, Go.asBool], .inl rfl, hy, .refl hr⟩
      · exact ⟨.value (ρ x), w, g, ρ x, by simp [execOp, ho, hcv, Go.asBool], .inl rfl, hx, .refl hr⟩
  case alloc e => simp only [execOp, ho]; exact OG.of_VG (alloc_good hr hB hp hgr e)
  case box e x => simp only [execOp, ho]; exact OG.of_VG (box_good hr hB hp hgr e _ _ (he x (by simp [Op.operands])))
  case build t ps =>
    simp only [execOp, ho]
    refine OG.of_VG (build_good hr t _ _ ?_)
    rw [Array.toList_map]
    exact prs_PRs _ (fun p hp => he p.2 (by simp [Op.operands]; exact ⟨p.1, by simpa using hp⟩))
  case buildSlice t n ps =>
    simp only [execOp, ho]
    refine OG.of_VG (buildSlice_good hr hB hp hgr t n _ _ ?_)
    rw [Array.toList_map]
    exact prs_PRs _ (fun p hp => he p.2 (by simp [Op.operands]; exact ⟨p.1, by simpa using hp⟩))
  case insert t m k v => simp only [execOp, ho]; exact OG.of_UG (mapUpdate_good hr hm t _ _ _ _ _ _ (he m (by simp [Op.operands])) (he k (by simp [Op.operands])) (he v (by simp [Op.operands])))
  case load t x => simp only [execOp, ho]; exact OG.of_VG (load_good hr t _ _ (he x (by simp [Op.operands])))
  case store t x y => simp only [execOp, ho]; exact OG.of_UG (store_good hr hm t _ _ _ _ (he x (by simp [Op.operands])) (he y (by simp [Op.operands])))
  case nilCheck x => exact nilCheck_good hr _ _ (he x (by simp [Op.operands])) ho rfl
  case binOp op t x y u => simp only [execOp, ho]; exact OG.of_VG (binop_good hr op t _ _ _ _ _ _ (he x (by simp [Op.operands])) (he y (by simp [Op.operands])))
  case unOp op t x => simp only [execOp, ho]; exact OG.of_VG (unop_good hr op _ _ (he x (by simp [Op.operands])))
  case convert s d x => simp only [execOp, ho]; exact OG.of_VG (convert_good hr s d _ _ (he x (by simp [Op.operands])))
  case makeFunc f x y =>
    have h1 : VRs g (evL x.toList a) (x.toList.map ρ) := evL_VRs _ (fun z hz => he z (by simp [Op.operands]; left; simpa using hz))
    have h2 : VRs g (evL y.toList a) (y.toList.map ρ) := evL_VRs _ (fun z hz => he z (by simp [Op.operands]; right; simpa using hz))
    refine ⟨.value (.func f (x.map ρ) (y.map ρ)), w, g, _, by simp [execOp, ho, Instr.makeFunc], .inl rfl, ?_, .refl hr⟩
    have := VR.fn (g := g) f _ _ _ _ h1 h2
    have e1 : (x.toList.map ρ).toArray = x.map ρ := Array.ext' (by simp)
    have e2 : (y.toList.map ρ).toArray = y.map ρ := Array.ext' (by simp)
    rw [e1, e2] at this
    exact this
  case makeMap t r =>
    cases r with
    | some x => trivial
    | none =>
      unfold execOp
      rw [ho]
      exact OG.of_VG (makeMap_good hr hB hp hgr t)
  case makeSlice t l c => simp only [execOp, ho]; exact OG.of_VG (makeSlice_good hr hB hp hgr t _ _ _ _ (he l (by simp [Op.operands])) (he c (by simp [Op.operands])))
  case slice t x lo hi mx =>
    simp only [execOp, ho]
    exact OG.of_VG (slice_good hr t _ _ (he x (by simp [Op.operands])) _ _ _ _ _ _ (evO_OR lo (fun y hy => he y (by subst hy; simp [Op.operands]))) (evO_OR hi (fun y hy => he y (by subst hy; simp [Op.operands]))) (evO_OR mx (fun y hy => he y (by subst hy; simp [Op.operands]))))
  case fieldAddr t x f => simp only [execOp, ho]; exact OG.of_VG (fieldAddr_good hr t f _ _ (he x (by simp [Op.operands])))
  case field t x f => simp only [execOp, ho]; exact OG.of_VG (field_good hr t f _ _ (he x (by simp [Op.operands])))
  case indexAddr t x i => simp only [execOp, ho]; exact OG.of_VG (indexAddr_good hr t _ _ _ _ (he x (by simp [Op.operands])) (he i (by simp [Op.operands])))
  case index t x i => simp only [execOp, ho]; exact OG.of_VG (index_good hr t _ _ _ _ (he x (by simp [Op.operands])) (he i (by simp [Op.operands])))
  case lookup t x i ok => simp only [execOp, ho]; exact OG.of_VG (lookup_good hr t ok _ _ _ _ (he x (by simp [Op.operands])) (he i (by simp [Op.operands])))
  case mapUpdate t m k v => simp only [execOp, ho]; exact OG.of_UG (mapUpdate_good hr hm t _ _ _ _ _ _ (he m (by simp [Op.operands])) (he k (by simp [Op.operands])) (he v (by simp [Op.operands])))
  case mapEntry t m k => simp only [execOp, ho]; exact OG.of_VG (mapEntry_good hr hm t _ _ _ _ (he m (by simp [Op.operands])) (he k (by simp [Op.operands])))
  case entryStore t m s v => simp only [execOp, ho]; exact OG.of_UG (entryStore_good hr hm t _ _ _ _ _ _ (he m (by simp [Op.operands])) (he s (by simp [Op.operands])) (he v (by simp [Op.operands])))
  case range t x => simp only [execOp, ho]; exact OG.of_VG (range_good hr hB hp hgr t _ _ (he x (by simp [Op.operands])))
  case next x s => simp only [execOp, ho]; exact OG.of_VG (next_good hr hm o.type _ _ (he x (by simp [Op.operands])) s)
  case entry x => simp only [execOp, ho]; exact OG.of_VG (entry_good hr _ _ (he x (by simp [Op.operands])))
  case extract x i => simp only [execOp, ho]; exact OG.of_VG (extract_good hr _ _ (he x (by simp [Op.operands])) i)
  case call c =>
    obtain ⟨callee, args, ts⟩ := c
    have hargs : VRs g (evL args.toList a) (args.toList.map ρ) := evL_VRs _ (fun x hx => he x (by simp [Op.operands, Call.operands]; right; simpa using hx))
    cases callee with
    | invoke r m => trivial
    | builtin b =>
      have := builtin_good (P := P) hr hB hm hp hgr b ts o.type (args.map fun | .const _ => true | _ => false) _ _ hargs
      have e : execOp ρ o = builtin b ts o.type (args.map fun | .const _ => true | _ => false) (args.toList.map ρ).toArray := by
        simp only [execOp, ho, resolve, invoke]
        have : (args.toList.map ρ).toArray = args.map ρ := Array.ext' (by simp)
        rw [this]
        rfl
      rw [e]
      exact this
    | value f =>
      have hf := he f (by simp [Op.operands, Call.operands])
      show OG P B0 g h w _ (callV (ev f a) (evL args.toList a) h)
      generalize hfe : ev f a = fa at hf
      generalize hfv : ρ f = fv at hf
      cases hf <;> try trivial
      rename_i ff xs ys xs' ys' h1 h2
      show OG P B0 g h w _ (oc .no (fun f => .call f (app xs (app (evL args.toList a) ys)) h) (fnId ff))
      cases hid : fnId ff with
      | none => trivial
      | some i =>
        have := fnId_some hid; subst this
        refine ⟨rfl, xs' ++ (args.toList.map ρ ++ ys'), ?_, ?_⟩
        · rw [app_eq, app_eq]
          exact h1.append (hargs.append h2)
        · have e : (xs' ++ (List.map ρ args.toList ++ ys')).toArray = xs'.toArray ++ (Array.map ρ args ++ ys'.toArray) := Array.ext' (by simp)
          rw [e]
          simp only [execOp, ho, resolve, hfv, Deferred.ofValue, invoke]
          simp
theorem callFunc_enter {f : FuncId} {fn : Func} (hf : P.funcs[f]? = some fn) (hn : (fn.name == "runtime.NumGoroutine") = false) (hb : fn.body.isSome = true) (args : Array Value) (w : World) : (callFunc f args).run P w = .ok (.enter f args) w := by
  have hn' : ¬ fn.name = "runtime.NumGoroutine" := by simpa using hn
  have hb' : ¬ fn.body = none := by intro e; rw [e] at hb; cases hb
  simp [callFunc, hf, hn', hb', Result.andThen]
end
end Go.Proofs.YtimjbojoeacaeaaDoor.Kx
