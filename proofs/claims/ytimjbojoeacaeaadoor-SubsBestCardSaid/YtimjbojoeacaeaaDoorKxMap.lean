/- The evaluator's maps. -/
import Derived.Test.YtimjbojoeacaeaaDoorKxApp2
namespace Go.Proofs.YtimjbojoeacaeaaDoor.Kx
section
variable {P : Program} {B0 : Nat} {g : G} {h : H} {w : World}

theorem ba_beq (a b : ByteArray) : (a == b) = (byteL a.data.toList == byteL b.data.toList) := by
  rw [byteL_beq]
  cases a with | mk x =>
  cases b with | mk y =>
  have : ((ByteArray.mk x) == (ByteArray.mk y)) = (x == y) := rfl
  rw [this]
  simp
theorem keyEq_ok {d : TypeDesc} {x y : AV} {xv yv : Value} (hx : VR g x xv) (hy : VR g y yv) {b : Bool} (e : keyEq (kOf d) x y = some b) : Instr.sameNow d xv yv = some b := by
  cases d
  case int k =>
    replace e : keyI x y = some b := e
    unfold keyI at e
    cases h1 : asInt x with
    | none => rw [h1] at e; cases e
    | some p =>
      cases h2 : asInt y with
      | none => rw [h1, h2] at e; cases e
      | some q =>
        rw [h1, h2] at e
        simp only [oc_some] at e
        have := asInt_some h1; subst this
        have := asInt_some h2; subst this
        cases hx; cases hy
        cases hk : Nat.beq (ikN p.1) (ikN q.1)
        · rw [hk] at e; cases e
        · rw [hk, bi_true] at e
          injection e with e
          rw [ieq_eq] at e
          simp [Instr.sameNow, ikN_inj hk, e]
  case string =>
    replace e : keyS x y = some b := e
    unfold keyS at e
    cases h1 : asStr x with
    | none => rw [h1] at e; cases e
    | some p =>
      cases h2 : asStr y with
      | none => rw [h1, h2] at e; cases e
      | some q =>
        rw [h1, h2] at e
        simp only [oc_some] at e
        have := asStr_some h1; subst this
        have := asStr_some h2; subst this
        obtain ⟨s, rfl, rfl⟩ := hx.str_inv
        obtain ⟨s', rfl, rfl⟩ := hy.str_inv
        injection e with e
        rw [lbeq_eq] at e
        simp only [Instr.sameNow]
        rw [ba_beq, e]
  case bool =>
    replace e : eqB x y = some b := e
    obtain ⟨p, q, rfl, rfl, rfl⟩ := eqB_some e
    cases hx; cases hy
    rfl
  all_goals cases e
theorem sameNow_eq {d : TypeDesc} {a b : Value} (h : Instr.sameNow d a b = some true) : b = a ∧ Instr.sameBits 10000 a a = true := by
  cases d <;> cases a <;> cases b <;> first | (cases h; done) | skip
  · rename_i x y
    have : x = y := by simpa [Instr.sameNow] using h
    subst this
    exact ⟨rfl, by simp [Instr.sameBits]⟩
  · rename_i k0 k x k' y
    unfold Instr.sameNow at h
    simp only at h
    split at h
    · rename_i hk
      have : x = y := by simpa using h
      subst this; subst hk
      exact ⟨rfl, by simp [Instr.sameBits]⟩
    · cases h
  · rename_i x y
    have hxy : (x == y) = true := by simpa [Instr.sameNow] using h
    rw [ba_beq] at hxy
    have : x = y := by
      have h2 : byteL x.data.toList = byteL y.data.toList := by simpa using hxy
      have h3 : (x.data.toList == y.data.toList) = true := by rw [← byteL_beq]; simpa using h2
      cases x; cases y
      simpa using h3
    subst this
    exact ⟨rfl, by show (x == x) = true; rw [ba_beq]; simp⟩
/-- What is found. -/
inductive FR (g : G) (xv : Value) (es : List (AV × AV × Nat)) (es' : List MapEntry) : Option (Nat × AV × Nat) → Option (Nat × Value) → Prop where
  | none : FR g xv es es' none none
  | some (i : Nat) (v : AV) (n : Nat) (v' : Value) (e : MapEntry) (hv : VR g v v') (he : es'[i]? = some e) (hb : e.born = n) (hev : e.val = v') (hk : e.key = xv) (hsb : Instr.sameBits 10000 xv xv = true) : FR g xv es es' (some (i, v, n)) (some (i, v'))
theorem keyEqM_ok {d : TypeDesc} {x y : AV} {xv yv : Value} (hx : VR g x xv) (hy : VR g y yv) {b : Bool} (e : keyEqM (kOf d) x y = some b) : Instr.sameNow d xv yv = some b := by
  unfold keyEqM at e
  cases hz : asXi x with
  | none => rw [hz, oc_none] at e; exact keyEq_ok hx hy e
  | some z =>
    rw [hz, oc_some] at e
    have := asXi_some hz; subst this
    cases hi : isIntK (kOf d)
    · rw [hi] at e; cases e
    rw [hi, bi_true] at e
    cases d <;> first | (cases hi; done) | skip
    unfold keyXi at e
    cases h2 : asInt y with
    | none => rw [h2] at e; cases e
    | some q =>
      rw [h2, oc_some] at e
      have := asInt_some h2; subst this
      cases hx with | xi _ n _ hl hh =>
      cases hy
      cases hk : Nat.beq (ikN q.1) 3
      · rw [hk] at e; cases e
      rw [hk, bi_true, ilt_eq, ilt_eq] at e
      have hk : q.1 = .i64 := ikN_inj (k' := .i64) hk
      have hne : n ≠ q.2 ∧ b = false := by
        cases e1 : decide (q.2 < z.lo)
        · rw [e1, bi_false] at e
          cases e2 : decide (z.hi < q.2)
          · rw [e2] at e; cases e
          · rw [e2, bi_true] at e
            injection e with e
            simp at e2
            exact ⟨by omega, e.symm⟩
        · rw [e1, bi_true] at e
          injection e with e
          simp at e1
          exact ⟨by omega, e.symm⟩
      have h3 : (n == q.2) = false := by simpa using hne.1
      simp [Instr.sameNow, hk, hne.2, hne.1]
theorem findL_ok {d : TypeDesc} {x : AV} {xv : Value} (hx : VR g x xv) {es0 : List (AV × AV × Nat)} {es0' : List MapEntry} {es : List (AV × AV × Nat)} {es' : List MapEntry} (he : ER g es es') :
    ∀ (i : Nat), (∀ j e, es'[j]? = some e → es0'[i + j]? = some e) → ∀ {r}, findL (kOf d) x es i = some r → ∃ r', Instr.findNow d xv es' i = some r' ∧ FR g xv es0 es0' r r' := by
  induction he with
  | nil => intro i _ r hr; injection hr with hr; subst hr; exact ⟨none, rfl, .none⟩
  | cons k v n k' v' l l' hk hv _ ih =>
    intro i hat r hr
    have hr : oc none (fun b => bi b (some (some (i, v, n))) (findL (kOf d) x l (i + 1))) (keyEqM (kOf d) x k) = some r := hr
    cases hq : keyEqM (kOf d) x k with
    | none => rw [hq] at hr; cases hr
    | some b =>
      rw [hq] at hr
      have hs := keyEqM_ok hx hk hq
      cases b
      · simp only [oc_some, bi_false] at hr
        obtain ⟨r', a1, a2⟩ := ih (i + 1) (fun j e hj => by have := hat (j + 1) e (by simpa using hj); rwa [show i + (j + 1) = i + 1 + j by omega] at this) hr
        exact ⟨r', by simp [Instr.findNow, hs, a1], a2⟩
      · simp only [oc_some, bi_true] at hr
        injection hr with hr
        subst hr
        have := hat 0 ⟨k', v', n⟩ rfl
        exact ⟨some (i, v'), by simp [Instr.findNow, hs], .some i v n v' ⟨k', v', n⟩ hv (by simpa using this) rfl rfl (sameNow_eq hs).1 (sameNow_eq hs).2⟩
theorem checkKey_ok {kt : TypeId} {d : TypeDesc} (hu : P.underlying kt = some d) (hk : keyKind (kOf d) = true) (emp : Bool) (xv : Value) (w : World) : (Instr.checkKey emp 10000 kt xv).run P w = .ok () w := by
  show (Instr.checkKey emp (9999 + 1) kt xv).run P w = .ok () w
  rw [Instr.checkKey]
  cases d <;> first | (cases hk; done) | simp [run_underlying hu, Result.andThen]
theorem findK_ok {kt : TypeId} {x : AV} {xv : Value} (hx : VR g x xv) {es : List (AV × AV × Nat)} {es' : List MapEntry} (he : ER g es es') {r : Option (Nat × AV × Nat)} (e : findK (mkTI P kt) x es = some r) :
    ∃ r', (∀ w, (Instr.findKey kt xv es').run P w = .ok r' w) ∧ FR g xv es es' r r' ∧ ∀ emp w, (Instr.checkKey emp 10000 kt xv).run P w = .ok () w := by
  unfold findK at e
  cases ht : mkTI P kt with
  | none => rw [ht] at e; cases e
  | some ti =>
    rw [ht] at e
    obtain ⟨d, hd, hk⟩ := (mkTI_some ht).und
    simp only [oc_some, hk] at e
    cases hkk : keyKind (kOf d)
    · rw [hkk] at e; cases e
    · rw [hkk, bi_true] at e
      obtain ⟨r', a1, a2⟩ := findL_ok (es0 := es) (es0' := es') hx he 0 (fun j e h => by simpa using h) e
      exact ⟨r', fun w => by simp [Instr.findKey, run_underlying hd, a1, Result.andThen], a2, fun emp w => checkKey_ok hd hkk emp xv w⟩
theorem mapT_some {t : TypeId} {q : TypeId × TypeId} (e : mapT (mkTI P t) = some q) : P.underlying t = some (.map q.1 q.2) := by
  unfold mapT at e
  cases ht : mkTI P t with
  | none => rw [ht] at e; cases e
  | some ti =>
    rw [ht] at e
    exact (mkTI_some ht).map (mapK_some e)
theorem lkRes_ok {xv : Value} (hr : HR B0 g h w) {te : TI} {e : TypeId} (hTe : TOk P e te) (ok : Bool) {es : List (AV × AV × Nat)} {es' : List MapEntry} {r : Option (Nat × AV × Nat)} {r' : Option (Nat × Value)} (hf : FR g xv es es' r r') {s : Sem Value}
    (hs1 : r' = none → ∀ z, (∀ w, (zeroValue e).run P w = .ok z w) → s.run P w = .ok (if ok then .tuple #[z, .bool false] else z) w)
    (hs2 : ∀ i v', r' = some (i, v') → s.run P w = .ok (if ok then .tuple #[v', .bool true] else v') w) : VG P B0 g h w s (lkRes h ok te r) := by
  obtain ⟨z, hz, hzv⟩ := hTe.zero1 g
  cases hf with
  | none =>
    have := hs1 rfl z hz
    cases ok
    · exact VG.same hr this hzv
    · exact VG.same hr (v' := .tuple #[z, .bool false]) this (.tup _ [z, .bool false] (.cons _ _ _ _ hzv (.cons _ _ _ _ (.bool _) .nil)))
  | some i v n v' e hv he hb hev hkk hsb =>
    have := hs2 i v' rfl
    cases ok
    · exact VG.same hr this hv
    · exact VG.same hr (v' := .tuple #[v', .bool true]) this (.tup _ [v', .bool true] (.cons _ _ _ _ hv (.cons _ _ _ _ (.bool _) .nil)))
theorem lookup_good (hr : HR B0 g h w) (t : TypeId) (ok : Bool) (m k : AV) (mv kv : Value) (hm : VR g m mv) (hk : VR g k kv) : VG P B0 g h w (Instr.lookup t mv kv ok) (xLookup (mkTI P) h ok m k (mapT (mkTI P t))) := by
  unfold xLookup
  cases hq : mapT (mkTI P t) with
  | none => trivial
  | some q =>
    have hu := mapT_some hq
    simp only [oc_some]
    cases hte : mkTI P q.2 with
    | none => trivial
    | some te =>
      have hTe := mkTI_some hte
      simp only [oc_some]
      unfold lk1
      cases h1 : asMap m with
      | none =>
        simp only [oc_none]
        cases hn : isNilm m
        · trivial
        · have := isNilm_true hn; subst this
          cases hm
          rw [bi_true]
          cases hf : findK (mkTI P q.1) k [] with
          | none => trivial
          | some r =>
            obtain ⟨r', a1, a2, a3⟩ := findK_ok (P := P) hk (.nil : ER g [] []) hf
            simp only [oc_some]
            refine lkRes_ok hr hTe ok a2 (fun e z hz => ?_) (fun i v' e => ?_)
            · subst e; cases ok <;> simp [Instr.lookup, run_underlying hu, a3, a1, hz, Result.andThen]
            · subst e; cases ok <;> simp [Instr.lookup, run_underlying hu, a3, a1, Result.andThen]
      | some b =>
        have := asMap_some h1; subst this
        cases hm with | map _ B hp =>
        simp only [oc_some]
        cases hob : objMap (h.m.get b) with
        | none => trivial
        | some mp =>
          simp only [oc_some]
          cases hf : findK (mkTI P q.1) k mp.es with
          | none => trivial
          | some r =>
            obtain ⟨_, es', e1, e2⟩ := hr.maps b mp.es mp.clock B 0 (objMap_some hob) hp
            obtain ⟨r', a1, a2, a3⟩ := findK_ok (P := P) hk e2 hf
            simp only [oc_some]
            have hg : (getObj B).run P w = .ok (.map es' mp.clock) w := by simp [getObj, Sem.run, e1]
            refine lkRes_ok hr hTe ok a2 (fun e z hz => ?_) (fun i v' e => ?_)
            · subst e; cases ok <;> simp [Instr.lookup, run_underlying hu, hg, a3, a1, hz, Result.andThen]
            · subst e; cases ok <;> simp [Instr.lookup, run_underlying hu, hg, a3, a1, Result.andThen]

/-! Entries written. -/
theorem ER.append {es es2 : List (AV × AV × Nat)} {es' es2' : List MapEntry} (h : ER g es es') (h2 : ER g es2 es2') : ER g (es ++ es2) (es' ++ es2') := by
  induction h with
  | nil => exact h2
  | cons k v n k' v' l l' hk hv _ ih => exact .cons k v n k' v' _ _ hk hv ih
theorem run_setObj (w : World) (B : Nat) (es es2 : Array MapEntry) (c c2 : Nat) (hb : w.heap[B]? = some (.map es c)) : (setObj B (.map es2 c2)).run P w = .ok () (wset w B (.map es2 c2)) := by
  simp [setObj, Sem.run, hb, wset]
theorem run_getMap (w : World) (B : Nat) (es : Array MapEntry) (c : Nat) (hb : w.heap[B]? = some (.map es c)) : (getObj B).run P w = .ok (.map es c) w := by
  simp [getObj, Sem.run, hb]
theorem Tr.map (hr : HR B0 g h w) (hm : ∀ b o, h.m.get b = some o → b < h.next) {b B : Nat} {mp : Mp} (hob : objMap (h.m.get b) = some mp) (hp : g.pos b = some (B, 0)) (es : List (AV × AV × Nat)) (es' : Array MapEntry) (c : Nat) (he : ER g es es'.toList) :
    Tr B0 g h w g (h.upd b (.map es c)) (wset w B (.map es' c)) := by
  have hg := objMap_some hob
  obtain ⟨_, es0, e1, _⟩ := hr.maps b mp.es mp.clock B 0 hg hp
  have hB : B < w.heap.size := (Array.getElem?_eq_some_iff.1 e1).1
  refine Tr.write hr b B 0 ⟨_, hg, by simp⟩ (hm _ _ hg) hp _ (fun B' hB' => wset_other _ _ _ _ hB') (wset_size _ _ _) rfl rfl rfl (fun l t e => by cases e) (fun es1 c1 e => ?_)
  injection e with e1 e2
  subst e1; subst e2
  exact ⟨rfl, es', wset_same _ _ _ hB, he⟩
theorem setAt_ok {v : AV} {vv : Value} (hv : VR g v vv) {es : List (AV × AV × Nat)} {es' : List MapEntry} (h : ER g es es') : ∀ i, ER g (setAt v es i) (es'.modify i fun e => { e with val := vv }) := by
  induction h with
  | nil => intro i; cases i <;> exact .nil
  | cons k v0 n k' v0' l l' hk hv0 hs ih =>
    intro i
    show ER g (bi (Nat.beq i 0) ((k, v, n) :: l) ((k, v0, n) :: setAt v l (i - 1))) _
    cases i with
    | zero => exact .cons k v n k' vv l l' hk hv hs
    | succ i => exact .cons k v0 n k' v0' _ _ hk hv0 (ih i)
theorem delAt_ok {es : List (AV × AV × Nat)} {es' : List MapEntry} (h : ER g es es') : ∀ i, ER g (delAt es i) (es'.eraseIdx i) := by
  induction h with
  | nil => intro i; cases i <;> exact .nil
  | cons k v0 n k' v0' l l' hk hv0 hs ih =>
    intro i
    show ER g (bi (Nat.beq i 0) l ((k, v0, n) :: delAt l (i - 1))) _
    cases i with
    | zero => exact hs
    | succ i => exact .cons k v0 n k' v0' _ _ hk hv0 (ih i)
theorem bornAt_ok {es : List (AV × AV × Nat)} {es' : List MapEntry} (h : ER g es es') (n : Nat) : ∀ i j, bornAt n es i = some j → ∃ m, j = i + m ∧ es'.findIdx? (fun e => (e.born : Int) == (n : Int)) = some m := by
  induction h with
  | nil => intro i j e; cases e
  | cons k v0 b k' v0' l l' hk hv0 hs ih =>
    intro i j e
    have e : bi (Nat.beq b n) (some i) (bornAt n l (i + 1)) = some j := e
    cases hb : Nat.beq b n
    · rw [hb, bi_false] at e
      obtain ⟨m, e1, e2⟩ := ih (i + 1) j e
      have hne : ((b : Int) == (n : Int)) = false := by
        have := Nat.ne_of_beq_eq_false hb
        simp
        omega
      exact ⟨m + 1, by omega, by rw [List.findIdx?_cons]; simp only [hne]; rw [e2]; rfl⟩
    · rw [hb, bi_true] at e
      injection e with e
      have := Nat.eq_of_beq_eq_true hb
      subst this
      exact ⟨0, by omega, by rw [List.findIdx?_cons]; simp⟩
theorem entryStore_good (hr : HR B0 g h w) (hm : ∀ b o, h.m.get b = some o → b < h.next) (t : TypeId) (m s v : AV) (mv sv vv : Value) (hmv : VR g m mv) (hs : VR g s sv) (hv : VR g v vv) : UG P B0 g h w (Instr.entryStore t mv sv vv) (xEntryStore h v m (intNat s)) := by
  unfold xEntryStore
  cases h1 : asMap m with
  | none => trivial
  | some b =>
    have := asMap_some h1; subst this
    cases hmv with | map _ B hp =>
    simp only [oc_some]
    cases hob : objMap (h.m.get b) with
    | none => trivial
    | some mp =>
      simp only [oc_some]
      cases h2 : intNat s with
      | none => trivial
      | some n =>
        obtain ⟨k, rfl⟩ := intNat_some h2
        cases hs
        simp only [oc_some]
        cases hb : bornAt n mp.es 0 with
        | none => trivial
        | some i =>
          obtain ⟨_, es', e1, e2⟩ := hr.maps b mp.es mp.clock B 0 (objMap_some hob) hp
          obtain ⟨j, hj, hfi⟩ := bornAt_ok e2 n 0 i hb
          have hij : i = j := by omega
          subst hij
          have hfi' : es'.findIdx? (fun e => (e.born : Int) == (n : Int)) = some i := by obtain ⟨l⟩ := es'; simpa using hfi
          refine ⟨rfl, wset w B (.map (es'.modify i fun e => { e with val := vv }) mp.clock), ?_, g, Tr.map hr hm hob hp _ _ _ (by rw [Array.toList_modify]; exact setAt_ok hv e2 i)⟩
          simp [Instr.entryStore, run_getMap w B es' mp.clock e1, Go.asInt, Go.asIntOf, hfi', run_setObj w B es' _ mp.clock _ e1, Result.andThen]

theorem modify_key (es : Array MapEntry) (i : Nat) (e : MapEntry) (he : es[i]? = some e) : (es.modify i fun x => { x with key := e.key }) = es := by
  apply Array.ext
  · simp
  · intro j h1 h2
    rw [Array.getElem_modify]
    split
    · rename_i hj
      subst hj
      rw [Array.getElem?_eq_getElem h2] at he
      injection he with he
      rw [he]
    · rfl
theorem delete_good (hr : HR B0 g h w) (hm : ∀ b o, h.m.get b = some o → b < h.next) (t ty kt0 : TypeId) (m k : AV) (mv kv : Value) (hmv : VR g m mv) (hk : VR g k kv) : VG P B0 g h w (Builtin.delete_ #[t, kt0] ty #[mv, kv]) (xDelete (mkTI P) h k m (mapT (mkTI P t))) := by
  unfold xDelete
  cases hq : mapT (mkTI P t) with
  | none => trivial
  | some q =>
    have hu := mapT_some hq
    simp only [oc_some]
    cases h1 : asMap m with
    | none => trivial
    | some b =>
      have := asMap_some h1; subst this
      cases hmv with | map _ B hp =>
      simp only [oc_some]
      cases hob : objMap (h.m.get b) with
      | none => trivial
      | some mp =>
        simp only [oc_some]
        cases hf : findK (mkTI P q.1) k mp.es with
        | none => trivial
        | some r =>
          obtain ⟨_, es', e1, e2⟩ := hr.maps b mp.es mp.clock B 0 (objMap_some hob) hp
          obtain ⟨r', a1, a2, a3⟩ := findK_ok (P := P) hk e2 hf
          simp only [oc_some]
          cases a2 with
          | none =>
            refine VG.same hr (v' := .tuple #[]) ?_ (.tup _ [] .nil)
            have := run_setObj w B es' es' mp.clock mp.clock e1 (P := P)
            rw [wset_self w B _ e1] at this
            simp [Builtin.delete_, run_underlying hu, run_getMap w B es' mp.clock e1, a3, a1, this, Result.andThen]
          | some i v n v' e hv he hb hev hkk hsb =>
            refine ⟨.tuple #[], wset w B (.map (es'.eraseIdxIfInBounds i) mp.clock), g, ?_, .tup _ [] .nil, Tr.map hr hm hob hp _ _ _ ?_⟩
            · simp [Builtin.delete_, run_underlying hu, run_getMap w B es' mp.clock e1, a3, a1, run_setObj w B es' _ mp.clock _ e1, Result.andThen]
            · have := delAt_ok e2 i
              have hi : i < es'.size := by have := (List.getElem?_eq_some_iff.1 he).1; simpa using this
              have e : (es'.eraseIdxIfInBounds i).toList = es'.toList.eraseIdx i := by simp [Array.eraseIdxIfInBounds, hi]
              rw [e]
              exact this
theorem mapEntry_good (hr : HR B0 g h w) (hm : ∀ b o, h.m.get b = some o → b < h.next) (t : TypeId) (m k : AV) (mv kv : Value) (hmv : VR g m mv) (hk : VR g k kv) : VG P B0 g h w (Instr.mapEntry t mv kv) (xMapEntry (mkTI P) h m k (mapT (mkTI P t))) := by
  unfold xMapEntry
  cases hq : mapT (mkTI P t) with
  | none => trivial
  | some q =>
    have hu := mapT_some hq
    simp only [oc_some]
    cases hte : mkTI P q.2 with
    | none => trivial
    | some te =>
      have hTe := mkTI_some hte
      obtain ⟨z, hz, hzv⟩ := hTe.zero1 g
      simp only [oc_some]
      unfold me1
      cases h1 : asMap m with
      | none => trivial
      | some b =>
        have := asMap_some h1; subst this
        cases hmv with | map _ B hp =>
        simp only [oc_some]
        cases hob : objMap (h.m.get b) with
        | none => trivial
        | some mp =>
          simp only [oc_some]
          cases hf : findK (mkTI P q.1) k mp.es with
          | none => trivial
          | some r =>
            obtain ⟨_, es', e1, e2⟩ := hr.maps b mp.es mp.clock B 0 (objMap_some hob) hp
            obtain ⟨r', a1, a2, a3⟩ := findK_ok (P := P) hk e2 hf
            simp only [oc_some]
            cases a2 with
            | none =>
              refine ⟨.tuple #[z, goInt mp.clock], wset w B (.map (es'.push { key := kv, val := z, born := mp.clock }) (mp.clock + 1)), g, ?_, .tup _ [z, goInt mp.clock] (.cons _ _ _ _ hzv (.cons _ _ _ _ (.int _ _) .nil)), Tr.map hr hm hob hp _ _ _ ?_⟩
              · simp [Instr.mapEntry, run_underlying hu, run_getMap w B es' mp.clock e1, a3, a1, hz, run_setObj w B es' _ mp.clock _ e1, Result.andThen]
              · rw [app_eq, Array.toList_push]
                exact e2.append (.cons _ _ _ _ _ _ _ hk hzv .nil)
            | some i v n v' e hv he hb hev hkk hsb =>
              refine VG.same hr (v' := .tuple #[v', goInt n]) ?_ (.tup _ [v', goInt n] (.cons _ _ _ _ hv (.cons _ _ _ _ (.int _ _) .nil)))
              have he' : es'[i]? = some e := by simpa using he
              have hmod := modify_key es' i e he'
              rw [hkk] at hmod
              have := run_setObj w B es' es' mp.clock mp.clock e1 (P := P)
              rw [wset_self w B _ e1] at this
              simp [Instr.mapEntry, run_underlying hu, run_getMap w B es' mp.clock e1, a3, a1, he', hkk, Instr.keyThatStays, hsb, hmod, this, hb, Result.andThen]
theorem mapUpdate_good (hr : HR B0 g h w) (hm : ∀ b o, h.m.get b = some o → b < h.next) (t : TypeId) (m k v : AV) (mv kv vv : Value) (hmv : VR g m mv) (hk : VR g k kv) (hvv : VR g v vv) : UG P B0 g h w (Instr.mapUpdate t mv kv vv) (xMapUpdate (mkTI P) h k v m (mapT (mkTI P t))) := by
  unfold xMapUpdate
  cases hq : mapT (mkTI P t) with
  | none => trivial
  | some q =>
    have hu := mapT_some hq
    simp only [oc_some]
    cases h1 : asMap m with
    | none => trivial
    | some b =>
      have := asMap_some h1; subst this
      cases hmv with | map _ B hp =>
      simp only [oc_some]
      cases hob : objMap (h.m.get b) with
      | none => trivial
      | some mp =>
        simp only [oc_some]
        cases hf : findK (mkTI P q.1) k mp.es with
        | none => trivial
        | some r =>
          obtain ⟨_, es', e1, e2⟩ := hr.maps b mp.es mp.clock B 0 (objMap_some hob) hp
          obtain ⟨r', a1, a2, a3⟩ := findK_ok (P := P) hk e2 hf
          simp only [oc_some]
          cases a2 with
          | none =>
            refine ⟨rfl, wset w B (.map (es'.push { key := kv, val := vv, born := mp.clock }) (mp.clock + 1)), ?_, g, Tr.map hr hm hob hp _ _ _ ?_⟩
            · simp [Instr.mapUpdate, run_underlying hu, run_getMap w B es' mp.clock e1, a3, a1, run_setObj w B es' _ mp.clock _ e1, Result.andThen]
            · rw [app_eq, Array.toList_push]
              exact e2.append (.cons _ _ _ _ _ _ _ hk hvv .nil)
          | some i v0 n v' e hv he hb hev hkk hsb =>
            have he' : es'[i]? = some e := by simpa using he
            have hmod : (es'.modify i fun x => { x with key := kv, val := vv }) = es'.modify i fun x => { x with val := vv } := by
              apply Array.ext
              · simp
              · intro j h1 h2
                rw [Array.getElem_modify, Array.getElem_modify]
                split
                · rename_i hj
                  subst hj
                  have hj : i < es'.size := by simpa using h1
                  rw [Array.getElem?_eq_getElem hj] at he'
                  injection he' with he'
                  rw [he', ← hkk]
                · rfl
            refine ⟨rfl, wset w B (.map (es'.modify i fun x => { x with val := vv }) mp.clock), ?_, g, Tr.map hr hm hob hp _ _ _ (by rw [Array.toList_modify]; exact setAt_ok hvv e2 i)⟩
            simp [Instr.mapUpdate, run_underlying hu, run_getMap w B es' mp.clock e1, a3, a1, he', hkk, Instr.keyThatStays, hsb, hmod, run_setObj w B es' _ mp.clock _ e1, Result.andThen]
end
end Go.Proofs.YtimjbojoeacaeaaDoor.Kx
