/- The evaluator's operations: clear; range over a string. -/
import Derived.Test.YtimjbojoeacaeaaDoorKxRest
namespace Go.Proofs.YtimjbojoeacaeaaDoor.Kx
section
variable {P : Program} {B0 : Nat} {g : G} {h : H} {w : World}

theorem clear_good (hr : HR B0 g h w) (hm : ∀ b o, h.m.get b = some o → b < h.next) (t ty : TypeId) (x : AV) (xv : Value) (hx : VR g x xv) : VG P B0 g h w (Builtin.clear_ #[t] ty #[xv]) (xClear (mkTI P) h x (mkTI P t)) := by
  unfold xClear
  cases ht : mkTI P t with
  | none => trivial
  | some ti =>
    have hT := mkTI_some ht
    simp only [oc_some]
    cases hk : ti.kind <;> try trivial
    case slice e =>
      have hu := hT.slice hk
      show VG P B0 g h w _ (oc (bi (isNils x) (.val (.tup []) h) .no) (fun s => oc .no (fun te => clrS h te s) (mkTI P e)) (asSlc x))
      cases h1 : asSlc x with
      | none =>
        simp only [oc_none]
        cases hn : isNils x
        · trivial
        · have := isNils_true hn; subst this
          cases hx
          rw [bi_true]
          exact VG.same hr (v' := .tuple #[]) (by simp [Builtin.clear_, run_underlying hu, Result.andThen]) (.tup [] [] .nil)
      | some sl =>
        have := asSlc_some h1; subst this
        obtain ⟨b, o, n, cp⟩ := sl
        dsimp only at hx ⊢
        simp only [oc_some]
        cases he : mkTI P e with
        | none => trivial
        | some te =>
          simp only [oc_some]
          unfold clrS
          dsimp only
          cases hob : objCells (h.m.get b) with
          | none => trivial
          | some c =>
            simp only [oc_some]
            unfold kUpd
            cases hpu : put o (repl te.zero n) c.1 with
            | none => trivial
            | some r =>
              simp only [oc_some]
              obtain ⟨z, hz, hv, hone, _, _⟩ := (mkTI_some he).zero g
              obtain ⟨B, base, mm, ro, hp, rfl, hro⟩ := hx.slc_form
              obtain ⟨c2, c3⟩ := zeros_VRs hv hone n
              obtain ⟨w1, a1, a2, a3, a4, a5, a6, a7⟩ := (hr.row hob hp).put (P := P) c2 c3 hpu
              refine ⟨.tuple #[], w1, g, ?_, .tup [] [] .nil, Tr.cells hr hm hob hp a2 a3 a4 a5 a6 a7⟩
              cases n with
              | zero =>
                have e0 : ((Array.range (0 * z.cells.size)).map (z.cells[· % z.cells.size]!)).toList = [] := by simp
                rw [e0] at a1
                have : w1 = w := by
                  have a1 : (Result.ok () w : Result Unit) = .ok () w1 := a1
                  injection a1 with _ a1
                  exact a1.symm
                subst this
                simp [Builtin.clear_, run_underlying hu, Result.andThen]
              | succ n =>
                rw [← hro (by omega)] at a1
                have a1 := a1
                simp only [Array.toList_map, Array.toList_range] at a1
                simp [Builtin.clear_, run_underlying hu, Result.andThen, hz, Builtin.zeroCells, a1]
    case map k e =>
      have hu := hT.map hk
      show VG P B0 g h w _ (oc (bi (isNilm x) (.val (.tup []) h) .no) (clrM h) (asMap x))
      cases h1 : asMap x with
      | none =>
        simp only [oc_none]
        cases hn : isNilm x
        · trivial
        · rw [bi_true]
          have : x = .nilm := by cases x <;> first | rfl | cases hn
          subst this
          cases hx
          exact VG.same hr (v' := .tuple #[]) (by simp [Builtin.clear_, run_underlying hu, Result.andThen]) (.tup [] [] .nil)
      | some b =>
        have : x = .map b := by cases x <;> first | (injection h1 with h1; subst h1; rfl) | cases h1
        subst this
        cases hx with | map _ B hp =>
        simp only [oc_some]
        unfold clrM
        cases hob : objMap (h.m.get b) with
        | none => trivial
        | some mp =>
          simp only [oc_some]
          obtain ⟨_, es', e1, e2⟩ := hr.maps b mp.es mp.clock B 0 (objMap_some hob) hp
          refine ⟨.tuple #[], _, g, ?_, .tup [] [] .nil, Tr.map hr hm hob hp [] #[] mp.clock .nil⟩
          simp [Builtin.clear_, run_underlying hu, Result.andThen, run_getMap w B es' mp.clock e1, run_setObj w B es' #[] mp.clock mp.clock e1]
theorem range_good (hr : HR B0 g h w) (hB : B0 ≤ w.heap.size) (hp : g.pos h.next = none) (hgr : g.grow h.next = none) (t : TypeId) (x : AV) (xv : Value) (hx : VR g x xv) : VG P B0 g h w (Instr.range t xv) (xRange h x (mkTI P t)) := by
  unfold xRange
  cases ht : mkTI P t with
  | none => trivial
  | some ti =>
    have hT := mkTI_some ht
    simp only [oc_some]
    cases hks : ti.kind <;> try trivial
    case str =>
      show VG P B0 g h w _ (oc .no (fun l => kNew h (.sit (.s l (nat_lit 0))) fun n => .ptr n 0) (asStr x))
      cases h1 : asStr x with
      | none => trivial
      | some l =>
        have := asStr_some h1; subst this
        obtain ⟨s, rfl, rfl⟩ := hx.str_inv
        simp only [oc_some]
        unfold kNew
        rw [nF_eq]
        refine ⟨.pointer (some ⟨w.heap.size, 0, none⟩), w.alloc (.stringIter s 0), _, ?_, .ptr _ 0 _ 0 (posNew hp none), Tr.alloc hr hB hp hgr _ (.stringIter s 0) none rfl rfl rfl rfl (fun _ _ e => by cases e) (fun _ _ e => by cases e) (fun it e => ?_)⟩
        · simp [Instr.range, run_underlying (hT.str hks), Result.andThen]
        · injection e with e1
          subst e1
          exact .s _ _ s rfl
    case map k e =>
      show VG P B0 g h w _ (oc .no (fun b => oc .no (fun m => kNew h (.sit (.m b m.clock [] m.clock)) fun n => .ptr n 0) (objMap (h.m.get b))) (asMap x))
      cases h1 : asMap x with
      | none => trivial
      | some b =>
        have : x = .map b := by cases x <;> first | (injection h1 with h1; subst h1; rfl) | cases h1
        subst this
        cases hx with | map _ B hpb =>
        simp only [oc_some]
        cases hob : objMap (h.m.get b) with
        | none => trivial
        | some mp =>
          simp only [oc_some]
          obtain ⟨_, es', e1, e2⟩ := hr.maps b mp.es mp.clock B 0 (objMap_some hob) hpb
          have hget : (getObj B).run P w = .ok (.map es' mp.clock) w := by simp [getObj, Sem.run, e1]
          unfold kNew
          rw [nF_eq]
          refine ⟨.pointer (some ⟨w.heap.size, 0, none⟩), w.alloc (.mapIter (some B) mp.clock #[] mp.clock), _, ?_, .ptr _ 0 _ 0 (posNew hp none), Tr.alloc hr hB hp hgr _ (.mapIter (some B) mp.clock #[] mp.clock) none rfl rfl rfl rfl (fun _ _ e => by cases e) (fun _ _ e => by cases e) (fun it e => ?_)⟩
          · simp [Instr.range, run_underlying (hT.map hks), Result.andThen, hget]
          · injection e with e1
            subst e1
            exact .m b B _ [] _ ((G.add_le g h.next w.heap.size 0 none hp hgr).pos _ _ hpb)
theorem objSit_some {o : Option AObj} {s : It} (h : objSit o = some s) : o = some (.sit s) := by
  cases o with
  | none => cases h
  | some o => cases o <;> first | (injection h with h; subst h; rfl) | cases h
theorem byteL_at {l : List UInt8} {i n : Nat} (h : (byteL l)[i]? = some n) : ∃ c, l[i]? = some c ∧ n = c.toNat := by
  induction l generalizing i with
  | nil => cases h
  | cons c r ih =>
    cases i with
    | zero => replace h : some c.toNat = some n := h; injection h with h; exact ⟨c, rfl, h.symm⟩
    | succ i => exact ih (i := i) h
theorem memN_eq (n : Nat) : ∀ l : List Nat, memN n l = l.contains n
  | [] => rfl
  | x :: r => by
    show bi (Nat.beq x n) true (memN n r) = _
    rw [memN_eq n r, List.contains_cons]
    by_cases e : x = n
    · subst e; simp [bi_true]
    · have h1 : Nat.beq x n = false := by cases h : Nat.beq x n <;> first | rfl | exact absurd (Nat.eq_of_beq_eq_true h) e
      have h2 : (n == x) = false := by simpa using fun e' : n = x => e e'.symm
      rw [h1, bi_false, h2, Bool.false_or]
theorem nilN_eq (l : List Nat) : nilN l = l.isEmpty := by cases l <;> rfl
theorem next_good (hr : HR B0 g h w) (hm : ∀ b o, h.m.get b = some o → b < h.next) (ty : TypeId) (x : AV) (xv : Value) (hx : VR g x xv) (isS : Bool) : VG P B0 g h w (Instr.next xv isS ty) (xNext h x isS) := by
  unfold xNext
  cases h1 : asPtr x with
  | none => trivial
  | some p =>
    obtain ⟨b, o⟩ := p
    have := asPtr_some h1; subst this
    simp only [oc_some]
    cases ho : Nat.beq o 0
    · trivial
    have := Nat.eq_of_beq_eq_true ho; subst this
    simp only [bi_true]
    cases hob : objSit (h.m.get b) with
    | none => trivial
    | some s =>
      simp only [oc_some]
      have hg := objSit_some hob
      cases hx with | ptr _ _ B base hp =>
      obtain ⟨rfl, ob, e1, e2⟩ := hr.sits b s B base hg hp
      have hB : B < w.heap.size := (Array.getElem?_eq_some_iff.1 e1).1
      have over : ∀ k, (Instr.next (.pointer (some ⟨B, 0 + 0, none⟩)) isS ty).run P w = .ok (.tuple #[.bool false]) w → VG P B0 g h w (Instr.next (.pointer (some ⟨B, 0 + 0, none⟩)) isS ty) (.val (.tup [.bool false]) k) ∨ k ≠ h := fun k hk => by
        by_cases e : k = h
        · subst e
          exact .inl (VG.same hr (v' := .tuple #[.bool false]) hk (.tup _ [.bool false] (.cons _ _ _ _ (.bool _) .nil)))
        · exact .inr e
      cases e2 with
      | s l pos str e2 =>
        show VG P B0 g h w _ (bi isS (nx1 h b ⟨l, pos⟩) .no)
        cases isS
        · trivial
        rw [bi_true]
        unfold nx1
        rw [idx_eq]
        dsimp only
        have hlen : l.length = str.size := by rw [e2, byteL_length]; simp
        have hget : (getObj B).run P w = .ok (.stringIter str pos) w := by simp [getObj, Sem.run, e1]
        cases hi : l[pos]? with
        | none =>
          have hge : ¬ pos < str.size := by
            have := List.getElem?_eq_none_iff.1 hi
            omega
          simp only [oc_none]
          refine VG.same hr (v' := .tuple #[.bool false]) ?_ (.tup _ [.bool false] (.cons _ _ _ _ (.bool _) .nil))
          simp [Instr.next, hget, hge, Result.andThen]
        | some c =>
          simp only [oc_some]
          cases hc : Nat.blt c 128
          · trivial
          · rw [bi_true, nF_eq]
            have hc : c < 128 := by simpa [Nat.blt_eq] using hc
            have hlt : pos < str.size := by
              have := (List.getElem?_eq_some_iff.1 hi).1
              omega
            obtain ⟨c8, e3, e4⟩ := byteL_at (by rw [← e2]; exact hi)
            have hdec : Utf8.decode str pos = (c, 1) := by
              have hb : (str.get! (pos + 0)).toNat = c := by
                rw [e4]
                have : str.get! (pos + 0) = c8 := by
                  have h3 : str.data[pos]? = some c8 := by simpa using e3
                  show str.data[pos + 0]! = c8
                  rw [Nat.add_zero, Array.getElem!_eq_getD, Array.getD_eq_getD_getElem?, h3]
                  rfl
                rw [this]
              unfold Utf8.decode
              simp only [hb]
              rw [if_pos (by omega)]
            have hset : (setObj B (.stringIter str (pos + 1))).run P w = .ok () (wset w B (.stringIter str (pos + 1))) := by simp [setObj, Sem.run, e1, wset]
            refine ⟨.tuple #[.bool true, goInt pos, .int .i32 c], wset w B (.stringIter str (pos + 1)), g, ?_, .tup _ [.bool true, goInt pos, .int .i32 c] (.cons _ _ _ _ (.bool _) (.cons _ _ _ _ (.int _ _) (.cons _ _ _ _ (.int _ _) .nil))), ?_⟩
            · simp [Instr.next, hget, hlt, hdec, hset, Result.andThen]
            · refine Tr.write hr b B 0 ⟨_, hg, by simp⟩ (hm _ _ hg) hp _ (fun B' hB' => wset_other _ _ _ _ hB') (wset_size _ _ _) rfl rfl rfl (fun _ _ e => by cases e) (fun _ _ e => by cases e) (fun it e => ?_)
              injection e with e5
              subst e5
              exact ⟨rfl, _, wset_same _ _ _ hB, .s _ _ str e2⟩
      | b m M t hpm => trivial
      | m mb M since seen last hpm =>
        show VG P B0 g h w _ (bi isS .no (oc .no (nxM h b mb since seen last) (objMap (h.m.get mb))))
        cases isS
        case true => trivial
        rw [bi_false]
        cases hom : objMap (h.m.get mb) with
        | none => trivial
        | some mp =>
          simp only [oc_some]
          obtain ⟨_, es', m1, m2⟩ := hr.maps mb mp.es mp.clock M 0 (objMap_some hom) hpm
          have hget : (getObj B).run P w = .ok (.mapIter (some M) since seen.toArray last) w := by simp [getObj, Sem.run, e1]
          have hgetM : (getObj M).run P w = .ok (.map es' mp.clock) w := by simp [getObj, Sem.run, m1]
          obtain ⟨es, clock⟩ := mp
          dsimp only at m1 m2 hgetM ⊢
          cases es with
          | nil =>
            have : es' = #[] := by cases hl : es'.toList with
              | nil => exact Array.toList_eq_nil_iff.1 hl
              | cons _ _ => rw [hl] at m2; cases m2
            subst this
            show VG P B0 g h w _ (.val (.tup [.bool false]) h)
            refine VG.same hr (v' := .tuple #[.bool false]) ?_ (.tup _ [.bool false] (.cons _ _ _ _ (.bool _) .nil))
            simp [Instr.next, hget, hgetM, Result.andThen, choose, Sem.run, Question.forced]
          | cons e r =>
            cases r with
            | cons _ _ => trivial
            | nil =>
              obtain ⟨k, v, n⟩ := e
              show VG P B0 g h w _ (nxE h b mb since seen last clock (k, v, n))
              unfold nxE
              dsimp only
              obtain ⟨k', v', hes, hk, hv⟩ : ∃ k' v', es' = #[⟨k', v', n⟩] ∧ VR g k k' ∧ VR g v v' := by
                generalize hl : es'.toList = l at m2
                cases m2 with
                | cons _ _ _ k' v' _ l' hk hv hs =>
                  cases hs
                  exact ⟨k', v', by have := congrArg List.toArray hl; simpa using this, hk, hv⟩
              subst hes
              rw [memN_eq, nilN_eq]
              cases hs : seen.contains n
              · rw [bi_false]
                cases hq : bi seen.isEmpty true (Nat.blt n last)
                · trivial
                rw [bi_true]
                cases hn : Nat.blt n since
                · trivial
                rw [bi_true]
                have hs' : n ∉ seen := by simpa using hs
                have hn' : n < since := by simpa [Nat.blt_eq] using hn
                have hn2 : ¬ since ≤ n := by omega
                have hf : ¬ (¬ seen = [] ∧ last ≤ n) := by
                  cases he : seen.isEmpty
                  · rw [he, bi_false] at hq
                    have : n < last := by simpa [Nat.blt_eq] using hq
                    omega
                  · intro h
                    exact h.1 (by simpa using he)
                have hset : (setObj B (.mapIter (some M) since (seen ++ [n]).toArray clock)).run P w = .ok () (wset w B (.mapIter (some M) since (seen ++ [n]).toArray clock)) := by simp [setObj, Sem.run, e1, wset]
                refine ⟨.tuple #[.bool true, k', v'], wset w B (.mapIter (some M) since (seen ++ [n]).toArray clock), g, ?_, .tup _ [.bool true, k', v'] (.cons _ _ _ _ (.bool _) (.cons _ _ _ _ hk (.cons _ _ _ _ hv .nil))), ?_⟩
                · simp [Instr.next, hget, hgetM, hf, hs', hn', hn2, hset, Result.andThen, choose, Sem.run, Question.forced]
                · refine Tr.write hr b B 0 ⟨_, hg, by simp⟩ (hm _ _ hg) hp _ (fun B' hB' => wset_other _ _ _ _ hB') (wset_size _ _ _) rfl rfl rfl (fun _ _ e => by cases e) (fun _ _ e => by cases e) (fun it e => ?_)
                  injection e with e5
                  subst e5
                  refine ⟨rfl, _, wset_same _ _ _ hB, ?_⟩
                  have := IR.m (g := g) mb M since (app seen [n]) clock hpm
                  rw [app_eq] at this ⊢
                  simpa using this
              · rw [bi_true]
                cases hn : Nat.blt n last
                · trivial
                · rw [bi_true]
                  have hn' : n < last := by simpa [Nat.blt_eq] using hn
                  have hs' : n ∈ seen := by simpa using hs
                  have hf : ¬ (¬ seen = [] ∧ last ≤ n) := by omega
                  refine VG.same hr (v' := .tuple #[.bool false]) ?_ (.tup _ [.bool false] (.cons _ _ _ _ (.bool _) .nil))
                  simp [Instr.next, hget, hgetM, hf, hs', Result.andThen, choose, Sem.run, Question.forced]

theorem lastN_eq : ∀ l : List Nat, lastN l = l.getLast?
  | [] => rfl
  | [x] => rfl
  | x :: y :: r => by
    show oc (some x) (fun y => some y) (lastN (y :: r)) = _
    rw [lastN_eq (y :: r), List.getLast?_cons_cons, List.getLast?_cons]
    rfl
theorem findE_ER {n : Nat} : ∀ {es : List (AV × AV × Nat)} {es' : List MapEntry} {e : AV × AV}, findE n es = some e → ER g es es' → ∃ e', es'.find? (fun x => x.born == n) = some e' ∧ VR g e.1 e'.key ∧ VR g e.2 e'.val
  | [], _, _, h, _ => by cases h
  | x :: r, _, e, h, hr => by
    cases hr with | cons k v m k' v' _ l' hk hv hs =>
    replace h : bi (Nat.beq m n) (some (k, v)) (findE n r) = some e := h
    cases hb : Nat.beq m n
    · rw [hb, bi_false] at h
      obtain ⟨e', h1, h2⟩ := findE_ER h hs
      have hne : (m == n) = false := by simpa using Nat.ne_of_beq_eq_false hb
      exact ⟨e', by rw [List.find?_cons]; simp only [hne]; exact h1, h2⟩
    · rw [hb, bi_true] at h
      injection h with h
      subst h
      have hne : (m == n) = true := by simpa using Nat.eq_of_beq_eq_true hb
      exact ⟨⟨k', v', m⟩, by rw [List.find?_cons]; simp only [hne], hk, hv⟩
theorem entry_good (hr : HR B0 g h w) (x : AV) (xv : Value) (hx : VR g x xv) : VG P B0 g h w (Instr.entry xv) (xEntry h x) := by
  unfold xEntry
  cases h1 : asPtr x with
  | none => trivial
  | some p =>
    obtain ⟨b, o⟩ := p
    have := asPtr_some h1; subst this
    simp only [oc_some]
    cases ho : Nat.beq o 0
    · trivial
    have := Nat.eq_of_beq_eq_true ho; subst this
    simp only [bi_true]
    cases hob : objSit (h.m.get b) with
    | none => trivial
    | some s =>
      simp only [oc_some]
      have hg := objSit_some hob
      cases hx with | ptr _ _ B base hp =>
      obtain ⟨rfl, ob, e1, e2⟩ := hr.sits b s B base hg hp
      cases e2 with
      | s l pos str e2 => trivial
      | b m M t hpm => trivial
      | m mb M since seen last hpm =>
        show VG P B0 g h w _ (oc .no (fun n => oc .no (enM h last n) (objMap (h.m.get mb))) (lastN seen))
        cases hl : lastN seen with
        | none => trivial
        | some n =>
          simp only [oc_some]
          cases hom : objMap (h.m.get mb) with
          | none => trivial
          | some mp =>
            simp only [oc_some]
            obtain ⟨_, es', m1, m2⟩ := hr.maps mb mp.es mp.clock M 0 (objMap_some hom) hpm
            unfold enM
            cases hc : Nat.beq mp.clock last
            · trivial
            have hc := Nat.eq_of_beq_eq_true hc
            rw [bi_true]
            cases hf : findE n mp.es with
            | none => trivial
            | some e =>
              simp only [oc_some]
              obtain ⟨e', f1, f2, f3⟩ := findE_ER hf m2
              have hget : (getObj B).run P w = .ok (.mapIter (some M) since seen.toArray last) w := by simp [getObj, Sem.run, e1]
              have hgetM : (getObj M).run P w = .ok (.map es' mp.clock) w := by simp [getObj, Sem.run, m1]
              have hback : seen.toArray.back? = some n := by rw [← hl, lastN_eq]; simp
              have hfind : es'.find? (fun x => x.born == n) = some e' := by rw [← f1]; simp
              refine VG.same hr (v' := .tuple #[e'.key, e'.val]) ?_ (.tup _ [e'.key, e'.val] (.cons _ _ _ _ f2 (.cons _ _ _ _ f3 .nil)))
              simp [Instr.entry, hget, hgetM, hback, hfind, hc, Result.andThen]

end
end Go.Proofs.YtimjbojoeacaeaaDoor.Kx
