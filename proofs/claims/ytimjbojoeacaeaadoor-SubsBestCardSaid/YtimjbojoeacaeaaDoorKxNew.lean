/- The evaluator's operations that make new blocks. -/
import Derived.Test.YtimjbojoeacaeaaDoorKxPure
import Derived.IntWalk
namespace Go.Proofs.YtimjbojoeacaeaaDoor.Kx
section
variable {P : Program} {B0 : Nat} {g : G} {h : H} {w : World}

theorem VRs.nth {l : List AV} {l' : List Value} (h : VRs g l l') {i : Nat} {v' : Value} (hv : l'[i]? = some v') : ∃ v, l[i]? = some v ∧ VR g v v' := by
  have hi := (List.getElem?_eq_some_iff.1 hv).1
  rw [← h.length] at hi
  obtain ⟨v'', e, hr⟩ := h.at (List.getElem?_eq_getElem hi)
  rw [hv] at e
  injection e with e
  subst e
  exact ⟨_, List.getElem?_eq_getElem hi, hr⟩
theorem CR.new {g' : G} {b B : Nat} {l : List AV} {t : TypeId} {w1 : World} {cs : Array Value} {fr : Nat × Nat} (hw : w1.heap[B]? = some (.cells cs t fr)) (hfr : ∀ i : Nat, ¬ (fr.1 ≤ i ∧ i < fr.2))
    (hl : l.length ≤ cs.size) (hv : ∀ (i : Nat) (v : AV), l[i]? = some v → ∃ v' : Value, cs[i]? = some v' ∧ VR g' v v' ∧ one1 v' = true) (hg : ∀ c s, g'.grow b = some (c, s) → 0 < s ∧ l.length ≤ c * s ∧ c * s ≤ cs.size) : CR g' b B 0 l t w1 :=
  ⟨cs, fr, hw, hfr, by omega, fun i v hi => by rw [Nat.zero_add]; exact hv i v hi, fun c s hc => by rw [Nat.zero_add]; exact hg c s hc⟩
/-- New in the model, and in the evaluator. -/
theorem new_good (hr : HR B0 g h w) (hB : B0 ≤ w.heap.size) (hp : g.pos h.next = none) (hgr : g.grow h.next = none) (l : List AV) (t : TypeId) (vf : Nat → AV) (gr : Option (Nat × Nat)) {s : Sem Value}
    (v' : Value) (w1 : World) (cs : Array Value) (fr : Nat × Nat) (hs : s.run P w = .ok v' w1) (hh : w1.heap = w.heap.push (.cells cs t fr)) (hos : w1.os = w.os) (ht : w1.tape = w.tape) (hou : w1.output = w.output)
    (hfr : ∀ i : Nat, ¬ (fr.1 ≤ i ∧ i < fr.2)) (hl : l.length ≤ cs.size) (hvs : ∀ (i : Nat) (v : AV), l[i]? = some v → ∃ v' : Value, cs[i]? = some v' ∧ VR g v v' ∧ one1 v' = true) (hg : ∀ c s, gr = some (c, s) → 0 < s ∧ l.length ≤ c * s ∧ c * s ≤ cs.size)
    (hv : VR (g.add h.next w.heap.size 0 gr) (vf h.next) v') : VG P B0 g h w s (kNew h (.cells l t) vf) := by
  unfold kNew
  rw [nF_eq]
  refine ⟨v', w1, _, hs, hv, Tr.alloc hr hB hp hgr _ _ gr hh hos ht hou (fun l' t' e => ?_) (fun es c e => by cases e)⟩
  injection e with e1 e2
  subst e1; subst e2
  refine CR.new (cs := cs) (fr := fr) (by rw [hh]; simp) hfr hl (fun i v hi => ?_) (fun c s hc => ?_)
  · obtain ⟨v', a, b, c⟩ := hvs i v hi
    exact ⟨v', a, b.mono (G.add_le g _ _ _ _ hp hgr), c⟩
  · have : gr = some (c, s) := by rw [← hc]; exact (if_pos rfl).symm
    exact hg c s this
theorem new_list (hr : HR B0 g h w) (hB : B0 ≤ w.heap.size) (hp : g.pos h.next = none) (hgr : g.grow h.next = none) (l : List AV) (t : TypeId) (vf : Nat → AV) {s : Sem Value}
    (v' : Value) (cs : List Value) (hs : s.run P w = .ok v' (w.alloc (.cells cs.toArray t))) (hl : VRs g l cs) (h1 : ∀ x ∈ cs, one1 x = true)
    (hv : VR (g.add h.next w.heap.size 0 none) (vf h.next) v') : VG P B0 g h w s (kNew h (.cells l t) vf) :=
  new_good hr hB hp hgr l t vf none v' _ cs.toArray (0, 0) hs rfl rfl rfl rfl (fun i => by simp) (by rw [hl.length]; simp) (fun i v hi => by
    obtain ⟨v', e, hvv⟩ := hl.at hi
    exact ⟨v', by simpa using e, hvv, h1 v' (List.mem_of_getElem? e)⟩) (fun c s e => by cases e) hv
theorem posNew (_hp : g.pos h.next = none) (gr : Option (Nat × Nat)) : (g.add h.next w.heap.size 0 gr).pos h.next = some (w.heap.size, 0) := if_pos rfl

theorem cells_inv {v : AV} {v' : Value} (hk : okV v = true) (hv : VR g v v') : VRs g (cellsOf v) v'.cells.toList ∧ ∀ x ∈ v'.cells.toList, one1 x = true := by
  cases hv
  case agg l l' h1 h2 => exact ⟨h1, h2⟩
  case any => cases hk
  case tup => cases hk
  all_goals refine ⟨.cons _ _ _ _ ?_ .nil, by simp [Value.cells, one1]⟩
  case bool b => exact .bool b
  case int k n => exact .int k n
  case str s => exact .str s
  case nilp => exact .nilp
  case ptr b o B base h => exact .ptr b o B base h
  case nils => exact .nils
  case slck b o n c B base ro h hn hro => exact .slck b o n c B base ro h hn hro
  case slcv b o n k B base c s ro h hg ho hn hro => exact .slcv b o n k B base c s ro h hg ho hn hro
  case nilm => exact .nilm
  case map b B h => exact .map b B h
  case fn f x y x' y' hx hy => exact .fn f x y x' y' hx hy
  case nilf => exact .nilf
  case ifc t v v' h => exact .ifc t v v' h
  case nili => exact .nili
  case xslc a n c k ge h he => exact .xslc a n c k ge h he
  case xnat k n h => exact .xnat k n h
  case xres0 m r n hn h => exact .xres0 m r n hn h
  case xres1 m r n h => exact .xres1 m r n h
  case xres2 m r n h0 h => exact .xres2 m r n h0 h
  case xi x n h h1 h2 => exact .xi x n h h1 h2
  case xz b n L B base ro c h hn h1 h2 => exact .xz b n L B base ro c h hn h1 h2

theorem alloc_good (hr : HR B0 g h w) (hB : B0 ≤ w.heap.size) (hp : g.pos h.next = none) (hgr : g.grow h.next = none) (e : TypeId) : VG P B0 g h w (Instr.alloc e true (.tuple #[])) (xAlloc h e (mkTI P e)) := by
  unfold xAlloc
  cases ht : mkTI P e with
  | none => trivial
  | some ti =>
    obtain ⟨z, hz, hv, h1, _, _⟩ := (mkTI_some ht).zero g
    simp only [oc_some]
    refine new_list hr hB hp hgr ti.zero e _ (.pointer (some ⟨w.heap.size, 0, none⟩)) z.cells.toList ?_ hv h1 (.ptr _ 0 _ 0 (posNew hp _))
    simp [Instr.alloc, Sem.run_bind, hz, Result.andThen, newVar, newRow]
theorem box_good (hr : HR B0 g h w) (hB : B0 ≤ w.heap.size) (hp : g.pos h.next = none) (hgr : g.grow h.next = none) (e : TypeId) (x : AV) (xv : Value) (hx : VR g x xv) : VG P B0 g h w (Instr.box e xv) (xBox h e x) := by
  unfold xBox
  cases hk : okV x
  · trivial
  · obtain ⟨hv, h1⟩ := cells_inv hk hx
    rw [bi_true]
    refine new_list hr hB hp hgr _ e _ (.pointer (some ⟨w.heap.size, 0, none⟩)) xv.cells.toList ?_ hv h1 (.ptr _ 0 _ 0 (posNew hp _))
    simp [Instr.box, Result.andThen, newVar, newRow]
theorem makeMap_good (hr : HR B0 g h w) (hB : B0 ≤ w.heap.size) (hp : g.pos h.next = none) (hgr : g.grow h.next = none) (t : TypeId) : VG P B0 g h w (Instr.makeMap t none) (kNew h (.map [] 0) .map) := by
  unfold kNew
  rw [nF_eq]
  refine ⟨.map (some w.heap.size), w.alloc (.map #[] 0), _, by simp [Instr.makeMap, Result.andThen], .map _ _ (posNew hp none), Tr.alloc hr hB hp hgr _ (.map #[] 0) none rfl rfl rfl rfl (fun _ _ e => by cases e) (fun es c e => ?_)⟩
  injection e with e1 e2
  subst e1; subst e2
  exact ⟨#[], rfl, .nil⟩

/-! Cells laid into cells. -/
theorem foldl_put (off : Nat) : ∀ (vs : List Value) (k : Nat) (cs : Array Value), off + k + vs.length ≤ cs.size →
    ((vs.zipIdx k).foldl (fun cs (p : Value × Nat) => cs.setIfInBounds (off + p.2) p.1) cs).toList = cs.toList.take (off + k) ++ (vs ++ cs.toList.drop (off + k + vs.length))
  | [], k, cs, _ => by simp
  | v :: r, k, cs, hl => by
    simp only [List.length_cons] at hl
    rw [List.zipIdx_cons, List.foldl_cons, foldl_put off r (k + 1) _ (by simp; omega)]
    simp only [Array.toList_setIfInBounds, List.length_cons]
    have h1 : (cs.toList.set (off + k) v).take (off + (k + 1)) = cs.toList.take (off + k) ++ [v] := by
      rw [← Nat.add_assoc, List.take_add_one, List.getElem?_set_self (by simp; omega), List.take_set_of_le (Nat.le_refl _)]
      rfl
    rw [h1, List.drop_set_of_lt (by omega), show off + (k + 1) + r.length = off + k + (r.length + 1) by omega]
    simp
theorem VRs.put {l ys r : List AV} {l' ys' : List Value} {o : Nat} (hl : VRs g l l') (hy : VRs g ys ys') (hp : put o ys l = some r) : o + ys'.length ≤ l'.length ∧ VRs g r (l'.take o ++ (ys' ++ l'.drop (o + ys'.length))) := by
  obtain ⟨h1, rfl⟩ := put_some hp
  rw [hl.length, hy.length] at h1
  refine ⟨h1, (hl.take o).append (hy.append ?_)⟩
  rw [hy.length]
  exact hl.drop _
inductive PRs (g : G) : List (Nat × AV) → List (Nat × Value) → Prop where
  | nil : PRs g [] []
  | cons (i : Nat) (v : AV) (v' : Value) (l : List (Nat × AV)) (l' : List (Nat × Value)) (hv : VR g v v') (hs : PRs g l l') : PRs g ((i, v) :: l) ((i, v') :: l')
theorem fill_good {pl pl' : Nat → Option (Nat × Nat)} (hpl : ∀ i q, pl i = some q → pl' i = some q) {ps : List (Nat × AV)} {ps' : List (Nat × Value)} (hps : PRs g ps ps') :
    ∀ {cs : List AV} {cs' : Array Value} {r : List AV}, VRs g cs cs'.toList → (∀ x ∈ cs'.toList, one1 x = true) → fillA pl ps cs = some r → ∃ r', Instr.fill pl' cs' ps' = some r' ∧ VRs g r r'.toList ∧ (∀ x ∈ r'.toList, one1 x = true) := by
  induction hps with
  | nil => intro cs cs' r hc h1 hf; injection hf with hf; subst hf; exact ⟨cs', rfl, hc, h1⟩
  | cons i v v' l l' hv _ ih =>
    intro cs cs' r hc h1 hf
    have hf : fill1 v (fun cs => fillA pl l cs) cs (pl i) = some r := hf
    unfold fill1 at hf
    cases hk : okV v
    · rw [hk] at hf; cases hf
    · rw [hk, bi_true] at hf
      cases hq : pl i with
      | none => rw [hq] at hf; cases hf
      | some q =>
        rw [hq] at hf
        simp only [oc_some, len_eq] at hf
        obtain ⟨hv1, hv2⟩ := cells_inv hk hv
        cases hb : Nat.beq (cellsOf v).length q.2
        · rw [hb] at hf; cases hf
        · rw [hb, bi_true] at hf
          have hb := Nat.eq_of_beq_eq_true hb
          cases hp : put q.1 (cellsOf v) cs with
          | none => rw [hp] at hf; cases hf
          | some cs1 =>
            rw [hp] at hf
            simp only [oc_some] at hf
            obtain ⟨a1, a2⟩ := hc.put hv1 hp
            have hsz : v'.cells.size = q.2 := by rw [← hb, hv1.length]; simp
            simp only [Array.length_toList] at a1
            have hfold : (v'.cells.zipIdx.foldl (fun cs (p : Value × Nat) => cs.setIfInBounds (q.1 + p.2) p.1) cs').toList = cs'.toList.take q.1 ++ (v'.cells.toList ++ cs'.toList.drop (q.1 + v'.cells.toList.length)) := by
              rw [← Array.foldl_toList, Array.toList_zipIdx]
              have := foldl_put q.1 v'.cells.toList 0 cs' (by simp; omega)
              simpa using this
            obtain ⟨r', e1, e2, e3⟩ := ih (cs' := v'.cells.zipIdx.foldl (fun cs (p : Value × Nat) => cs.setIfInBounds (q.1 + p.2) p.1) cs') (by rw [hfold]; exact a2) (by
              rw [hfold]
              intro x hx
              rcases List.mem_append.1 hx with hx | hx
              · exact h1 x (List.mem_of_mem_take hx)
              · rcases List.mem_append.1 hx with hx | hx
                · exact hv2 x hx
                · exact h1 x (List.mem_of_mem_drop hx)) hf
            refine ⟨r', ?_, e2, e3⟩
            unfold Instr.fill
            rw [hpl i q hq]
            simp only
            rw [if_neg (by simp [hsz]; omega)]
            exact e1
theorem placeS_ok {fs : List (Nat × TypeId)} {fields : Array Field} (hf : fs = fields.toList.map fun f => (f.offset, f.type)) (places : Array (Nat × Nat)) (hpl : ∀ (i : Nat) (f : Field) (s : Nat), fields[i]? = some f → (szOf (mkTI P) f.type) = some s → places[i]? = some (f.offset, s)) : ∀ i q, placeS (mkTI P) fs i = some q → places[i]? = some q := by
  intro i q hq
  unfold placeS at hq
  rw [idx_eq, hf, List.getElem?_map] at hq
  cases hff : fields.toList[i]? with
  | none => rw [hff] at hq; cases hq
  | some f =>
    rw [hff] at hq
    simp only [Option.map_some, oc_some] at hq
    cases hs : szOf (mkTI P) f.type with
    | none => rw [hs] at hq; cases hq
    | some s =>
      rw [hs] at hq
      injection hq with hq
      subst hq
      exact hpl i f s (by simpa using hff) hs

theorem mapM_places {P : Program} {w : World} (l : List Field) (sz : TypeId → Nat) (h : ∀ f ∈ l, (Go.sizeOf f.type).run P w = .ok (sz f.type) w) :
    (l.mapM (m := Sem) fun f => do pure (f.offset, ← Go.sizeOf f.type)).run P w = .ok (l.map fun f => (f.offset, sz f.type)) w := by
  induction l with
  | nil => rfl
  | cons a r ih =>
    rw [List.mapM_cons]
    simp only [Sem.run_bind, h a (List.mem_cons_self), ih (fun f hf => h f (List.mem_cons_of_mem _ hf)), Result.andThen_ok, Sem.run_pure, List.map_cons]
theorem allSz_at {fs : List (Nat × TypeId)} (h : allSz (mkTI P) fs = true) (p : Nat × TypeId) (hp : p ∈ fs) : ∃ s, szOf (mkTI P) p.2 = some s := by
  induction fs with
  | nil => cases hp
  | cons a r ih =>
    have h : oc false (fun _ => allSz (mkTI P) r) (szOf (mkTI P) a.2) = true := h
    cases hs : szOf (mkTI P) a.2 with
    | none => rw [hs] at h; cases h
    | some s =>
      rw [hs] at h
      rcases List.mem_cons.1 hp with rfl | hp
      · exact ⟨s, hs⟩
      · exact ih h hp
theorem build_good (hr : HR B0 g h w) (t : TypeId) (ps : List (Nat × AV)) (ps' : Array (Nat × Value)) (hps : PRs g ps ps'.toList) : VG P B0 g h w (Instr.build t ps') (xBuild (mkTI P) h ps (mkTI P t)) := by
  unfold xBuild
  cases ht : mkTI P t with
  | none => trivial
  | some ti =>
    have hT := mkTI_some ht
    obtain ⟨z, hz, hzv, hz1, _, _⟩ := hT.zero g
    simp only [oc_some]
    cases hk : ti.kind
    case struct fs =>
      show VG P B0 g h w _ (bi (allSz (mkTI P) fs) (kAgg h (fillA (placeS (mkTI P) fs) ps ti.zero)) .no)
      cases ha : allSz (mkTI P) fs
      · trivial
      · rw [bi_true]
        obtain ⟨fields, hu, hfs⟩ := hT.struct hk
        refine kAgg_good hr fun r hf => ?_
        have hall : ∀ f ∈ fields.toList, szOf (mkTI P) f.type = some ((szOf (mkTI P) f.type).getD 0) := fun f hf => by
          obtain ⟨s, hs⟩ := allSz_at ha (f.offset, f.type) (by rw [hfs]; exact List.mem_map.2 ⟨f, hf, rfl⟩)
          rw [hs]; rfl
        have hm := mapM_places (P := P) (w := w) fields.toList (fun t => (szOf (mkTI P) t).getD 0) (fun f hf => szOf_run (hall f hf) w)
        obtain ⟨r', e1, e2, e3⟩ := fill_good (pl' := fun i => (fields.toList.map fun f => (f.offset, (szOf (mkTI P) f.type).getD 0)).toArray[i]?) (placeS_ok hfs _ (fun i f s h1 h2 => by simp [h1, h2])) hps hzv hz1 hf
        refine ⟨.agg r'.toList.toArray, ?_, .agg _ _ e2 e3⟩
        simp only [Instr.build, Sem.run_bind, hz, run_underlying hu, Result.andThen_ok, Array.mapM_eq_mapM_toList, Sem.run_map, hm]
        simp only [e1]
        rfl
    case arr n e =>
      show VG P B0 g h w _ (oc .no (fun s => kAgg h (fillA (placeA s) ps ti.zero)) (szOf (mkTI P) e))
      cases hs : szOf (mkTI P) e with
      | none => trivial
      | some s =>
        simp only [oc_some]
        refine kAgg_good hr fun r hf => ?_
        obtain ⟨r', e1, e2, e3⟩ := fill_good (pl' := fun i => some (i * s, s)) (fun i q hq => hq) hps hzv hz1 hf
        have hsz := fun w => szOf_run (P := P) hs w
        refine ⟨.agg r'.toList.toArray, ?_, .agg _ _ e2 e3⟩
        simp [Instr.build, Sem.run_bind, hz, run_underlying (hT.arr hk), hsz, e1, Result.andThen]
    all_goals trivial
theorem repl_at {z : List AV} (_hz : 0 < z.length) (n i : Nat) (hi : i < n * z.length) : (repl z n)[i]? = z[i % z.length]? := by
  induction n generalizing i with
  | zero => omega
  | succ n ih =>
    rw [repl_succ]
    rcases Nat.lt_or_ge i z.length with h1 | h1
    · rw [List.getElem?_append_left h1, Nat.mod_eq_of_lt h1]
    · rw [List.getElem?_append_right h1, ih _ (by rw [Nat.add_mul] at hi; omega), Nat.mod_eq_sub_mod h1]
theorem zeros_VRs {z : List AV} {zv : Array Value} (hz : VRs g z zv.toList) (h1 : ∀ x ∈ zv.toList, one1 x = true) (n : Nat) :
    VRs g (repl z n) ((Array.range (n * zv.size)).map (zv[· % zv.size]!)).toList ∧ ∀ x ∈ ((Array.range (n * zv.size)).map (zv[· % zv.size]!)).toList, one1 x = true := by
  have hlen : z.length = zv.size := by rw [hz.length]; simp
  have hat : ∀ i v', ((Array.range (n * zv.size)).map (zv[· % zv.size]!)).toList[i]? = some v' → i < n * zv.size ∧ 0 < zv.size ∧ zv[i % zv.size]? = some v' := by
    intro i v' hv
    have hj : i < n * zv.size := by have := (List.getElem?_eq_some_iff.1 hv).1; simpa using this
    have hv : zv[i % zv.size]! = v' := by simpa [hj] using hv
    subst hv
    have hp : 0 < zv.size := by rcases Nat.eq_zero_or_pos zv.size with h0 | h0; rw [h0] at hj; omega; exact h0
    have hm : i % zv.size < zv.size := Nat.mod_lt _ hp
    exact ⟨hj, hp, by rw [getElem!_pos zv _ hm]; exact Array.getElem?_eq_getElem hm⟩
  constructor
  · refine VRs.of_at (by rw [repl_length]; simp [hlen]) fun i v hv => ?_
    have hi : i < n * zv.size := by
      have := (List.getElem?_eq_some_iff.1 hv).1
      rw [repl_length, hlen] at this
      exact this
    have hp : 0 < zv.size := by rcases Nat.eq_zero_or_pos zv.size with h0 | h0; rw [h0] at hi; omega; exact h0
    rw [repl_at (by omega) n i (by rw [hlen]; exact hi), hlen] at hv
    obtain ⟨v', e, hr⟩ := hz.at hv
    refine ⟨v', ?_, hr⟩
    have hm : i % zv.size < zv.size := Nat.mod_lt _ hp
    have e : zv[i % zv.size]? = some v' := by simpa using e
    simp [hi]
    rw [getElem!_pos zv _ hm]
    rw [Array.getElem?_eq_getElem hm] at e
    injection e
  · intro x hx
    obtain ⟨i, hi⟩ := List.mem_iff_getElem?.1 hx
    obtain ⟨_, _, e⟩ := hat i x hi
    exact h1 x (by have := Array.mem_of_getElem? e; simpa using this)
theorem buildSlice_good (hr : HR B0 g h w) (hB : B0 ≤ w.heap.size) (hp : g.pos h.next = none) (hgr : g.grow h.next = none) (t : TypeId) (n : Nat) (ps : List (Nat × AV)) (ps' : Array (Nat × Value)) (hps : PRs g ps ps'.toList) :
    VG P B0 g h w (Instr.buildSlice t n ps') (oc .no (xBuildS (mkTI P) h n ps) (elemT (mkTI P t))) := by
  cases ht : mkTI P t with
  | none => trivial
  | some ti =>
    have hT := mkTI_some ht
    cases hk : elemK ti.kind with
    | none => show VG P B0 g h w _ (oc .no _ (elemK ti.kind)); rw [hk]; trivial
    | some e =>
      show VG P B0 g h w _ (oc .no _ (elemK ti.kind))
      rw [hk]
      have hu := hT.slice (elemK_some hk)
      simp only [oc_some]
      unfold xBuildS
      cases hte : mkTI P e with
      | none => trivial
      | some te =>
        have hTe := mkTI_some hte
        obtain ⟨z, hz, hzv, hz1, hzs, hzl⟩ := hTe.zero g
        simp only [oc_some]
        cases hb : Nat.ble (Nat.mul n te.size) 16777216
        · trivial
        · rw [bi_true]
          have hb : n * te.size ≤ 16777216 := Nat.le_of_ble_eq_true hb
          cases hf : fillA (placeA te.size) ps (repl te.zero n) with
          | none => trivial
          | some cs =>
            simp only [oc_some]
            obtain ⟨a1, a2⟩ := zeros_VRs hzv hz1 n
            obtain ⟨r', e1, e2, e3⟩ := fill_good (pl' := fun i => some (i * te.size, te.size)) (fun i q hq => hq) hps a1 a2 hf
            refine new_list hr hB hp hgr cs e _ (.slice (some ⟨w.heap.size, 0, none⟩) n n) r'.toList ?_ e2 e3 (.slck _ 0 n n _ 0 0 (posNew hp _) (Nat.le_refl _) (fun _ => rfl))
            rw [hzs] at e1
            by_cases h0 : n * te.size = 0
            · simp only [h0] at e1
              simp [Instr.buildSlice, Sem.run_bind, run_underlying hu, hTe.sizeOf, h0, Result.andThen]
              have hz0 : ∀ f : Nat → Value, Array.map f (Array.range 0) = #[] := fun f => by simp
              rw [hz0] at e1 ⊢
              rw [e1]
              simp [newRow]
            · have hnb : ¬ (16777216 < n * te.size) := by omega
              simp [Instr.buildSlice, Sem.run_bind, run_underlying hu, hTe.sizeOf, hz, h0, hnb, Result.andThen, hzs]
              rw [e1]
              simp [newRow]

theorem makeSlice_good (hr : HR B0 g h w) (hB : B0 ≤ w.heap.size) (hp : g.pos h.next = none) (hgr : g.grow h.next = none) (t : TypeId) (l c : AV) (lv cv : Value) (hl : VR g l lv) (hc : VR g c cv) :
    VG P B0 g h w (Instr.makeSlice t lv cv) (xMakeSlice (mkTI P) h (intNat l) (intNat c) (elemT (mkTI P t))) := by
  unfold xMakeSlice
  cases ht : mkTI P t with
  | none => trivial
  | some ti =>
    have hT := mkTI_some ht
    cases hk : elemK ti.kind with
    | none => show VG P B0 g h w _ (oc .no _ (elemK ti.kind)); rw [hk]; trivial
    | some e =>
      show VG P B0 g h w _ (oc .no _ (elemK ti.kind))
      rw [hk]
      have hu := hT.slice (elemK_some hk)
      simp only [oc_some]
      cases h1 : intNat l with
      | none => trivial
      | some n =>
        obtain ⟨k1, rfl⟩ := intNat_some h1
        cases hl
        simp only [oc_some]
        cases h2 : intNat c with
        | none => trivial
        | some m =>
          obtain ⟨k2, rfl⟩ := intNat_some h2
          cases hc
          simp only [oc_some]
          cases hte : mkTI P e with
          | none => trivial
          | some te =>
            have hTe := mkTI_some hte
            obtain ⟨z, hz, hzv, hz1, hzs, hzl⟩ := hTe.zero g
            obtain ⟨i, hi, hib⟩ := hTe.bytes
            simp only [oc_some]
            unfold mkS
            cases hb : Nat.ble n m
            · trivial
            · rw [bi_true]
              cases hb1 : Nat.ble m 70368744177664
              · trivial
              · cases hb2 : Nat.ble (Nat.mul m te.bytes) 70368744177664
                · trivial
                · simp only [bi_true]
                  have hb : n ≤ m := Nat.le_of_ble_eq_true hb
                  have hb1 : m ≤ 70368744177664 := Nat.le_of_ble_eq_true hb1
                  have hb2 : m * te.bytes ≤ 70368744177664 := Nat.le_of_ble_eq_true hb2
                  have w1 : IntKind.i64.wrap (n : Int) = n := IntWalk.i64_in _ (by omega)
                  have w2 : IntKind.i64.wrap (m : Int) = m := IntWalk.i64_in _ (by omega)
                  obtain ⟨a1, a2⟩ := zeros_VRs hzv hz1 m
                  refine new_list hr hB hp hgr _ e _ (.slice (some ⟨w.heap.size, 0, none⟩) n m) _ ?_ a1 a2 (.slck _ 0 n m _ 0 0 (posNew hp _) hb (fun _ => rfl))
                  have hbb : ¬ (281474976710656 < (te.bytes : Int) * (m : Int)) := by
                    have : ((te.bytes : Int) * (m : Int)) = ((m * te.bytes : Nat) : Int) := by rw [Nat.mul_comm]; simp
                    rw [this]
                    omega
                  have hnm : ¬ ((m : Int) < (n : Int)) := by omega
                  rw [hzs]
                  have hm0 : ¬ ((m : Int) < 0) := by omega
                  have hn0 : ¬ ((n : Int) < 0) := by omega
                  have hz0 : ∀ f : Nat → Value, Array.map f (Array.range 0) = #[] := fun f => by simp
                  by_cases h0 : m * te.size = 0
                  · simp [Instr.makeSlice, Sem.run_bind, run_underlying hu, hTe.sizeOf, run_typeInfo _ hi, hib, Go.asInt, Go.asIntOf, w1, w2, hbb, hnm, hm0, hn0, hz0, h0, Result.andThen, newRow]
                  · simp [Instr.makeSlice, Sem.run_bind, run_underlying hu, hTe.sizeOf, run_typeInfo _ hi, hib, Go.asInt, Go.asIntOf, w1, w2, hbb, hnm, hm0, hn0, h0, hz, hzs, Result.andThen, newRow]
                    congr 2
                    apply Array.ext'
                    simp
end
end Go.Proofs.YtimjbojoeacaeaaDoor.Kx
