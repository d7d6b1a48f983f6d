/- More of the evaluator's operations: addresses, parts, pieces, lookups. -/
import Derived.Test.YtimjbojoeacaeaaDoorKxNum
namespace Go.Proofs.YtimjbojoeacaeaaDoor.Kx
section
variable {P : Program} {B0 : Nat} {g : G} {h : H} {w : World}

theorem kVal_good (hr : HR B0 g h w) {s : Sem Value} {o : Option AV} (hs : ∀ v, o = some v → ∃ v', s.run P w = .ok v' w ∧ VR g v v') : VG P B0 g h w s (kVal h o) := by
  cases o with
  | none => trivial
  | some v => obtain ⟨v', h1, h2⟩ := hs v rfl; exact VG.same hr h1 h2
theorem kAgg_good (hr : HR B0 g h w) {s : Sem Value} {o : Option (List AV)} (hs : ∀ l, o = some l → ∃ v', s.run P w = .ok v' w ∧ VR g (.agg l) v') : VG P B0 g h w s (kAgg h o) := by
  cases o with
  | none => trivial
  | some v => obtain ⟨v', h1, h2⟩ := hs v rfl; exact VG.same hr h1 h2
theorem VR.agg_inv {l : List AV} {v : Value} (hv : VR g (.agg l) v) : ∃ l', v = .agg l'.toArray ∧ VRs g l l' ∧ ∀ x ∈ l', one1 x = true := by
  cases hv with | agg _ l' h1 h2 => exact ⟨l', rfl, h1, h2⟩
theorem VR.tup_inv {l : List AV} {v : Value} (hv : VR g (.tup l) v) : ∃ l', v = .tuple l'.toArray ∧ VRs g l l' := by
  cases hv with | tup _ l' h1 => exact ⟨l', rfl, h1⟩
theorem VR.str_inv {l : List Nat} {v : Value} (hv : VR g (.str l) v) : ∃ s, v = .string s ∧ l = byteL s.data.toList := by
  generalize hx : AV.str l = x at hv
  cases hv <;> cases hx
  exact ⟨_, rfl, rfl⟩
theorem byteL_length (l : List UInt8) : (byteL l).length = l.length := by rw [byteL_eq]; simp

/-! Parts. -/
theorem part_good (hr : HR B0 g h w) (t : TypeId) (l : List AV) (l' : List Value) (hl : VRs g l l') (h1 : ∀ x ∈ l', one1 x = true) (o : Nat) : VG P B0 g h w (Go.part t l'.toArray o) (part h l o (mkTI P t)) := by
  unfold part
  cases ht : mkTI P t with
  | none => trivial
  | some ti =>
    have hT := mkTI_some ht
    simp only [oc_some]
    cases ha : isAgg ti.kind
    · rw [bi_false, idx_eq]
      refine kVal_good hr fun v hv => ?_
      obtain ⟨v', e, hvv⟩ := hl.at hv
      exact ⟨v', by simp [Go.part, Sem.run_bind, hT.isAgg, ha, e, Result.andThen], hvv⟩
    · rw [bi_true]
      refine kAgg_good hr fun r hs => ?_
      obtain ⟨hle, rfl⟩ := sub_some hs
      refine ⟨.agg ((l'.drop o).take ti.size).toArray, ?_, .agg _ _ ((hl.drop o).take _) (fun x hx => h1 x (List.mem_of_mem_drop (List.mem_of_mem_take hx)))⟩
      simp [Go.part, Sem.run_bind, hT.isAgg, ha, hT.sizeOf, Result.andThen]
theorem fieldOf_some {k : TK} {i : Nat} {q : Nat × TypeId} (e : fieldOf k i = some q) : ∃ fs, k = .struct fs ∧ fs[i]? = some q := by
  cases k <;> first | (exact absurd e (by intro e; cases e)) | skip
  rename_i fs
  exact ⟨fs, rfl, by rw [← e]; exact (idx_eq _ _).symm⟩
theorem TOk.field {t : TypeId} {ti : TI} (ht : TOk P t ti) {i : Nat} {q : Nat × TypeId} (e : fieldOf ti.kind i = some q) : ∃ fields f, P.underlying t = some (.struct fields) ∧ fields[i]? = some f ∧ f.offset = q.1 ∧ f.type = q.2 := by
  obtain ⟨fs, hk, hf⟩ := fieldOf_some e
  obtain ⟨fields, hu, rfl⟩ := ht.struct hk
  rw [List.getElem?_map] at hf
  cases hff : fields.toList[i]? with
  | none => rw [hff] at hf; cases hf
  | some f =>
    rw [hff] at hf
    injection hf with hf
    subst hf
    exact ⟨fields, f, hu, by simpa using hff, rfl, rfl⟩
theorem field_good (hr : HR B0 g h w) (t : TypeId) (f : Nat) (x : AV) (xv : Value) (hx : VR g x xv) : VG P B0 g h w (Instr.field t xv f) (xField (mkTI P) h f x (mkTI P t)) := by
  unfold xField
  cases h1 : asAgg x with
  | none => trivial
  | some l =>
    have := asAgg_some h1; subst this
    obtain ⟨l', rfl, hl, ho⟩ := hx.agg_inv
    simp only [oc_some]
    cases ht : mkTI P t with
    | none => trivial
    | some ti =>
      have hT := mkTI_some ht
      simp only [oc_some]
      cases hf : fieldOf ti.kind f with
      | none => trivial
      | some q =>
        simp only [oc_some]
        obtain ⟨fields, fd, hu, hfd, e1, e2⟩ := hT.field hf
        have := part_good (P := P) hr q.2 l l' hl ho q.1
        have e : (Instr.field t (.agg l'.toArray) f).run P w = (Go.part q.2 l'.toArray q.1).run P w := by
          rw [← e1, ← e2]
          simp [Instr.field, Sem.run_bind, run_underlying hu, hfd, Go.asAgg, Result.andThen]
        unfold VG at this ⊢
        rw [e]
        exact this
theorem fieldAddr_good (hr : HR B0 g h w) (t : TypeId) (f : Nat) (x : AV) (xv : Value) (hx : VR g x xv) : VG P B0 g h w (Instr.fieldAt t xv f) (xFieldAddr (mkTI P) h f x (mkTI P t)) := by
  unfold xFieldAddr
  cases h1 : asPtr x with
  | none => trivial
  | some p =>
    have := asPtr_some h1; subst this
    cases hx with | ptr b o B base hp =>
    simp only [oc_some]
    cases ht : mkTI P t with
    | none => trivial
    | some ti =>
      have hT := mkTI_some ht
      simp only [oc_some]
      cases hf : fieldOf ti.kind f with
      | none => trivial
      | some q =>
        simp only [oc_some]
        cases hs : szOf (mkTI P) q.2 with
        | none => trivial
        | some s =>
          simp only [oc_some]
          cases hz : Nat.beq s 0
          · rw [bi_false, nF_eq]
            obtain ⟨fields, fd, hu, hfd, e1, e2⟩ := hT.field hf
            have hs0 : s ≠ 0 := Nat.ne_of_beq_eq_false hz
            refine VG.same hr ?_ (.ptr p.1 _ B base hp)
            have hsz := fun w => szOf_run (P := P) hs w
            rw [← e2] at hsz
            simp [Instr.fieldAt, Sem.run_bind, run_underlying hu, hfd, Instr.sureAddr, fieldPlace, hsz, hs0, Result.andThen, add_none, e1, Nat.add_assoc]
          · trivial
theorem ia_good (hr : HR B0 g h w) (b o i n : Nat) (B base : Nat) (hp : g.pos b = some (B, base)) (e : TypeId) (s : Sem Value)
    (hs : ∀ sz, szOf (mkTI P) e = some sz → i < n → s.run P w = .ok (.pointer (some ⟨B, base + o + i * sz, none⟩)) w) : VG P B0 g h w s (ia h b o i n (szOf (mkTI P) e)) := by
  unfold ia
  cases hz : szOf (mkTI P) e with
  | none => trivial
  | some sz =>
    simp only [oc_some]
    cases hb : Nat.blt i n
    · trivial
    · rw [bi_true, nF_eq]
      have := hs sz hz (by simpa [Nat.blt_eq] using hb)
      refine VG.same hr this ?_
      have := VR.ptr (g := g) b (o + i * sz) B base hp
      rw [← Nat.add_assoc] at this
      exact this
theorem indexAddr_good (hr : HR B0 g h w) (t : TypeId) (x i : AV) (xv iv : Value) (hx : VR g x xv) (hi : VR g i iv) : VG P B0 g h w (Instr.indexAt t xv iv) (xIndexAddr (mkTI P) h x (intNat i) (mkTI P t)) := by
  unfold xIndexAddr
  cases h1 : intNat i with
  | none => trivial
  | some n =>
    obtain ⟨k, rfl⟩ := intNat_some h1
    cases hi
    simp only [oc_some]
    cases ht : mkTI P t with
    | none => trivial
    | some ti =>
      have hT := mkTI_some ht
      simp only [oc_some]
      cases hk : ti.kind
      case arr m e =>
        show VG P B0 g h w _ (oc .no (fun p => ia h p.1 p.2 n m (szOf (mkTI P) e)) (asPtr x))
        cases h2 : asPtr x with
        | none => trivial
        | some p =>
          have := asPtr_some h2; subst this
          cases hx with | ptr b o B base hp =>
          simp only [oc_some]
          refine ia_good hr p.1 p.2 n m B base hp e _ fun sz hz hlt => ?_
          have hsz := fun w => szOf_run (P := P) hz w
          have hlt' : (n : Int) < (m : Int) := by omega
          simp [Instr.indexAt, Sem.run_bind, asIntOf, run_underlying (hT.arr hk), Instr.sureAddr, hsz, Result.andThen, add_none, hlt, Nat.add_assoc]
      case slice e =>
        show VG P B0 g h w _ (oc .no (fun s => ia h s.b s.o n s.len (szOf (mkTI P) e)) (asSlc x))
        cases h2 : asSlc x with
        | none => trivial
        | some s =>
          have := asSlc_some h2; subst this
          obtain ⟨B, base, m, ro, hp, rfl, hro⟩ := hx.slc_form
          simp only [oc_some]
          refine ia_good hr s.b s.o n s.len B base hp e _ fun sz hz hlt => ?_
          obtain rfl := hro (by omega)
          have hsz := fun w => szOf_run (P := P) hz w
          have hlt' : (n : Int) < (s.len : Int) := by omega
          simp [Instr.indexAt, Sem.run_bind, asIntOf, run_underlying (hT.slice hk), hsz, Result.andThen, add_none, hlt, Nat.add_assoc]
      all_goals trivial
theorem index_good (hr : HR B0 g h w) (t : TypeId) (x i : AV) (xv iv : Value) (hx : VR g x xv) (hi : VR g i iv) : VG P B0 g h w (Instr.index t xv iv) (xIndex (mkTI P) h x (intNat i) (mkTI P t)) := by
  unfold xIndex
  cases h1 : intNat i with
  | none => trivial
  | some n =>
    obtain ⟨k, rfl⟩ := intNat_some h1
    cases hi
    simp only [oc_some]
    cases ht : mkTI P t with
    | none => trivial
    | some ti =>
      have hT := mkTI_some ht
      simp only [oc_some]
      cases hk : ti.kind
      case arr m e =>
        show VG P B0 g h w _ (oc .no (fun l => bi (Nat.blt n m) (oc .no (fun s => part h l (n * s) (mkTI P e)) (szOf (mkTI P) e)) .no) (asAgg x))
        cases h2 : asAgg x with
        | none => trivial
        | some l =>
          have := asAgg_some h2; subst this
          obtain ⟨l', rfl, hl, ho⟩ := hx.agg_inv
          simp only [oc_some]
          cases hb : Nat.blt n m
          · trivial
          · rw [bi_true]
            have hlt : n < m := by simpa [Nat.blt_eq] using hb
            cases hz : szOf (mkTI P) e with
            | none => trivial
            | some sz =>
              simp only [oc_some]
              have hsz := fun w => szOf_run (P := P) hz w
              have := part_good (P := P) hr e l l' hl ho (n * sz)
              have e : (Instr.index t (.agg l'.toArray) (.int k (n : Int))).run P w = (Go.part e l'.toArray (n * sz)).run P w := by
                simp [Instr.index, Sem.run_bind, asIntOf, run_underlying (hT.arr hk), hsz, Result.andThen, hlt]
              unfold VG at this ⊢
              rw [e]
              exact this
      case str =>
        show VG P B0 g h w _ (oc .no (fun l => oc .no (fun n => .val (.int .u8 (.ofNat n)) h) (idx n l)) (asStr x))
        cases h2 : asStr x with
        | none => trivial
        | some l =>
          have := asStr_some h2; subst this
          obtain ⟨s, rfl, rfl⟩ := hx.str_inv
          simp only [oc_some, idx_eq]
          cases hb : (byteL s.data.toList)[n]? with
          | none => trivial
          | some c =>
            simp only [oc_some]
            rw [byteL_eq, List.getElem?_map] at hb
            cases hc : s.data.toList[n]? with
            | none => rw [hc] at hb; cases hb
            | some u =>
              rw [hc] at hb
              injection hb with hb
              subst hb
              refine VG.same hr ?_ (.int _ _)
              have hn : n < s.size := by
                have := (List.getElem?_eq_some_iff.1 hc).1
                simpa using this
              have hget : s[n]? = some u := by
                rw [getElem?_pos s n hn]
                have := (List.getElem?_eq_some_iff.1 hc).2
                rw [← this]
                simp
                rfl
              simp [Instr.index, Sem.run_bind, asIntOf, run_underlying (hT.str hk), hget, Result.andThen]
      all_goals trivial
theorem extract_good (hr : HR B0 g h w) (x : AV) (xv : Value) (hx : VR g x xv) (i : Nat) : VG P B0 g h w (Instr.extract xv i) (xExtract h i x) := by
  unfold xExtract
  cases h1 : asTup x with
  | none => trivial
  | some l =>
    have := asTup_some h1; subst this
    obtain ⟨l', rfl, hl⟩ := hx.tup_inv
    simp only [oc_some, idx_eq]
    refine kVal_good hr fun v hv => ?_
    obtain ⟨v', e, hvv⟩ := hl.at hv
    exact ⟨v', by simp [Instr.extract, e], hvv⟩
end
end Go.Proofs.YtimjbojoeacaeaaDoor.Kx
