/- The evaluator's operations do what the model's do: without writing, and new blocks. -/
import Derived.Test.YtimjbojoeacaeaaDoorKxRel
import Derived.Laws.Cells
namespace Go.Proofs.YtimjbojoeacaeaaDoor.Kx

section
variable {P : Program} {B0 : Nat} {g : G} {h : H} {w : World}

/-- A value that an operation gives. -/
def VG (P : Program) (B0 : Nat) (g : G) (h : H) (w : World) (s : Sem Value) : XR → Prop
  | .no => True
  | .val v h' => ∃ v' w' g', s.run P w = .ok v' w' ∧ VR g' v v' ∧ Tr B0 g h w g' h' w'
  | .call _ _ _ => False
theorem VG.same (hr : HR B0 g h w) {s : Sem Value} {v : AV} {v' : Value} (hs : s.run P w = .ok v' w) (hv : VR g v v') : VG P B0 g h w s (.val v h) := ⟨v', w, g, hs, hv, .refl hr⟩

theorem asBool_some {x : AV} {b : Bool} (e : asBool x = some b) : x = .bool b := by cases x <;> first | (injection e with e; subst e; rfl) | cases e
theorem asInt_some {x : AV} {p : IntKind × Int} (e : asInt x = some p) : x = .int p.1 p.2 := by cases x <;> first | (injection e with e; subst e; rfl) | cases e
theorem asXnat_some {x : AV} {n : Nat} (e : asXnat x = some n) : x = .xnat n := by cases x <;> first | (injection e with e; subst e; rfl) | cases e
theorem asXi_some {x : AV} {z : Xi} (e : asXi x = some z) : x = .xi z := by cases x <;> first | (injection e with e; subst e; rfl) | cases e
theorem asXres_some {x : AV} {r : Xr} (e : asXres x = some r) : x = .xres r.k r.m r.r := by cases x <;> first | (injection e with e; subst e; rfl) | cases e
theorem asStr_some {x : AV} {l : List Nat} (e : asStr x = some l) : x = .str l := by cases x <;> first | (injection e with e; subst e; rfl) | cases e
theorem asPtr_some {x : AV} {p : Nat × Nat} (e : asPtr x = some p) : x = .ptr p.1 p.2 := by cases x <;> first | (injection e with e; subst e; rfl) | cases e
theorem asSlc_some {x : AV} {s : Slc} (e : asSlc x = some s) : x = .slc s.b s.o s.len s.cap := by cases x <;> first | (injection e with e; subst e; rfl) | cases e
theorem asMap_some {x : AV} {b : Nat} (e : asMap x = some b) : x = .map b := by cases x <;> first | (injection e with e; subst e; rfl) | cases e
theorem asAgg_some {x : AV} {l : List AV} (e : asAgg x = some l) : x = .agg l := by cases x <;> first | (injection e with e; subst e; rfl) | cases e
theorem asTup_some {x : AV} {l : List AV} (e : asTup x = some l) : x = .tup l := by cases x <;> first | (injection e with e; subst e; rfl) | cases e
theorem isNils_true {x : AV} (e : isNils x = true) : x = .nils := by cases x <;> first | rfl | cases e
theorem isNilm_true {x : AV} (e : isNilm x = true) : x = .nilm := by cases x <;> first | rfl | cases e
theorem intNat_some {x : AV} {n : Nat} (e : intNat x = some n) : ∃ k, x = .int k n := by
  cases x <;> first | (exact absurd e (by intro e; cases e)) | skip
  rename_i k z
  cases z with
  | ofNat m => injection e with e; subst e; exact ⟨k, rfl⟩
  | negSucc m => cases e
theorem objCells_some {o : Option AObj} {c : List AV × TypeId} (e : objCells o = some c) : o = some (.cells c.1 c.2) := by
  cases o with
  | none => cases e
  | some o => cases o <;> first | (injection e with e; subst e; rfl) | cases e
theorem objMap_some {o : Option AObj} {m : Mp} (e : objMap o = some m) : o = some (.map m.es m.clock) := by
  cases o with
  | none => cases e
  | some o => cases o <;> first | (injection e with e; subst e; rfl) | cases e
theorem elemK_some {k : TK} {e : TypeId} (h : elemK k = some e) : k = .slice e := by cases k <;> first | (injection h with h; subst h; rfl) | cases h
theorem mapK_some {k : TK} {q : TypeId × TypeId} (h : mapK k = some q) : k = .map q.1 q.2 := by cases k <;> first | (injection h with h; subst h; rfl) | cases h

/-! Constants. -/
theorem ofV1_VR (g : G) (v : Value) : VR g (ofV1 v) v := by
  cases v with
  | bool b => exact .bool b
  | int k n => exact .int k n
  | string s => exact .str s
  | pointer a => cases a with
    | none => exact .nilp
    | some a => exact .any _
  | slice a n c => cases a with
    | none =>
      show VR g (zz n c) _
      unfold zz
      rw [bi_eq, bi_eq]
      split
      · split
        · rename_i h1 h2
          have h1 : n = 0 := by simpa using h1
          have h2 : c = 0 := by simpa using h2
          subst h1; subst h2
          exact .nils
        · exact .any _
      · exact .any _
    | some a => exact .any _
  | map r => cases r with
    | none => exact .nilm
    | some a => exact .any _
  | nilFunc => exact .nilf
  | nilIface => exact .nili
  | _ => exact .any _
theorem ofVs_VRs (g : G) (l : List Value) : VRs g (ofVs l) l := by
  induction l with
  | nil => exact .nil
  | cons a r ih => exact .cons _ _ _ _ (ofV1_VR g a) ih
theorem ofV_eq (v : Value) : (∃ cs, v = .agg cs) ∨ ofV v = ofV1 v := by
  cases v <;> first | exact .inr rfl | exact .inl ⟨_, rfl⟩
theorem cellOk_one {v : AV} {v' : Value} (hc : cellOk v = true) (hv : VR g v v') : one1 v' = true := by
  cases hv <;> first | rfl | cases hc
theorem allCell_one {l : List AV} {l' : List Value} (hc : allCell l = true) (hv : VRs g l l') : ∀ x ∈ l', one1 x = true := by
  induction l generalizing l' with
  | nil => cases hv; intro x hx; cases hx
  | cons a r ih =>
    cases hv with | cons _ a' _ r' h hs =>
    have hc : bi (cellOk a) (allCell r) false = true := hc
    rw [bi_eq] at hc
    split at hc
    · rename_i h1
      intro x hx
      rcases List.mem_cons.1 hx with rfl | hx
      · exact cellOk_one h1 h
      · exact ih hc hs x hx
    · cases hc
theorem ofV_VR (g : G) (v : Value) : VR g (ofV v) v := by
  rcases ofV_eq v with ⟨cs, rfl⟩ | e
  · show VR g (aggC (ofVs cs.toList)) _
    unfold aggC
    cases hc : allCell (ofVs cs.toList)
    · exact .any _
    · exact .agg (ofVs cs.toList) cs.toList (ofVs_VRs g cs.toList) (allCell_one hc (ofVs_VRs g cs.toList))
  · rw [e]
    exact ofV1_VR g v

/-! Types. -/
structure TOk (P : Program) (t : TypeId) (ti : TI) : Prop where
  ex : ∃ i d z, P.info? t = some i ∧ P.underlying t = some d ∧ i.zero = some z ∧ ti = ⟨kOf d, i.size, i.bytes, zeroCellsOf z, eqsOf P t d⟩ ∧ allCell (zeroCellsOf z) = true ∧ (zeroCellsOf z).length = i.size ∧ isAgg (kOf d) = isAggV z
theorem mkTI_some {t : TypeId} {ti : TI} (e : mkTI P t = some ti) : TOk P t ti := by
  unfold mkTI at e
  cases hi : P.info? t with
  | none => rw [hi] at e; cases e
  | some i =>
    cases hd : P.underlying t with
    | none => rw [hi, hd] at e; cases e
    | some d =>
      cases hz : i.zero with
      | none => rw [hi, hd] at e; simp only [oc_some, hz] at e; cases e
      | some z =>
        rw [hi, hd] at e
        simp only [oc_some, hz] at e
        cases ha : allCell (zeroCellsOf z)
        · rw [ha] at e; cases e
        · rw [ha, bi_true] at e
          cases hb : Nat.beq (len (zeroCellsOf z)) i.size
          · rw [hb] at e; cases e
          · rw [hb, bi_true] at e
            have hb := Nat.eq_of_beq_eq_true hb
            rw [len_eq] at hb
            have hag : isAgg (kOf d) = isAggV z ∧ some (TI.mk (kOf d) i.size i.bytes (zeroCellsOf z) (eqsOf P t d)) = some ti := by
              cases h1 : isAgg (kOf d) <;> cases h2 : isAggV z <;> rw [h1, h2] at e <;> first | (cases e; done) | exact ⟨rfl, e⟩
            obtain ⟨hag, e⟩ := hag
            injection e with e
            exact ⟨i, d, z, hi, hd, hz, e.symm, ha, hb, hag⟩
theorem TOk.sizeOf {t : TypeId} {ti : TI} (h : TOk P t ti) (w : World) : (sizeOf t).run P w = .ok ti.size w := by
  obtain ⟨i, d, z, hi, hd, hz, e, ha, hb, hag⟩ := h.ex
  subst e
  simp [Go.sizeOf, run_typeInfo _ hi]
theorem TOk.und {t : TypeId} {ti : TI} (h : TOk P t ti) : ∃ d, P.underlying t = some d ∧ ti.kind = kOf d := by
  obtain ⟨i, d, z, hi, hd, hz, e, ha, hb, hag⟩ := h.ex
  subst e
  exact ⟨d, hd, rfl⟩
theorem TOk.isAgg {t : TypeId} {ti : TI} (h : TOk P t ti) (w : World) : (Go.isAgg t).run P w = .ok (isAgg ti.kind) w := by
  obtain ⟨d, hd, hk⟩ := h.und
  rw [hk]
  cases d <;> simp [Go.isAgg, run_underlying hd] <;> rfl
theorem TOk.slice {t e : TypeId} {ti : TI} (h : TOk P t ti) (hk : ti.kind = .slice e) : P.underlying t = some (.slice e) := by
  obtain ⟨d, hd, hk'⟩ := h.und
  rw [hk] at hk'
  cases d <;> first | (injection hk' with hk'; subst hk'; exact hd) | cases hk'
theorem TOk.arr {t e : TypeId} {n : Nat} {ti : TI} (h : TOk P t ti) (hk : ti.kind = .arr n e) : P.underlying t = some (.array n e) := by
  obtain ⟨d, hd, hk'⟩ := h.und
  rw [hk] at hk'
  cases d <;> first | (injection hk' with hk' hk''; subst hk'; subst hk''; exact hd) | cases hk'
theorem TOk.str {t : TypeId} {ti : TI} (h : TOk P t ti) (hk : ti.kind = .str) : P.underlying t = some .string := by
  obtain ⟨d, hd, hk'⟩ := h.und
  rw [hk] at hk'
  cases d <;> first | exact hd | cases hk'
theorem TOk.int {t : TypeId} {k : IntKind} {ti : TI} (h : TOk P t ti) (hk : ti.kind = .int k) : P.underlying t = some (.int k) := by
  obtain ⟨d, hd, hk'⟩ := h.und
  rw [hk] at hk'
  cases d <;> first | (injection hk' with hk'; subst hk'; exact hd) | cases hk'
theorem TOk.map {t x e : TypeId} {ti : TI} (h : TOk P t ti) (hk : ti.kind = .map x e) : P.underlying t = some (.map x e) := by
  obtain ⟨d, hd, hk'⟩ := h.und
  rw [hk] at hk'
  cases d <;> first | (injection hk' with hk' hk''; subst hk'; subst hk''; exact hd) | cases hk'
theorem TOk.struct {t : TypeId} {fs : List (Nat × TypeId)} {ti : TI} (h : TOk P t ti) (hk : ti.kind = .struct fs) : ∃ fields, P.underlying t = some (.struct fields) ∧ fs = fields.toList.map fun f => (f.offset, f.type) := by
  obtain ⟨d, hd, hk'⟩ := h.und
  rw [hk] at hk'
  cases d <;> first | (injection hk' with hk'; exact ⟨_, hd, hk'⟩) | cases hk'
theorem TOk.zero {t : TypeId} {ti : TI} (h : TOk P t ti) (g : G) : ∃ z, (∀ w, (zeroValue t).run P w = .ok z w) ∧ VRs g ti.zero z.cells.toList ∧ (∀ x ∈ z.cells.toList, one1 x = true) ∧ z.cells.size = ti.size ∧ ti.zero.length = ti.size := by
  obtain ⟨i, d, z, hi, hd, hz, e, ha, hb, hag⟩ := h.ex
  subst e
  have hv : VRs g (zeroCellsOf z) z.cells.toList := ofVs_VRs g _
  refine ⟨z, fun w => by simp [zeroValue, run_typeInfo _ hi, hz], hv, allCell_one ha hv, ?_, hb⟩
  have := hv.length
  simp at this
  show z.cells.size = i.size
  omega
theorem TOk.zero1 {t : TypeId} {ti : TI} (h : TOk P t ti) (g : G) : ∃ z, (∀ w, (zeroValue t).run P w = .ok z w) ∧ VR g (zeroOf ti) z := by
  obtain ⟨i, d, z, hi, hd, hz, e, ha, hb, hag⟩ := h.ex
  subst e
  have hv : VRs g (zeroCellsOf z) z.cells.toList := ofVs_VRs g _
  refine ⟨z, fun w => by simp [zeroValue, run_typeInfo _ hi, hz], ?_⟩
  unfold zeroOf
  dsimp only
  cases hk : Kx.isAgg (kOf d)
  · rw [bi_false]
    rw [hk] at hag
    have hc : z.cells = #[z] := by cases z <;> first | rfl | cases hag
    unfold zeroCellsOf
    rw [hc]
    exact ofV1_VR g z
  · rw [bi_true]
    rw [hk] at hag
    have hc : ∃ cs, z = .agg cs := by cases z <;> first | exact ⟨_, rfl⟩ | cases hag
    obtain ⟨cs, rfl⟩ := hc
    exact .agg _ cs.toList hv (allCell_one ha hv)
theorem TOk.bytes {t : TypeId} {ti : TI} (h : TOk P t ti) : ∃ i, P.info? t = some i ∧ i.bytes = ti.bytes := by
  obtain ⟨i, d, z, hi, hd, hz, e, ha, hb, hag⟩ := h.ex
  subst e
  exact ⟨i, hi, rfl⟩
theorem szOf_some {t : TypeId} {s : Nat} (e : szOf (mkTI P) t = some s) : ∃ ti, mkTI P t = some ti ∧ ti.size = s := by
  unfold szOf at e
  cases ht : mkTI P t with
  | none => rw [ht] at e; cases e
  | some ti => rw [ht] at e; injection e with e; exact ⟨ti, rfl, e⟩
theorem szOf_run {t : TypeId} {s : Nat} (e : szOf (mkTI P) t = some s) (w : World) : (Go.sizeOf t).run P w = .ok s w := by
  obtain ⟨ti, ht, rfl⟩ := szOf_some e
  exact (mkTI_some ht).sizeOf w

/-! Cells. -/
theorem HR.row (hr : HR B0 g h w) {b : Nat} {c : List AV × TypeId} {B base : Nat} (hc : objCells (h.m.get b) = some c) (hp : g.pos b = some (B, base)) : CR g b B base c.1 c.2 w :=
  hr.cells b c.1 c.2 B base (objCells_some hc) hp
theorem CR.cell {b B base : Nat} {l : List AV} {t : TypeId} (hc : CR g b B base l t w) {i : Nat} {v : AV} (hv : l[i]? = some v) : ∃ v', w.cell? ⟨B, base + i, none⟩ = some v' ∧ VR g v v' ∧ one1 v' = true := by
  obtain ⟨cs, fr, h1, h2, h3, h4, h5⟩ := hc.ex
  obtain ⟨v', e, hv', ho⟩ := h4 i v hv
  exact ⟨v', by simp [World.cell?, h1, e], hv', ho⟩
theorem add_none (B o k : Nat) : (⟨B, o, none⟩ : Addr).add k = ⟨B, o + k, none⟩ := by
  unfold Addr.add
  split
  · simp_all
  · rfl
/-- A piece of a row, read. -/
theorem CR.cells {b B base : Nat} {l : List AV} {t : TypeId} (hc : CR g b B base l t w) {o n : Nat} {r : List AV} (hs : sub l o n = some r) :
    ∃ cs : List Value, cs.length = n ∧ VRs g r cs ∧ (∀ x ∈ cs, one1 x = true) ∧ (loadCells ⟨B, base + o, none⟩ n).run P w = .ok cs.toArray w ∧ ∀ (j : Nat) (v : Value), cs[j]? = some v → w.cell? ((⟨B, base + o, none⟩ : Addr).add j) = some v := by
  obtain ⟨h1, rfl⟩ := sub_some hs
  obtain ⟨cs, fr, e1, e2, e3, e4, e5⟩ := hc.ex
  have hlen : ((cs.toList.drop (base + o)).take n).length = n := by simp; omega
  have hcell : ∀ (j : Nat) (v : Value), ((cs.toList.drop (base + o)).take n)[j]? = some v → w.cell? ((⟨B, base + o, none⟩ : Addr).add j) = some v := by
    intro j v hv
    rw [List.getElem?_take] at hv
    split at hv
    · rw [List.getElem?_drop] at hv
      rw [add_none]
      simpa [World.cell?, e1] using hv
    · cases hv
  refine ⟨(cs.toList.drop (base + o)).take n, hlen, VRs.of_at (by simp; omega) (fun i v hv => ?_), fun x hx => ?_, ?_, hcell⟩
  · rw [List.getElem?_take] at hv
    split at hv
    · rename_i hi
      rw [List.getElem?_drop] at hv
      obtain ⟨v', a1, a2, _⟩ := e4 (o + i) v hv
      refine ⟨v', ?_, a2⟩
      rw [List.getElem?_take, if_pos hi, List.getElem?_drop, ← a1, Nat.add_assoc]
      simp
    · cases hv
  · obtain ⟨i, hi⟩ := List.mem_iff_getElem?.1 hx
    have hi' : i < n := by
      have := (List.getElem?_eq_some_iff.1 hi).1
      omega
    rw [List.getElem?_take, if_pos hi', List.getElem?_drop] at hi
    have hlt : o + i < l.length := by omega
    obtain ⟨v', a1, _, a3⟩ := e4 (o + i) _ (List.getElem?_eq_getElem hlt)
    rw [← Nat.add_assoc] at a1
    have : cs[base + o + i]? = some x := by simpa using hi
    rw [this] at a1
    injection a1 with a1
    subst a1
    exact a3
  · have := run_loadCells_list (P := P) w ⟨B, base + o, none⟩ ((cs.toList.drop (base + o)).take n) hcell
    rw [hlen] at this
    exact this

/-! A load. -/
theorem load_good (hr : HR B0 g h w) (t : TypeId) (x : AV) (xv : Value) (hx : VR g x xv) : VG P B0 g h w (Instr.loadAt t xv) (xLoad h x (mkTI P t)) := by
  unfold xLoad
  cases e1 : asPtr x with
  | none => trivial
  | some p =>
    have := asPtr_some e1; subst this
    cases hx with | ptr b o B base hp =>
    cases e2 : mkTI P t with
    | none => trivial
    | some ti =>
      have ht := mkTI_some e2
      simp only [oc_some]
      cases e3 : objCells (h.m.get p.1) with
      | none => trivial
      | some c =>
        simp only [oc_some]
        have hc := hr.row e3 hp
        unfold ld
        cases ha : isAgg ti.kind
        · simp only [bi_false, idx_eq]
          cases e4 : c.1[p.2]? with
          | none => trivial
          | some v =>
            obtain ⟨v', a1, a2, _⟩ := hc.cell e4
            refine VG.same hr ?_ a2
            simp [Instr.loadAt, Instr.sureAddr, loadVar, Sem.run_bind, ht.isAgg, ha, a1, Result.andThen]
        · simp only [bi_true]
          cases e4 : sub c.1 p.2 ti.size with
          | none => trivial
          | some r =>
            obtain ⟨cs, a1, a2, a3, a4, _⟩ := hc.cells (P := P) e4
            refine VG.same hr ?_ (.agg r cs a2 a3)
            simp [Instr.loadAt, Instr.sureAddr, loadVar, Sem.run_bind, ht.isAgg, ha, ht.sizeOf, a4, Result.andThen]
end
end Go.Proofs.YtimjbojoeacaeaaDoor.Kx
