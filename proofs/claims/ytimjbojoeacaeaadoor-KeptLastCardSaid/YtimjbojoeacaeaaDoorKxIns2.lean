/- Parts of my evaluator, one behind the other: KxExt KxIns KxIns2. -/
import Derived.Test.YtimjbojoeacaeaaDoorKxMain
import Derived.Lib.Bytealg
import Derived.Laws.IdiomCopy
/- Calls known beforehand: the model's own entries for bytes in strings. -/
namespace Go.Proofs.YtimjbojoeacaeaaDoor.Kx
noncomputable section
def ixB (n : Nat) (l : List Nat) : Nat → Int := @List.rec Nat (fun _ => Nat → Int) (fun _ => .negSucc (nat_lit 0)) (fun c _ g i => bi (Nat.beq c n) (.ofNat i) (g (Nat.succ i))) l
def ctB (n : Nat) (l : List Nat) : Nat → Nat := @List.rec Nat (fun _ => Nat → Nat) (fun k => k) (fun c _ g k => bi (Nat.beq c n) (nF (Nat.succ k) g) (g k)) l
def cmB (x : List Nat) : List Nat → Int := @List.rec Nat (fun _ => List Nat → Int) (fun y => @List.rec Nat (fun _ => Int) (.ofNat (nat_lit 0)) (fun _ _ _ => .negSucc (nat_lit 0)) y)
  (fun a _ g y => @List.rec Nat (fun _ => Int) (.ofNat (nat_lit 1)) (fun b r _ => bi (Nat.blt a b) (.negSucc (nat_lit 0)) (bi (Nat.blt b a) (.ofNat (nat_lit 1)) (g r))) y) x
def ovIndexByte (l : List AV) (h : H) : XR := hd2 (fun s c => oc .no (fun l => oc .no (fun n => kInt (ixB n l (nat_lit 0)) h .i64) (byteN c)) (asStr s)) l
def ovCount (l : List AV) (h : H) : XR := hd2 (fun s c => oc .no (fun l => oc .no (fun n => kInt (.ofNat (ctB n l (nat_lit 0))) h .i64) (byteN c)) (asStr s)) l
def ovCompare (l : List AV) (h : H) : XR := hd2 (fun s t => oc .no (fun a => oc .no (fun b => kInt (cmB a b) h .i64) (asStr t)) (asStr s)) l
end
theorem u8_eq (a b : UInt8) : Nat.beq a.toNat b.toNat = (a == b) := by
  rw [Bool.eq_iff_iff]
  simp only [beq_iff_eq]
  constructor
  · intro h; exact UInt8.toNat_inj.1 (Nat.eq_of_beq_eq_true h)
  · intro h; subst h; simp
theorem u8_of {n : Nat} (h : n < 256) : (Int.toNat (n : Int)).toUInt8.toNat = n := by
  simp
  omega
theorem ixB_eq (c : UInt8) : ∀ (l : List UInt8) (i : Nat), ixB c.toNat (byteL l) i = if Lib.indexByte l c = -1 then -1 else Lib.indexByte l c + i
  | [], i => by rfl
  | b :: r, i => by
    show bi (Nat.beq b.toNat c.toNat) (Int.ofNat i) (ixB c.toNat (byteL r) (i + 1)) = _
    rw [u8_eq, ixB_eq c r (i + 1), Lib.indexByte]
    have := Lib.indexByte_ge r c
    cases hb : b == c
    · rw [bi_false]
      by_cases hm : Lib.indexByte r c = -1
      · simp [hm]
      · rw [if_neg hm]
        have hb' : (Lib.indexByte r c == -1) = false := by simpa using hm
        simp only [hb', Bool.false_eq_true, if_false]
        rw [if_neg (by omega)]
        push_cast
        omega
    · rw [bi_true]
      simp
theorem ctB_eq (c : UInt8) : ∀ (l : List UInt8) (k : Nat), ctB c.toNat (byteL l) k = k + l.count c
  | [], k => by show k = k + [].count c; simp
  | b :: r, k => by
    show bi (Nat.beq b.toNat c.toNat) (nF (k + 1) (ctB c.toNat (byteL r))) (ctB c.toNat (byteL r) k) = _
    rw [u8_eq, List.count_cons, nF_eq, ctB_eq c r, ctB_eq c r]
    cases hb : b == c
    · simp
    · simp; omega
theorem cmB_eq : ∀ (a b : List UInt8), cmB (byteL a) (byteL b) = Lib.compareBytes a b
  | [], [] => rfl
  | [], _ :: _ => rfl
  | _ :: _, [] => rfl
  | a :: r, b :: s => by
    show bi (Nat.blt a.toNat b.toNat) (-1) (bi (Nat.blt b.toNat a.toNat) 1 (cmB (byteL r) (byteL s))) = _
    rw [cmB_eq r s, Lib.compareBytes]
    have h1 : Nat.blt a.toNat b.toNat = decide (a < b) := by
      rw [Bool.eq_iff_iff]
      simp [Nat.blt_eq, UInt8.lt_iff_toNat_lt]
    have h2 : Nat.blt b.toNat a.toNat = decide (b < a) := by
      rw [Bool.eq_iff_iff]
      simp [Nat.blt_eq, UInt8.lt_iff_toNat_lt]
    rw [h1, h2]
    by_cases e1 : a < b
    · simp [e1]
    · by_cases e2 : b < a
      · simp [e1, e2]
      · simp [e1, e2]
/-- An entry of the model's. -/
structure IsExt (P : Program) (F : FuncId) (e : Array Value → Sem Value) : Prop where
  ex : ∃ fn, P.funcs[F]? = some fn ∧ (fn.name == "runtime.NumGoroutine") = false ∧ fn.body.isNone = true ∧ Extern.findNext fn = none ∧ Extern.find fn = some e
theorem ext_ok {P : Program} {F : FuncId} {e : Array Value → Sem Value} (hf : IsExt P F e) {x : List AV → H → XR}
    (hx : ∀ args h v h', x args h = .val v h' → h' = h ∧ ∀ g args', VRs g args args' → ∃ v', (∀ w, (e args'.toArray).run P w = .ok v' w) ∧ VR g v v') : OvOk P F x := by
  intro args h v h' hv B0 g w args' hE hargs
  obtain ⟨rfl, hx⟩ := hx args h v h' hv
  obtain ⟨v', h1, h2⟩ := hx g args' hargs
  obtain ⟨fn, a1, a2, a3, a4, a5⟩ := hf.ex
  left
  exact ⟨v', w, g, by rw [run_callFunc_extern a1 a2 a3 a4 a5, h1]; rfl, h2, .refl hE.hr⟩
theorem byteN_inv {g : G} {c : AV} {n : Nat} (e : byteN c = some n) {cv : Value} (hc : VR g c cv) : n < 256 ∧ cv = .int .u8 n := by
  obtain ⟨rfl, h⟩ := byteN_some e
  cases hc
  exact ⟨h, rfl⟩
theorem ovIndexByte_ok {P : Program} {F : FuncId} (hf : IsExt P F Extern.BytealgIndexByte.indexByte) : OvOk P F ovIndexByte := by
  refine ext_ok hf fun args h v h' hv => ?_
  unfold ovIndexByte at hv
  rcases hd2_cases (fun s c => oc .no (fun l => oc .no (fun n => kInt (ixB n l 0) h .i64) (byteN c)) (asStr s)) args with e | ⟨s, c, rfl, e⟩
  · rw [e] at hv; cases hv
  · rw [e] at hv
    cases h1 : asStr s with
    | none => rw [h1] at hv; cases hv
    | some l =>
      cases h2 : byteN c with
      | none => rw [h1, h2] at hv; cases hv
      | some n =>
        rw [h1, h2] at hv
        simp only [oc_some] at hv
        rw [kInt_eq] at hv
        injection hv with e1 e2
        subst e1
        refine ⟨e2.symm, fun g args' hargs => ?_⟩
        have := asStr_some h1; subst this
        cases hargs with | cons _ sv _ _ hs hl =>
        cases hl with | cons _ cv _ _ hc hl =>
        cases hl
        obtain ⟨str, rfl, rfl⟩ := hs.str_inv
        obtain ⟨hn, rfl⟩ := byteN_inv h2 hc
        refine ⟨_, fun w => Lib.run_indexByteString str n w, ?_⟩
        have := ixB_eq (Int.toNat (n : Int)).toUInt8 str.data.toList 0
        rw [u8_of hn] at this
        rw [this]
        have e : (if Lib.indexByte str.data.toList (Int.toNat (n : Int)).toUInt8 = -1 then -1 else Lib.indexByte str.data.toList (Int.toNat (n : Int)).toUInt8 + ((0 : Nat) : Int)) = Lib.indexByte str.data.toList (Int.toNat (n : Int)).toUInt8 := by
          split
          · rename_i hh; exact hh.symm
          · exact Int.add_zero _
        rw [e]
        exact .int _ _
theorem ovCount_ok {P : Program} {F : FuncId} (hf : IsExt P F Extern.BytealgCount.count) : OvOk P F ovCount := by
  refine ext_ok hf fun args h v h' hv => ?_
  unfold ovCount at hv
  rcases hd2_cases (fun s c => oc .no (fun l => oc .no (fun n => kInt (.ofNat (ctB n l 0)) h .i64) (byteN c)) (asStr s)) args with e | ⟨s, c, rfl, e⟩
  · rw [e] at hv; cases hv
  · rw [e] at hv
    cases h1 : asStr s with
    | none => rw [h1] at hv; cases hv
    | some l =>
      cases h2 : byteN c with
      | none => rw [h1, h2] at hv; cases hv
      | some n =>
        rw [h1, h2] at hv
        simp only [oc_some] at hv
        rw [kInt_eq] at hv
        injection hv with e1 e2
        subst e1
        refine ⟨e2.symm, fun g args' hargs => ?_⟩
        have := asStr_some h1; subst this
        cases hargs with | cons _ sv _ _ hs hl =>
        cases hl with | cons _ cv _ _ hc hl =>
        cases hl
        obtain ⟨str, rfl, rfl⟩ := hs.str_inv
        obtain ⟨hn, rfl⟩ := byteN_inv h2 hc
        refine ⟨_, fun w => Lib.run_countString str n w, ?_⟩
        have := ctB_eq (Int.toNat (n : Int)).toUInt8 str.data.toList 0
        rw [u8_of hn, Nat.zero_add] at this
        rw [this]
        exact .int _ _
theorem ovCompare_ok {P : Program} {F : FuncId} (hf : IsExt P F Extern.BytealgCompare.compare) : OvOk P F ovCompare := by
  refine ext_ok hf fun args h v h' hv => ?_
  unfold ovCompare at hv
  rcases hd2_cases (fun s t => oc .no (fun a => oc .no (fun b => kInt (cmB a b) h .i64) (asStr t)) (asStr s)) args with e | ⟨s, c, rfl, e⟩
  · rw [e] at hv; cases hv
  · rw [e] at hv
    cases h1 : asStr s with
    | none => rw [h1] at hv; cases hv
    | some l =>
      cases h2 : asStr c with
      | none => rw [h1, h2] at hv; cases hv
      | some m =>
        rw [h1, h2] at hv
        simp only [oc_some] at hv
        rw [kInt_eq] at hv
        injection hv with e1 e2
        subst e1
        refine ⟨e2.symm, fun g args' hargs => ?_⟩
        have := asStr_some h1; subst this
        have := asStr_some h2; subst this
        cases hargs with | cons _ sv _ _ hs hl =>
        cases hl with | cons _ cv _ _ hc hl =>
        cases hl
        obtain ⟨a, rfl, rfl⟩ := hs.str_inv
        obtain ⟨b, rfl, rfl⟩ := hc.str_inv
        refine ⟨_, fun w => Lib.run_compareString a b w, ?_⟩
        rw [cmB_eq]
        exact .int _ _
end Go.Proofs.YtimjbojoeacaeaaDoor.Kx

/- slices.Insert: what comes of cells that are laid over others; a row that goes on in place, or anew. -/
namespace Go.Proofs.YtimjbojoeacaeaaDoor.Kx
section
variable {P : Program} {B0 : Nat} {g : G} {h : H} {w : World}

/-- Cells laid over others, from r on. -/
def lay (L : List Value) (r : Nat) (D : List Value) : List Value := L.take r ++ (D ++ L.drop (r + D.length))
theorem lay_length {L D : List Value} {r : Nat} (h : r + D.length ≤ L.length) : (lay L r D).length = L.length := by unfold lay; simp; omega
theorem lay_at {L D : List Value} {r : Nat} (h : r + D.length ≤ L.length) (j : Nat) : (lay L r D)[j]? = if j < r then L[j]? else if j < r + D.length then D[j - r]? else L[j]? := by
  unfold lay
  have hl : (L.take r).length = r := by simp; omega
  by_cases h1 : j < r
  · rw [if_pos h1, List.getElem?_append_left (by omega), List.getElem?_take, if_pos h1]
  · rw [if_neg h1, List.getElem?_append_right (by omega), hl]
    by_cases h2 : j < r + D.length
    · rw [if_pos h2, List.getElem?_append_left (by omega)]
    · rw [if_neg h2, List.getElem?_append_right (by omega), List.getElem?_drop]
      congr 1
      omega
theorem lay_lay {L V : List Value} {r a s m : Nat} (hV : V.length = s) (hm : a + m + s + r ≤ L.length) :
    lay (lay L (r + (a + s)) ((L.drop (r + a)).take m)) (r + a) V = lay L r (((L.drop r).take a) ++ (V ++ (L.drop (r + a)).take m)) := by
  have hD : ((L.drop (r + a)).take m).length = m := by simp; omega
  have hA : ((L.drop r).take a).length = a := by simp; omega
  have hL1 : (lay L (r + (a + s)) ((L.drop (r + a)).take m)).length = L.length := lay_length (by omega)
  apply List.ext_getElem?
  intro j
  rw [lay_at (by omega), lay_at (by omega), lay_at (by simp only [List.length_append]; omega)]
  simp only [List.length_append, hV, hD, hA]
  by_cases h1 : j < r
  · rw [if_pos h1, if_pos (by omega), if_pos (by omega)]
  · rw [if_neg h1]
    by_cases h2 : j < r + a
    · rw [if_pos h2, if_pos (by omega), if_pos (by omega), List.getElem?_append_left (by omega), List.getElem?_take, if_pos (by omega), List.getElem?_drop]
      congr 1
      omega
    · rw [if_neg h2]
      by_cases h3 : j < r + a + s
      · rw [if_pos h3, if_pos (by omega), List.getElem?_append_right (by omega), hA, List.getElem?_append_left (by omega)]
        congr 1
        omega
      · rw [if_neg h3, if_neg (by omega)]
        by_cases h4 : j < r + (a + s) + m
        · rw [if_pos h4, if_pos (by omega), List.getElem?_append_right (by omega), hA, List.getElem?_append_right (by omega), hV]
          congr 1
          omega
        · rw [if_neg h4, if_neg (by omega)]
theorem load_row {W : World} {B o n : Nat} {L : List Value} {t : TypeId} {fr : Nat × Nat} (hb : W.heap[B]? = some (.cells L.toArray t fr)) (hl : o + n ≤ L.length) : (loadCells ⟨B, o, none⟩ n).run P W = .ok ((L.drop o).take n).toArray W := by
  have := run_loadCells_list (P := P) W ⟨B, o, none⟩ ((L.drop o).take n) (fun j v hv => by
    rw [List.getElem?_take] at hv
    split at hv
    · rw [List.getElem?_drop] at hv
      rw [add_none]
      simpa [World.cell?, hb] using hv
    · cases hv)
  have hlen : ((L.drop o).take n).length = n := by simp; omega
  rw [hlen] at this
  exact this
theorem copy_row {t xt e ty : TypeId} {S : Nat} (hu : P.underlying t = some (.slice e)) (hsz : ∀ w, (Go.sizeOf e).run P w = .ok S w) {W : World} {B r : Nat} {t' : TypeId} {fr : Nat × Nat} {L : List Value} (hb : W.heap[B]? = some (.cells L.toArray t' fr))
    (hf : ∀ j : Nat, ¬ (fr.1 ≤ j ∧ j < fr.2)) (D : List Value) (h1 : ∀ v ∈ D, one1 v = true) (k dLen dCap sLen sCap : Nat) (hk : Nat.min sLen dLen = k) (hfit : r + D.length ≤ L.length) (sa : Addr) (hload : (loadCells sa (k * S)).run P W = .ok D.toArray W) :
    (Builtin.copy_ #[t, xt] ty #[.slice (some ⟨B, r, none⟩) dLen dCap, .slice (some sa) sLen sCap]).run P W = .ok (goInt k) (wset W B (.cells (lay L r D).toArray t' fr)) := by
  have hst := run_storeRow (P := P) B r t' fr D 0 L.toArray W hb hf (by simpa using hfit) h1
  simp only [Nat.add_zero] at hst
  subst hk
  unfold lay
  simp [Builtin.copy_, run_underlying hu, Builtin.lenOf, Builtin.firstCells, hsz, hload, goInt, Result.andThen, hst]
/-- A row that goes on in place. -/
theorem inplace_good (hr : HR B0 g h w) (hm : ∀ b o, h.m.get b = some o → b < h.next) (hp : g.pos h.next = none) (hgr : g.grow h.next = none) {b B base o k cc S ro need : Nat} {c : List AV × TypeId} (hob : objCells (h.m.get b) = some c) (hpb : g.pos b = some (B, base)) (ho : o = k * S)
    {L : List Value} {fr : Nat × Nat} (e1 : w.heap[B]? = some (.cells L.toArray c.2 fr)) (e2 : ∀ i : Nat, ¬ (fr.1 ≤ i ∧ i < fr.2)) (hs0 : 0 < S) (hle3 : base + cc * S ≤ L.length) (hreal : need ≤ cc - k) (hn0 : 0 < need) (hro : k < cc → ro = base + o)
    {N : List AV} {N' : List Value} (hN : VRs g N N') (hN1 : ∀ v ∈ N', one1 v = true) (hlen : N.length = need * S) {w1 : World} (hw1 : w1.heap = (wset w B (.cells (lay L (base + o) N').toArray c.2 fr)).heap) (hos : w1.os = w.os) (ht : w1.tape = w.tape) (hou : w1.output = w.output) :
    ∃ g1, VR g1 (.slc h.next 0 need (.v S 0)) (.slice (some ⟨B, ro, none⟩) need (cc - k)) ∧ Tr B0 g h w g1 ⟨(h.m.set b .dead).set h.next (.cells N c.2), Nat.succ h.next⟩ w1 := by
  have hBl : B < w.heap.size := (Array.getElem?_eq_some_iff.1 e1).1
  have hall : o + need * S ≤ cc * S := by
    rw [ho, ← Nat.add_mul]
    exact Nat.mul_le_mul_right _ (by omega)
  have hNl : N'.length = need * S := by rw [← hN.length, hlen]
  refine ⟨g.add h.next B (base + o) (some (cc - k, S)), ?_, Tr.move hr hm hp hgr b B base o ⟨_, objCells_some hob, by simp⟩ hpb _ _ _ ⟨(lay L (base + o) N').toArray, fr, by rw [hw1]; exact wset_same _ _ _ hBl, ?_, ?_, ?_, ?_⟩ (fun B' hB' => by rw [hw1]; exact wset_other _ _ _ _ hB') (by rw [hw1]; exact wset_size _ _ _) hos ht hou⟩
  · have := VR.slcv (g := g.add h.next B (base + o) (some (cc - k, S))) h.next 0 need 0 B (base + o) (cc - k) S ro (if_pos rfl) (if_pos rfl) (by simp) (by omega) (fun hlt => by rw [hro (by omega)]; rfl)
    rw [Nat.sub_zero] at this
    exact this
  · exact e2
  · simp only [List.size_toArray]
    rw [lay_length (by omega), hlen]
    omega
  · intro i v hv
    obtain ⟨v', q1, q2⟩ := hN.at hv
    have hi := (List.getElem?_eq_some_iff.1 q1).1
    refine ⟨v', ?_, q2.mono (G.add_le g _ _ _ _ hp hgr), hN1 v' (List.mem_of_getElem? q1)⟩
    simp only [List.getElem?_toArray]
    rw [lay_at (by omega), if_neg (by omega), if_pos (by omega), show base + o + i - (base + o) = i by omega]
    exact q1
  · intro c' s' hcs
    have : (some (cc - k, S) : Option (Nat × Nat)) = some (c', s') := by rw [← hcs]; exact (if_pos rfl).symm
    injection this with this
    injection this with e3 e4
    subst e3; subst e4
    refine ⟨hs0, by rw [hlen]; exact Nat.mul_le_mul_right _ hreal, ?_⟩
    have : (cc - k) * S + k * S = cc * S := by rw [← Nat.add_mul]; congr 1; omega
    simp only [List.size_toArray]
    rw [lay_length (by omega)]
    omega
theorem lay_grow {O Z1 Z2 V D : List Value} (hz : Z1.length = V.length + D.length) : lay (lay (O ++ Z1 ++ Z2) O.length V) (O.length + V.length) D = O ++ (V ++ D) ++ Z2 := by
  have h1 : (lay (O ++ Z1 ++ Z2) O.length V).length = (O ++ Z1 ++ Z2).length := lay_length (by simp; omega)
  apply List.ext_getElem?
  intro j
  rw [lay_at (by rw [h1]; simp; omega), lay_at (by simp; omega)]
  by_cases a1 : j < O.length
  · rw [if_pos (by omega), if_pos a1, List.append_assoc, List.append_assoc, List.getElem?_append_left a1, List.getElem?_append_left a1]
  · by_cases a2 : j < O.length + V.length
    · rw [if_pos a2, if_neg a1, if_pos a2, List.append_assoc O, List.getElem?_append_right (by omega), List.append_assoc V, List.getElem?_append_left (by omega)]
    · rw [if_neg a2]
      by_cases a3 : j < O.length + V.length + D.length
      · rw [if_pos a3, List.append_assoc O, List.getElem?_append_right (by omega), List.append_assoc V, List.getElem?_append_right (by omega), List.getElem?_append_left (by omega)]
        congr 1
        omega
      · rw [if_neg a3, if_neg a1, if_neg a2, List.getElem?_append_right (by simp; omega), List.getElem?_append_right (by simp; omega)]
        congr 1
        simp
        omega
theorem wset_push {W : World} {w : World} {ob o : Obj} (hW : W.heap = w.heap.push ob) : (wset W w.heap.size o).heap = w.heap.push o := by
  unfold wset
  simp only [hW]
  apply Array.ext_getElem?
  intro j
  rw [Array.getElem?_setIfInBounds]
  by_cases e : w.heap.size = j
  · subst e
    simp
  · rw [if_neg e, Array.getElem?_push, Array.getElem?_push, if_neg (fun h => e h.symm), if_neg (fun h => e h.symm)]
theorem push_at (w : World) (ob : Obj) {W : World} (hW : W.heap = w.heap.push ob) : W.heap[w.heap.size]? = some ob := by rw [hW]; simp
theorem push_below {w : World} {ob : Obj} {W : World} (hW : W.heap = w.heap.push ob) {b : Nat} (h : b < w.heap.size) : W.heap[b]? = w.heap[b]? := by rw [hW, Array.getElem?_push_lt h, Array.getElem?_eq_getElem h]
end
end Go.Proofs.YtimjbojoeacaeaaDoor.Kx

/- slices.Insert of one element, not at the end, into a row whose capacity is not known: known beforehand, out of the two walks of the instance's code. -/
namespace Go.Proofs.YtimjbojoeacaeaaDoor.Kx
noncomputable section
def ins3 (h : H) (e : TypeId) (te : TI) (b n t : Nat) (cap : Cap) (l : List AV) : XR := (@Cap.rec (fun _ => H → TypeId → TI → Nat → Nat → Nat → List AV → XR) (fun _ => fun _ _ _ _ _ _ _ => .no) (fun x _ => fun h e te b n t l => bi (Nat.beq x te.size) (bi (Nat.beq t e) (nF (Nat.succ n) fun n => kGrow (h.upd b .dead) e te n l) .no) .no) ) cap h e te b n t l
def ins2 (i size : Nat) (old new : List AV) : List AV := app (tak (Nat.mul i size) old) (app new (drp (Nat.mul i size) old))
def ins1 (h : H) (e : TypeId) (te : TI) (i : Nat) (s v : Slc) : XR :=
  bi (Nat.blt i s.len) (bi (Nat.beq v.len (nat_lit 1)) (bi (Nat.beq s.b v.b) .no
    (oc .no (fun c => oc .no (fun old => oc .no (fun new => ins3 h e te s.b s.len c.2 s.cap (ins2 i te.size old new)) (cellsAt h v.b v.o te.size)) (sub c.1 s.o (Nat.mul s.len te.size))) (objCells (h.m.get s.b)))) .no) .no
def i64Nat : AV → Option Nat := (@AV.rec (fun _ => Option Nat) (fun _ => Unit) (none) (fun _ => none) (fun k n => bi (Nat.beq (ikN k) (nat_lit 3)) (natI n) none) (fun _ => none) (none) (fun _ _ => none) (none) (fun _ _ _ _ => none) (none) (fun _ => none) (fun _ _ _ _ _ => none) (none) (fun _ _ _ => none) (none) (fun _ _ => none) (fun _ _ => none) (fun _ _ => none) (fun _ => none) (fun _ _ _ => none) (fun _ => none) (fun _ _ _ => none) () (fun _ _ _ _ => ()))
def hd3 {α : Type} (k : α → α → α → XR) (l : List α) : XR := @List.rec α (fun _ => XR) .no (fun x r _ => hd2 (k x) r) l
def ovInsert (Ty : TypeId → Option TI) (e : TypeId) (l : List AV) (h : H) : XR := hd3 (fun s i v => oc .no (fun te => oc .no (fun s => oc .no (fun i => oc .no (fun v => ins1 h e te i s v) (asSlc v)) (i64Nat i)) (asSlc s)) (Ty e)) l
end
section
variable {P : Program}
/-- What the two walks of an instance say: there is room; there is none. -/
structure InsT (P : Program) (F : FuncId) (e : TypeId) (S : Nat) : Prop where
  size : ∀ w, (Go.sizeOf e).run P w = .ok S w
  room : ∀ (b off n c i vb voff vc : Nat) (L LV : List Value) (t tV : TypeId) (fr frV : Nat × Nat) (w : World), i < n → n + 1 ≤ c → n + 1 ≤ 1048576 → vb ≠ b →
    w.heap[b]? = some (.cells L.toArray t fr) → (∀ j : Nat, ¬ (fr.1 ≤ j ∧ j < fr.2)) → off + (n + 1) * S ≤ L.length → w.heap[vb]? = some (.cells LV.toArray tV frV) → (∀ j : Nat, ¬ (frV.1 ≤ j ∧ j < frV.2)) → voff + S ≤ LV.length →
    (∀ v ∈ (L.drop (off + i * S)).take ((n - i) * S), one1 v = true) → (∀ v ∈ (LV.drop voff).take S, one1 v = true) →
    Calls P F #[.slice (some ⟨b, off, none⟩) n c, .int .i64 i, .slice (some ⟨vb, voff, none⟩) 1 vc] w fun e w' =>
      e = .returned (.slice (some ⟨b, off, none⟩) (n + 1) c) ∧ w' = wset (wset w.drew b (.cells (lay L (off + (i + 1) * S) ((L.drop (off + i * S)).take ((n - i) * S))).toArray t fr)) b (.cells (lay (lay L (off + (i + 1) * S) ((L.drop (off + i * S)).take ((n - i) * S))) (off + i * S) ((LV.drop voff).take S)).toArray t fr)
  grow : ∀ (b off n c i vb voff vc : Nat) (L LV : List Value) (t tV : TypeId) (fr frV : Nat × Nat) (w : World), i < n → n ≤ c → c < n + 1 → n + 1 ≤ 1048576 →
    w.heap[b]? = some (.cells L.toArray t fr) → off + n * S ≤ L.length → w.heap[vb]? = some (.cells LV.toArray tV frV) → voff + S ≤ LV.length →
    (∀ v ∈ (L.drop (off + i * S)).take ((n - i) * S), one1 v = true) → (∀ v ∈ (LV.drop voff).take S, one1 v = true) →
    ∀ (i0 : TypeInfo) (z : Value), P.info? e = some i0 → i0.zero = some z → i0.size = S → z.cells.size = S → i0.bytes ≤ 1048576 →
    Calls P F #[.slice (some ⟨b, off, none⟩) n c, .int .i64 i, .slice (some ⟨vb, voff, none⟩) 1 vc] w fun x w' =>
      ∃ (G : Nat) (Z : List Value), x = .returned (.slice (some ⟨w.heap.size, 0, none⟩) (n + 1) G) ∧ n + 1 ≤ G ∧ Z.length = (G - (n + 1)) * S ∧
        w'.heap = w.heap.push (.cells (((L.drop off).take (i * S)) ++ ((LV.drop voff).take S ++ (L.drop (off + i * S)).take ((n - i) * S)) ++ Z).toArray e) ∧ w'.os = w.os ∧ w'.tape = w.tape ∧ w'.output = w.output
/-- The cells that a part of a row reads as. -/
theorem CR.list {g : G} {b B base : Nat} {l : List AV} {t : TypeId} {w : World} (hc : CR g b B base l t w) {o n : Nat} {r : List AV} (hs : sub l o n = some r) {L : List Value} {t' : TypeId} {fr : Nat × Nat} (hb : w.heap[B]? = some (.cells L.toArray t' fr)) :
    base + o + n ≤ L.length ∧ VRs g r ((L.drop (base + o)).take n) ∧ ∀ x ∈ (L.drop (base + o)).take n, one1 x = true := by
  obtain ⟨cs, fr', e1, _, e3, _, _⟩ := hc.ex
  rw [hb] at e1
  injection e1 with e1
  injection e1 with e1 _ _
  have hl := (sub_some hs).1
  have hLl : base + o + n ≤ L.length := by
    rw [← e1] at e3
    simp only [List.size_toArray] at e3
    omega
  obtain ⟨cs', c1, c2, c3, c4, _⟩ := hc.cells (P := default) hs
  have h5 := load_row (P := default) (W := w) hb hLl
  rw [c4] at h5
  injection h5 with h5
  have h5 : cs' = (L.drop (base + o)).take n := by simpa using congrArg Array.toList h5
  rw [← h5]
  exact ⟨hLl, c2, c3⟩
theorem slc_addr {g : G} {b o n : Nat} {c : Cap} {v : Value} (h : VR g (.slc b o n c) v) (hn : 0 < n) : ∃ B base m, g.pos b = some (B, base) ∧ v = .slice (some ⟨B, base + o, none⟩) n m := by
  cases h with
  | slck _ _ _ c B base ro hp hn' hro => exact ⟨B, base, c, hp, by rw [hro (by omega)]⟩
  | slcv _ _ _ k B base c s ro hp hg ho hn' hro => exact ⟨B, base, c - k, hp, by rw [hro (by omega)]⟩
theorem ofVs_len : ∀ l : List Value, (ofVs l).length = l.length
  | [] => rfl
  | _ :: r => congrArg Nat.succ (ofVs_len r)
theorem tinfo {t : TypeId} {ti : TI} (h : TOk P t ti) : ∃ i0 z, P.info? t = some i0 ∧ i0.zero = some z ∧ i0.size = ti.size ∧ z.cells.size = ti.size ∧ i0.bytes = ti.bytes := by
  obtain ⟨i, d, z, h1, _, h3, rfl, _, h5, _⟩ := h.ex
  refine ⟨i, z, h1, h3, rfl, ?_, rfl⟩
  show z.cells.size = i.size
  unfold zeroCellsOf at h5
  rw [ofVs_len] at h5
  simpa using h5
theorem ins_calls {F : FuncId} {e : TypeId} {te : TI} (hT : InsT P F e te.size) {B0 : Nat} {g : G} {h : H} {w : World} (hr : HR B0 g h w) (hm : ∀ b o, h.m.get b = some o → b < h.next) (hp : g.pos h.next = none) (hgr : g.grow h.next = none) (hB : B0 ≤ w.heap.size) (hTe : TOk P e te)
    {i : Nat} {s u : Slc} {k : Nat} {c : List AV × TypeId} {old new : List AV} {sv uv : Value} (b1 : i < s.len) (b2 : u.len = 1) (b3 : s.b ≠ u.b) (ho : objCells (h.m.get s.b) = some c) (b5 : c.2 = e) (hs1 : sub c.1 s.o (Nat.mul s.len te.size) = some old) (hn1 : cellsAt h u.b u.o te.size = some new)
    (b6 : s.len + 1 ≤ 1048576) (b7 : te.bytes ≤ 1048576) (_b8 : te.size ≠ 0) (hs : VR g (.slc s.b s.o s.len (.v te.size k)) sv) (hu : VR g (.slc u.b u.o u.len u.cap) uv) :
    Calls P F #[sv, .int .i64 i, uv] w fun x w' => ∃ v' g', x = .returned v' ∧ VR g' (.slc h.next 0 (s.len + 1) (.v te.size 0)) v' ∧ Tr B0 g h w g' ⟨(h.m.set s.b .dead).set h.next (.cells (ins2 i te.size old new) e), Nat.succ h.next⟩ w' := by
  subst b5
  obtain ⟨sb, so, n, sc⟩ := s
  obtain ⟨ub, uo, un, uc⟩ := u
  dsimp only at b1 b2 b3 ho hs1 hn1 b6 hs hu ⊢
  subst b2
  obtain ⟨VB, vbase, vc, hvp, rfl⟩ := slc_addr hu (by omega)
  unfold cellsAt at hn1
  cases hou : objCells (h.m.get ub) with
  | none => rw [hou] at hn1; cases hn1
  | some cu =>
    rw [hou, oc_some] at hn1
    have hs1 : sub c.1 so (n * te.size) = some old := hs1
    cases hs with | slcv _ _ _ _ B base cc _ ro hpb hg hok hn hro =>
    have hro1 : ro = base + so := hro (by omega)
    subst hro1
    obtain ⟨cs, fr, e1, e2, e3, e4, e5⟩ := (hr.row ho hpb).ex
    obtain ⟨csv, frv, q1, q2, q3, q4, q5⟩ := (hr.row hou hvp).ex
    obtain ⟨hs0, hle2, hle3⟩ := e5 cc te.size hg
    have eL : cs = cs.toList.toArray := by simp
    have eV : csv = csv.toList.toArray := by simp
    rw [eL] at e1
    rw [eV] at q1
    have hLs : cs.toList.length = cs.size := by simp
    have hVs : csv.toList.length = csv.size := by simp
    generalize cs.toList = L at e1 hLs
    generalize csv.toList = LV at q1 hVs
    obtain ⟨a1, a2, a3⟩ := (hr.row ho hpb).list hs1 e1
    obtain ⟨d1, d2, d3⟩ := (hr.row hou hvp).list hn1 q1
    have hBV : VB ≠ B := fun e => by
      subst e
      exact b3 (hr.inj sb ub VB _ _ ⟨_, objCells_some ho, by simp⟩ ⟨_, objCells_some hou, by simp⟩ hpb hvp)
    have hBl : B < w.heap.size := (Array.getElem?_eq_some_iff.1 e1).1
    have hm1 : i * te.size ≤ n * te.size := Nat.mul_le_mul_right _ (by omega)
    have hm2 : (n - i) * te.size = n * te.size - i * te.size := Nat.sub_mul _ _ _
    have hD : (L.drop (base + so + i * te.size)).take ((n - i) * te.size) = ((L.drop (base + so)).take (n * te.size)).drop (i * te.size) := by
      rw [List.drop_take, List.drop_drop, hm2]
    have hO : (L.drop (base + so)).take (i * te.size) = ((L.drop (base + so)).take (n * te.size)).take (i * te.size) := by
      rw [List.take_take, Nat.min_eq_left hm1]
    have h1L : ∀ v ∈ (L.drop (base + so + i * te.size)).take ((n - i) * te.size), one1 v = true := fun v hv => by
      rw [hD] at hv
      exact a3 v (List.mem_of_mem_drop hv)
    have hNv : VRs g (ins2 i te.size old new) ((L.drop (base + so)).take (i * te.size) ++ ((LV.drop (vbase + uo)).take te.size ++ (L.drop (base + so + i * te.size)).take ((n - i) * te.size))) := by
      unfold ins2
      rw [app_eq, app_eq, tak_eq, drp_eq, hD, hO]
      exact (a2.take _).append (d2.append (a2.drop _))
    have hN1 : ∀ v ∈ (L.drop (base + so)).take (i * te.size) ++ ((LV.drop (vbase + uo)).take te.size ++ (L.drop (base + so + i * te.size)).take ((n - i) * te.size)), one1 v = true := fun v hv => by
      rcases List.mem_append.1 hv with hv | hv
      · rw [hO] at hv
        exact a3 v (List.mem_of_mem_take hv)
      · rcases List.mem_append.1 hv with hv | hv
        · exact d3 v hv
        · exact h1L v hv
    have hsucc : (n + 1) * te.size = n * te.size + te.size := Nat.succ_mul _ _
    have hNl : (ins2 i te.size old new).length = (n + 1) * te.size := by
      rw [hNv.length]
      simp
      omega
    by_cases hreal : n + 1 ≤ cc - k
    · have hall : so + (n + 1) * te.size ≤ cc * te.size := by
        rw [hok, ← Nat.add_mul]
        exact Nat.mul_le_mul_right _ (by omega)
      · refine (hT.room B (base + so) n (cc - k) i VB (vbase + uo) vc L LV c.2 cu.2 fr frv w b1 hreal b6 hBV e1 e2 (by omega) q1 q2 (by omega) h1L d3).mono ?_
        rintro x w' ⟨rfl, rfl⟩
        have hk := inplace_good (base := base) (o := so) (k := k) (cc := cc) (S := te.size) (ro := base + so) (need := n + 1) hr hm hp hgr ho hpb hok e1 e2 hs0 (by omega) hreal (by omega) (fun _ => rfl) hNv hN1 hNl (w1 := wset (wset w.drew B (.cells (lay L (base + so + (i + 1) * te.size) ((L.drop (base + so + i * te.size)).take ((n - i) * te.size))).toArray c.2 fr)) B (.cells (lay (lay L (base + so + (i + 1) * te.size) ((L.drop (base + so + i * te.size)).take ((n - i) * te.size))) (base + so + i * te.size) ((LV.drop (vbase + uo)).take te.size)).toArray c.2 fr)) (by
            have hll := lay_lay (L := L) (V := (LV.drop (vbase + uo)).take te.size) (r := base + so) (a := i * te.size) (s := te.size) (m := (n - i) * te.size) (by simp; omega) (by omega)
            rw [show i * te.size + te.size = (i + 1) * te.size from (Nat.succ_mul _ _).symm] at hll
            rw [hll, wset_wset]
            rfl) rfl rfl rfl
        obtain ⟨g1, hv1, ht1⟩ := hk
        exact ⟨_, g1, rfl, hv1, ht1⟩
    · obtain ⟨i0, z, y1, y2, y3, y4, y5⟩ := tinfo hTe
      refine (hT.grow B (base + so) n (cc - k) i VB (vbase + uo) vc L LV c.2 cu.2 fr frv w b1 (by omega) (by omega) b6 e1 (by omega) q1 (by omega) h1L d3 i0 z y1 y2 y3 y4 (by rw [y5]; exact b7)).mono ?_
      rintro x w' ⟨G', Z, rfl, z1, z2, z3, z4, z5, z6⟩
      have t1 := Tr.kill hr sb ⟨_, objCells_some ho, by simp⟩ (hm _ _ (objCells_some ho)) hpb
      have hgz : (n + 1) * te.size + (G' - (n + 1)) * te.size = G' * te.size := by rw [← Nat.add_mul]; congr 1; omega
      have hcsz : ((L.drop (base + so)).take (i * te.size) ++ ((LV.drop (vbase + uo)).take te.size ++ (L.drop (base + so + i * te.size)).take ((n - i) * te.size)) ++ Z).toArray.size = G' * te.size := by
        have := hNv.length
        rw [hNl] at this
        rw [List.size_toArray, List.length_append, ← this, z2, hgz]
      have t2 : Tr B0 g (h.upd sb .dead) w (g.add h.next w.heap.size 0 (some (G', te.size))) ⟨(h.m.set sb .dead).set h.next (.cells (ins2 i te.size old new) c.2), Nat.succ h.next⟩ w' := by
        refine Tr.alloc (h := h.upd sb .dead) t1.hr hB hp hgr _ _ (some (G', te.size)) z3 z4 z5 z6 (fun l' t' e0 => ?_) (fun es c e0 => by cases e0)
        injection e0 with r1 r2
        subst r1; subst r2
        refine CR.new (fr := (0, 0)) (push_at w _ z3) (fun j => by simp) (by rw [hNl, hcsz, ← hgz]; omega) (fun j v hj => ?_) (fun c' s' hc => ?_)
        · obtain ⟨v', m1, m2⟩ := hNv.at hj
          have hjl := (List.getElem?_eq_some_iff.1 m1).1
          refine ⟨v', ?_, m2.mono (G.add_le g _ _ _ _ hp hgr), hN1 v' (List.mem_of_getElem? m1)⟩
          rw [List.getElem?_toArray, List.getElem?_append_left hjl]
          exact m1
        · have : (some (G', te.size) : Option (Nat × Nat)) = some (c', s') := by rw [← hc]; exact (if_pos rfl).symm
          injection this with this
          injection this with r1 r2
          subst r1; subst r2
          exact ⟨by omega, by rw [hNl, ← hgz]; omega, by rw [hcsz]; exact Nat.le_refl _⟩
      have hvr := VR.slcv (g := g.add h.next w.heap.size 0 (some (G', te.size))) h.next 0 (n + 1) 0 w.heap.size 0 G' te.size 0 (if_pos rfl) (if_pos rfl) (by simp) (by omega) (fun _ => rfl)
      exact ⟨_, _, rfl, by simpa using hvr, t1.trans t2⟩
theorem ovInsert_ok {F : FuncId} {e : TypeId} {S : Nat} (hT : InsT P F e S) (hf : ∃ fn, P.funcs[F]? = some fn ∧ (fn.name == "runtime.NumGoroutine") = false ∧ fn.body.isSome = true) : OvOk P F (ovInsert (mkTI P) e) := by
  intro args h v h' hv B0 g w args' hE hargs
  unfold ovInsert at hv
  match args, hv with
  | [], hv => cases hv
  | x :: r, hv =>
    replace hv : hd2 (fun i v => oc .no (fun te => oc .no (fun s => oc .no (fun i => oc .no (fun v => ins1 h e te i s v) (asSlc v)) (i64Nat i)) (asSlc x)) (mkTI P e)) r = .val v h' := hv
    rcases hd2_cases (fun i v => oc .no (fun te => oc .no (fun s => oc .no (fun i => oc .no (fun v => ins1 h e te i s v) (asSlc v)) (i64Nat i)) (asSlc x)) (mkTI P e)) r with e0 | ⟨y, z, rfl, e0⟩
    · rw [e0] at hv; cases hv
    · rw [e0] at hv
      cases hte : mkTI P e with
      | none => rw [hte] at hv; cases hv
      | some te =>
        rw [hte, oc_some] at hv
        cases h1 : asSlc x with
        | none => rw [h1] at hv; cases hv
        | some s =>
          rw [h1, oc_some] at hv
          cases h2 : i64Nat y with
          | none => rw [h2] at hv; cases hv
          | some i =>
            rw [h2, oc_some] at hv
            cases h3 : asSlc z with
            | none => rw [h3] at hv; cases hv
            | some u =>
              rw [h3, oc_some] at hv
              have := asSlc_some h1; subst this
              have := asSlc_some h3; subst this
              cases hargs with | cons _ sv _ _ hs hl =>
              cases hl with | cons _ iv _ _ hi hl =>
              cases hl with | cons _ uv _ _ hu hl =>
              cases hl
              have hyi : y = .int .i64 i := by
                cases y <;> first | (cases h2; done) | skip
                rename_i k n
                replace h2 : bi (Nat.beq (ikN k) 3) (natI n) none = some i := h2
                cases hk : Nat.beq (ikN k) 3
                · rw [hk] at h2; cases h2
                · rw [hk, bi_true] at h2
                  have hk : k = .i64 := by cases k <;> first | rfl | cases hk
                  subst hk
                  cases n with
                  | ofNat m => replace h2 : some m = some i := h2; injection h2 with h2; subst h2; rfl
                  | negSucc m => cases h2
              subst hyi
              cases hi
              have hTe := mkTI_some hte
              have hSe : te.size = S := by
                have a1 := hTe.sizeOf w
                rw [hT.size w] at a1
                injection a1 with a1
                exact a1.symm
              subst hSe
              unfold ins1 at hv
              cases b1 : Nat.blt i s.len
              · rw [b1] at hv; cases hv
              rw [b1, bi_true] at hv
              cases b2 : Nat.beq u.len 1
              · rw [b2] at hv; cases hv
              rw [b2, bi_true] at hv
              have b3 : Nat.beq s.b u.b = false := by
                cases hb : Nat.beq s.b u.b
                · rfl
                · rw [hb] at hv; cases hv
              rw [b3, bi_false] at hv
              have b1 : i < s.len := by simpa [Nat.blt_eq] using b1
              have b2 := Nat.eq_of_beq_eq_true b2
              have b3 := Nat.ne_of_beq_eq_false b3
              cases ho : objCells (h.m.get s.b) with
              | none => rw [ho] at hv; cases hv
              | some c =>
                rw [ho, oc_some] at hv
                cases hs1 : sub c.1 s.o (Nat.mul s.len te.size) with
                | none => rw [hs1] at hv; cases hv
                | some old =>
                  rw [hs1, oc_some] at hv
                  cases hn1 : cellsAt h u.b u.o te.size with
                  | none => rw [hn1] at hv; cases hv
                  | some new =>
                    rw [hn1, oc_some] at hv
                    cases hcap : s.cap with
                    | k _ => rw [hcap] at hv; cases hv
                    | v sx k =>
                      rw [hcap] at hv hs
                      replace hv : bi (Nat.beq sx te.size) (bi (Nat.beq c.2 e) (nF (Nat.succ s.len) fun n => kGrow (h.upd s.b .dead) e te n (ins2 i te.size old new)) .no) .no = .val v h' := hv
                      cases b4 : Nat.beq sx te.size
                      · rw [b4] at hv; cases hv
                      rw [b4, bi_true] at hv
                      have b4 := Nat.eq_of_beq_eq_true b4
                      subst b4
                      cases b5 : Nat.beq c.2 e
                      · rw [b5] at hv; cases hv
                      rw [b5, bi_true, nF_eq] at hv
                      have b5 := Nat.eq_of_beq_eq_true b5
                      unfold kGrow at hv
                      cases b6 : Nat.ble (Nat.succ s.len) 1048576
                      · rw [b6] at hv; cases hv
                      rw [b6, bi_true] at hv
                      cases b7 : Nat.ble te.bytes 1048576
                      · rw [b7] at hv; cases hv
                      rw [b7, bi_true] at hv
                      have b8 : Nat.beq te.size 0 = false := by
                        cases hb : Nat.beq te.size 0
                        · rfl
                        · rw [hb] at hv; cases hv
                      rw [b8, bi_false] at hv
                      unfold kNew at hv
                      rw [nF_eq] at hv
                      injection hv with v1 v2
                      subst v1; subst v2
                      have b6 := Nat.le_of_ble_eq_true b6
                      have b7 := Nat.le_of_ble_eq_true b7
                      have b8 := Nat.ne_of_beq_eq_false b8
                      obtain ⟨fn, f1, f2, f3⟩ := hf
                      refine .inr ⟨callFunc_enter f1 f2 f3 _ _, ?_⟩
                      exact ins_calls hT hE.hr hE.hm (hE.fr.pos _ (Nat.le_refl _)) (hE.fr.grow _ (Nat.le_refl _)) hE.lo hTe b1 b2 b3 ho b5 hs1 hn1 b6 b7 b8 hs hu
end
end Go.Proofs.YtimjbojoeacaeaaDoor.Kx
