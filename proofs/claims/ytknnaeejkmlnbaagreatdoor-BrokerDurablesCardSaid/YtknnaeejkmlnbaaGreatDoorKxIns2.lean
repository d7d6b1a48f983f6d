/- Parts of my evaluator, one behind the other: KxExt KxIns KxIns2. -/
import Derived.Test.YtknnaeejkmlnbaaGreatDoorKxMain
import Derived.Lib.Bytealg
import Derived.Laws.IdiomCopy
/- Calls known beforehand: the model's own entries for bytes in strings. -/
namespace Go.Proofs.YtknnaeejkmlnbaaGreatDoor.Kx
noncomputable section
def ixB (n : Nat) (l : List Nat) : Nat → Int := @List.rec Nat (fun _ => Nat → Int) (fun _ => .negSucc (nat_lit 0)) (fun c _ g i => bi (Nat.beq c n) (.ofNat i) (g (Nat.succ i))) l
def ctB (n : Nat) (l : List Nat) : Nat → Nat := @List.rec Nat (fun _ => Nat → Nat) (fun k => k) (fun c _ g k => bi (Nat.beq c n) (nF (Nat.succ k) g) (g k)) l
def cmB (x : List Nat) : List Nat → Int := @List.rec Nat (fun _ => List Nat → Int) (fun y => @List.rec Nat (fun _ => Int) (.ofNat (nat_lit 0)) (fun _ _ _ => .negSucc (nat_lit 0)) y)
  (fun a _ g y => @List.rec Nat (fun _ => Int) (.ofNat (nat_lit 1)) (fun b r _ => bi (Nat.blt a b) (.negSucc (nat_lit 0)) (bi (Nat.blt b a) (.ofNat (nat_lit 1)) (g r))) y) x
def ovIndexByte (l : List AV) (h : H) : XR := hd2 (fun s c => oc .no (fun l => oc .no (fun n => kInt (ixB n l (nat_lit 0)) h .i64) (byteN c)) (asStr s)) l
def ovCount (l : List AV) (h : H) : XR := hd2 (fun s c => oc .no (fun l => oc .no (fun n => kInt (.ofNat (ctB n l (nat_lit 0))) h .i64) (byteN c)) (asStr s)) l
def ovCompare (l : List AV) (h : H) : XR := hd2 (fun s t => oc .no (fun a => oc .no (fun b => kInt (cmB a b) h .i64) (asStr t)) (asStr s)) l
end
theorem u8_eq (a b : UInt8) : Nat.beq a.toNat b.toNat = (a == b) := by
  rw [Bool.eq_iff_iff]
  simp only [beq_iff_eq]
  constructor
  · intro h; exact UInt8.toNat_inj.1 (Nat.eq_of_beq_eq_true h)
  · intro h; subst h; simp
theorem u8_of {n : Nat} (h : n < 256) : (Int.toNat (n : Int)).toUInt8.toNat = n := by
  simp
  omega
theorem ixB_eq (c : UInt8) : ∀ (l : List UInt8) (i : Nat), ixB c.toNat (byteL l) i = if Lib.indexByte l c = -1 then -1 else Lib.indexByte l c + i
  | [], i => by rfl
  | b :: r, i => by
    show bi (Nat.beq b.toNat c.toNat) (Int.ofNat i) (ixB c.toNat (byteL r) (i + 1)) = _
    rw [u8_eq, ixB_eq c r (i + 1), Lib.indexByte]
    have := Lib.indexByte_ge r c
    cases hb : b == c
    · rw [bi_false]
      by_cases hm : Lib.indexByte r c = -1
      · simp [hm]
      · rw [if_neg hm]
        have hb' : (Lib.indexByte r c == -1) = false := by simpa using hm
        simp only [hb', Bool.false_eq_true, if_false]
        rw [if_neg (by omega)]
        push_cast
        omega
    · rw [bi_true]
      simp
theorem ctB_eq (c : UInt8) : ∀ (l : List UInt8) (k : Nat), ctB c.toNat (byteL l) k = k + l.count c
  | [], k => by show k = k + [].count c; simp
  | b :: r, k => by
    show bi (Nat.beq b.toNat c.toNat) (nF (k + 1) (ctB c.toNat (byteL r))) (ctB c.toNat (byteL r) k) = _
    rw [u8_eq, List.count_cons, nF_eq, ctB_eq c r, ctB_eq c r]
    cases hb : b == c
    · simp
    · simp; omega
theorem cmB_eq : ∀ (a b : List UInt8), cmB (byteL a) (byteL b) = Lib.compareBytes a b
  | [], [] => rfl
  | [], _ :: _ => rfl
  | _ :: _, [] => rfl
  | a :: r, b :: s => by
    show bi (Nat.blt a.toNat b.toNat) (-1) (bi (Nat.blt b.toNat a.toNat) 1 (cmB (byteL r) (byteL s))) = _
    rw [cmB_eq r s, Lib.compareBytes]
    have h1 : Nat.blt a.toNat b.toNat = decide (a < b) := by
      rw [Bool.eq_iff_iff]
      simp [Nat.blt_eq, UInt8.lt_iff_toNat_lt]
    have h2 : Nat.blt b.toNat a.toNat = decide (b < a) := by
      rw [Bool.eq_iff_iff]
      simp [Nat.blt_eq, UInt8.lt_iff_toNat_lt]
    rw [h1, h2]
    by_cases e1 : a < b
    · simp [e1]
    · by_cases e2 : b < a
      · simp [e1, e2]
      · simp [e1, e2]
/-- An entry of the model's. -/
structure IsExt (P : Program) (F : FuncId) (e : Array Value → Sem Value) : Prop where
  ex : ∃ fn, P.funcs[F]? = some fn ∧ (fn.name == "runtime.NumGoroutine") = false ∧ fn.body.isNone = true ∧ Extern.findNext fn = none ∧ Extern.find fn = some e
theorem ext_ok {P : Program} {F : FuncId} {e : Array Value → Sem Value} (hf : IsExt P F e) {x : List AV → H → XR}
    (hx : ∀ args h v h', x args h = .val v h' → h' = h ∧ ∀ g args', VRs g args args' → ∃ v', (∀ w, (e args'.toArray).run P w = .ok v' w) ∧ VR g v v') : OvOk P F x := by
  intro args h v h' hv B0 g w args' hE hargs
  obtain ⟨rfl, hx⟩ := hx args h v h' hv
  obtain ⟨v', h1, h2⟩ := hx g args' hargs
  obtain ⟨fn, a1, a2, a3, a4, a5⟩ := hf.ex
  left
  exact ⟨v', w, g, by rw [run_callFunc_extern a1 a2 a3 a4 a5, h1]; rfl, h2, .refl hE.hr⟩
theorem byteN_inv {g : G} {c : AV} {n : Nat} (e : byteN c = some n) {cv : Value} (hc : VR g c cv) : n < 256 ∧ cv = .int .u8 n := by
  obtain ⟨rfl, h⟩ := byteN_some e
  cases hc
  exact ⟨h, rfl⟩
theorem ovIndexByte_ok {P : Program} {F : FuncId} (hf : IsExt P F Extern.BytealgIndexByte.indexByte) : OvOk P F ovIndexByte := by
  refine ext_ok hf fun args h v h' hv => ?_
  unfold ovIndexByte at hv
  rcases hd2_cases (fun s c => oc .no (fun l => oc .no (fun n => kInt (ixB n l 0) h .i64) (byteN c)) (asStr s)) args with e | ⟨s, c, rfl, e⟩
  · rw [e] at hv; cases hv
  · rw [e] at hv
    cases h1 : asStr s with
    | none => rw [h1] at hv; cases hv
    | some l =>
      cases h2 : byteN c with
      | none => rw [h1, h2] at hv; cases hv
      | some n =>
        rw [h1, h2] at hv
        simp only [oc_some] at hv
        rw [kInt_eq] at hv
        injection hv with e1 e2
        subst e1
        refine ⟨e2.symm, fun g args' hargs => ?_⟩
        have := asStr_some h1; subst this
        cases hargs with | cons _ sv _ _ hs hl =>
        cases hl with | cons _ cv _ _ hc hl =>
        cases hl
        obtain ⟨str, rfl, rfl⟩ := hs.str_inv
        obtain ⟨hn, rfl⟩ := byteN_inv h2 hc
        refine ⟨_, fun w => Lib.run_indexByteString str n w, ?_⟩
        have := ixB_eq (Int.toNat (n : Int)).toUInt8 str.data.toList 0
        rw [u8_of hn] at this
        rw [this]
        have e : (if Lib.indexByte str.data.toList (Int.toNat (n : Int)).toUInt8 = -1 then -1 else Lib.indexByte str.data.toList (Int.toNat (n : Int)).toUInt8 + ((0 : Nat) : Int)) = Lib.indexByte str.data.toList (Int.toNat (n : Int)).toUInt8 := by
          split
          · rename_i hh; exact hh.symm
          · exact Int.add_zero _
        rw [e]
        exact .int _ _
theorem ovCount_ok {P : Program} {F : FuncId} (hf : IsExt P F Extern.BytealgCount.count) : OvOk P F ovCount := by
  refine ext_ok hf fun args h v h' hv => ?_
  unfold ovCount at hv
  rcases hd2_cases (fun s c => oc .no (fun l => oc .no (fun n => kInt (.ofNat (ctB n l 0)) h .i64) (byteN c)) (asStr s)) args with e | ⟨s, c, rfl, e⟩
  · rw [e] at hv; cases hv
  · rw [e] at hv
    cases h1 : asStr s with
    | none => rw [h1] at hv; cases hv
    | some l =>
      cases h2 : byteN c with
      | none => rw [h1, h2] at hv; cases hv
      | some n =>
        rw [h1, h2] at hv
        simp only [oc_some] at hv
        rw [kInt_eq] at hv
        injection hv with e1 e2
        subst e1
        refine ⟨e2.symm, fun g args' hargs => ?_⟩
        have := asStr_some h1; subst this
        cases hargs with | cons _ sv _ _ hs hl =>
        cases hl with | cons _ cv _ _ hc hl =>
        cases hl
        obtain ⟨str, rfl, rfl⟩ := hs.str_inv
        obtain ⟨hn, rfl⟩ := byteN_inv h2 hc
        refine ⟨_, fun w => Lib.run_countString str n w, ?_⟩
        have := ctB_eq (Int.toNat (n : Int)).toUInt8 str.data.toList 0
        rw [u8_of hn, Nat.zero_add] at this
        rw [this]
        exact .int _ _
theorem ovCompare_ok {P : Program} {F : FuncId} (hf : IsExt P F Extern.BytealgCompare.compare) : OvOk P F ovCompare := by
  refine ext_ok hf fun args h v h' hv => ?_
  unfold ovCompare at hv
  rcases hd2_cases (fun s t => oc .no (fun a => oc .no (fun b => kInt (cmB a b) h .i64) (asStr t)) (asStr s)) args with e | ⟨s, c, rfl, e⟩
  · rw [e] at hv; cases hv
  · rw [e] at hv
    cases h1 : asStr s with
    | none => rw [h1] at hv; cases hv
    | some l =>
      cases h2 : asStr c with
      | none => rw [h1, h2] at hv; cases hv
      | some m =>
        rw [h1, h2] at hv
        simp only [oc_some] at hv
        rw [kInt_eq] at hv
        injection hv with e1 e2
        subst e1
        refine ⟨e2.symm, fun g args' hargs => ?_⟩
        have := asStr_some h1; subst this
        have := asStr_some h2; subst this
        cases hargs with | cons _ sv _ _ hs hl =>
        cases hl with | cons _ cv _ _ hc hl =>
        cases hl
        obtain ⟨a, rfl, rfl⟩ := hs.str_inv
        obtain ⟨b, rfl, rfl⟩ := hc.str_inv
        refine ⟨_, fun w => Lib.run_compareString a b w, ?_⟩
        rw [cmB_eq]
        exact .int _ _
end Go.Proofs.YtknnaeejkmlnbaaGreatDoor.Kx

/- slices.Insert: what comes of cells that are laid over others; a row that goes on in place, or anew. -/
namespace Go.Proofs.YtknnaeejkmlnbaaGreatDoor.Kx
section
variable {P : Program} {B0 : Nat} {g : G} {h : H} {w : World}

/-- Cells laid over others, from r on. -/
def lay (L : List Value) (r : Nat) (D : List Value) : List Value := L.take r ++ (D ++ L.drop (r + D.length))
theorem load_row {W : World} {B o n : Nat} {L : List Value} {t : TypeId} {fr : Nat × Nat} (hb : W.heap[B]? = some (.cells L.toArray t fr)) (hl : o + n ≤ L.length) : (loadCells ⟨B, o, none⟩ n).run P W = .ok ((L.drop o).take n).toArray W := by
  have := run_loadCells_list (P := P) W ⟨B, o, none⟩ ((L.drop o).take n) (fun j v hv => by
    rw [List.getElem?_take] at hv
    split at hv
    · rw [List.getElem?_drop] at hv
      rw [add_none]
      simpa [World.cell?, hb] using hv
    · cases hv)
  have hlen : ((L.drop o).take n).length = n := by simp; omega
  rw [hlen] at this
  exact this
end
end Go.Proofs.YtknnaeejkmlnbaaGreatDoor.Kx

/- slices.Insert of one element, not at the end, into a row whose capacity is not known: known beforehand, out of the two walks of the instance's code. -/
namespace Go.Proofs.YtknnaeejkmlnbaaGreatDoor.Kx
noncomputable section
end
section
variable {P : Program}
/-- What the two walks of an instance say: there is room; there is none. -/
structure InsT (P : Program) (F : FuncId) (e : TypeId) (S : Nat) : Prop where
  size : ∀ w, (Go.sizeOf e).run P w = .ok S w
  room : ∀ (b off n c i vb voff vc : Nat) (L LV : List Value) (t tV : TypeId) (fr frV : Nat × Nat) (w : World), i < n → n + 1 ≤ c → n + 1 ≤ 1048576 → vb ≠ b →
    w.heap[b]? = some (.cells L.toArray t fr) → (∀ j : Nat, ¬ (fr.1 ≤ j ∧ j < fr.2)) → off + (n + 1) * S ≤ L.length → w.heap[vb]? = some (.cells LV.toArray tV frV) → (∀ j : Nat, ¬ (frV.1 ≤ j ∧ j < frV.2)) → voff + S ≤ LV.length →
    (∀ v ∈ (L.drop (off + i * S)).take ((n - i) * S), one1 v = true) → (∀ v ∈ (LV.drop voff).take S, one1 v = true) →
    Calls P F #[.slice (some ⟨b, off, none⟩) n c, .int .i64 i, .slice (some ⟨vb, voff, none⟩) 1 vc] w fun e w' =>
      e = .returned (.slice (some ⟨b, off, none⟩) (n + 1) c) ∧ w' = wset (wset w.drew b (.cells (lay L (off + (i + 1) * S) ((L.drop (off + i * S)).take ((n - i) * S))).toArray t fr)) b (.cells (lay (lay L (off + (i + 1) * S) ((L.drop (off + i * S)).take ((n - i) * S))) (off + i * S) ((LV.drop voff).take S)).toArray t fr)
  grow : ∀ (b off n c i vb voff vc : Nat) (L LV : List Value) (t tV : TypeId) (fr frV : Nat × Nat) (w : World), i < n → n ≤ c → c < n + 1 → n + 1 ≤ 1048576 →
    w.heap[b]? = some (.cells L.toArray t fr) → off + n * S ≤ L.length → w.heap[vb]? = some (.cells LV.toArray tV frV) → voff + S ≤ LV.length →
    (∀ v ∈ (L.drop (off + i * S)).take ((n - i) * S), one1 v = true) → (∀ v ∈ (LV.drop voff).take S, one1 v = true) →
    ∀ (i0 : TypeInfo) (z : Value), P.info? e = some i0 → i0.zero = some z → i0.size = S → z.cells.size = S → i0.bytes ≤ 1048576 →
    Calls P F #[.slice (some ⟨b, off, none⟩) n c, .int .i64 i, .slice (some ⟨vb, voff, none⟩) 1 vc] w fun x w' =>
      ∃ (G : Nat) (Z : List Value), x = .returned (.slice (some ⟨w.heap.size, 0, none⟩) (n + 1) G) ∧ n + 1 ≤ G ∧ Z.length = (G - (n + 1)) * S ∧
        w'.heap = w.heap.push (.cells (((L.drop off).take (i * S)) ++ ((LV.drop voff).take S ++ (L.drop (off + i * S)).take ((n - i) * S)) ++ Z).toArray e) ∧ w'.os = w.os ∧ w'.tape = w.tape ∧ w'.output = w.output
/-- The cells that a part of a row reads as. -/
theorem CR.list {g : G} {b B base : Nat} {l : List AV} {t : TypeId} {w : World} (hc : CR g b B base l t w) {o n : Nat} {r : List AV} (hs : sub l o n = some r) {L : List Value} {t' : TypeId} {fr : Nat × Nat} (hb : w.heap[B]? = some (.cells L.toArray t' fr)) :
    base + o + n ≤ L.length ∧ VRs g r ((L.drop (base + o)).take n) ∧ ∀ x ∈ (L.drop (base + o)).take n, one1 x = true := by
  obtain ⟨cs, fr', e1, _, e3, _, _⟩ := hc.ex
  rw [hb] at e1
  injection e1 with e1
  injection e1 with e1 _ _
  have hl := (sub_some hs).1
  have hLl : base + o + n ≤ L.length := by
    rw [← e1] at e3
    simp only [List.size_toArray] at e3
    omega
  obtain ⟨cs', c1, c2, c3, c4, _⟩ := hc.cells (P := default) hs
  have h5 := load_row (P := default) (W := w) hb hLl
  rw [c4] at h5
  injection h5 with h5
  have h5 : cs' = (L.drop (base + o)).take n := by simpa using congrArg Array.toList h5
  rw [← h5]
  exact ⟨hLl, c2, c3⟩
end
end Go.Proofs.YtknnaeejkmlnbaaGreatDoor.Kx
