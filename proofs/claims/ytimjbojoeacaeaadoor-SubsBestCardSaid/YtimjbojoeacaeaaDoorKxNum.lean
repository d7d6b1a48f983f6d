/- The evaluator's numbers and texts. -/
import Derived.Laws.StructEq
import Derived.Test.YtimjbojoeacaeaaDoorKxOps
import Derived.Laws.Strings
namespace Go.Proofs.YtimjbojoeacaeaaDoor.Kx
theorem kInt_eq (z : Int) (h : H) (k : IntKind) : kInt z h k = .val (.int k z) h := by
  cases z with
  | ofNat n => exact nF_eq n (fun n => XR.val (.int k (.ofNat n)) h)
  | negSucc n => exact nF_eq n (fun n => XR.val (.int k (.negSucc n)) h)
theorem kBool_eq (h : H) (b : Bool) : kBool h b = .val (.bool b) h := by cases b <;> rfl
theorem pw_eq (k : IntKind) : pw k = 2 ^ k.bits := by cases k <;> rfl
theorem fwrap_eq (z : Int) (k : IntKind) : fwrap z k = k.wrap z := by
  cases z with
  | negSucc n => rfl
  | ofNat n =>
    cases k with
    | i64 =>
      show bi (Nat.blt n 9223372036854775808) (Int.ofNat n) _ = _
      rw [bi_eq]
      split
      · rename_i hc
        have hc : n < 9223372036854775808 := by simpa [Nat.blt_eq] using hc
        simp [IntKind.wrap, IntKind.bits, IntKind.signed]
        omega
      · rfl
    | u8 => show Int.ofNat (n % 256) = _; simp [IntKind.wrap, IntKind.bits, IntKind.signed]
    | u16 => show Int.ofNat (n % 65536) = _; simp [IntKind.wrap, IntKind.bits, IntKind.signed]
    | u32 => show Int.ofNat (n % 4294967296) = _; simp [IntKind.wrap, IntKind.bits, IntKind.signed]
    | u64 => show Int.ofNat (n % 18446744073709551616) = _; simp [IntKind.wrap, IntKind.bits, IntKind.signed]
    | i8 => rfl
    | i16 => rfl
    | i32 => rfl
theorem kW_eq (h : H) (k : IntKind) (z : Int) : kW h k z = .val (.int k (k.wrap z)) h := by unfold kW; rw [kInt_eq, fwrap_eq]
theorem ieq_eq (a b : Int) : ieq a b = (a == b) := by
  cases a with
  | ofNat a => cases b with
    | ofNat b => show Nat.beq a b = _; rw [Bool.eq_iff_iff]; simp; omega
    | negSucc b => show false = _; symm; simp
  | negSucc a => cases b with
    | ofNat b => show false = _; symm; simp
    | negSucc b => show Nat.beq b a = _; rw [Bool.eq_iff_iff]; simp; omega
theorem ilt_eq (a b : Int) : ilt a b = decide (a < b) := by
  cases a with
  | ofNat a => cases b with
    | ofNat b => show Nat.blt a b = _; rw [Bool.eq_iff_iff]; simp [Nat.blt_eq]
    | negSucc b => show false = _; symm; simp; omega
  | negSucc a => cases b with
    | ofNat b => show true = _; symm; simp; omega
    | negSucc b => show Nat.blt b a = _; rw [Bool.eq_iff_iff]; simp [Nat.blt_eq]; omega
theorem bv_eq (z : Int) (k : IntKind) : bv z k = (BitVec.ofInt k.bits z).toNat := by
  cases z with
  | ofNat n => show n % pw k = _; rw [pw_eq]; simp
  | negSucc n =>
    show pw k - 1 - n % pw k = _
    rw [pw_eq, BitVec.toNat_ofInt]
    have hp : 0 < 2 ^ k.bits := Nat.two_pow_pos _
    have hm : n % 2 ^ k.bits < 2 ^ k.bits := Nat.mod_lt _ hp
    have : (Int.negSucc n) % ((2 ^ k.bits : Nat) : Int) = ((2 ^ k.bits - 1 - n % 2 ^ k.bits : Nat) : Int) := by
      rw [Int.negSucc_emod _ (by exact_mod_cast hp)]
      omega
    rw [this]
    rfl
theorem lbeq_eq (a b : List Nat) : lbeq a b = (a == b) := by
  induction a generalizing b with
  | nil => cases b <;> rfl
  | cons x r ih => cases b with
    | nil => rfl
    | cons y s =>
      show bi (Nat.beq x y) (lbeq r s) false = _
      rw [bi_eq, ih, List.cons_beq_cons]
      cases h : Nat.beq x y
      · have : (x == y) = false := beq_eq_false_iff_ne.2 (Nat.ne_of_beq_eq_false h)
        simp [this]
      · have : (x == y) = true := beq_iff_eq.2 (Nat.eq_of_beq_eq_true h)
        simp [this]
theorem byteL_eq (l : List UInt8) : byteL l = l.map (·.toNat) := by
  induction l with
  | nil => rfl
  | cons a r ih => exact congrArg (_ :: ·) ih
theorem byteL_beq (a b : List UInt8) : (byteL a == byteL b) = (a == b) := by
  rw [byteL_eq, byteL_eq]
  induction a generalizing b with
  | nil => cases b <;> rfl
  | cons x r ih => cases b with
    | nil => rfl
    | cons y s =>
      simp only [List.map_cons, List.cons_beq_cons, ih]
      congr 1
      rw [Bool.eq_iff_iff]
      simp [UInt8.toNat_inj]
theorem bless_eq (a b : List UInt8) : bless (byteL a) (byteL b) = Op.bytesLess a b := by
  induction a generalizing b with
  | nil => cases b <;> rfl
  | cons x r ih => cases b with
    | nil => rfl
    | cons y s =>
      show bi (Nat.blt x.toNat y.toNat) true (bi (Nat.beq x.toNat y.toNat) (bless (byteL r) (byteL s)) false) = (decide (x < y) || (x == y && Op.bytesLess r s))
      rw [bi_eq, bi_eq, ih]
      have h1 : Nat.blt x.toNat y.toNat = decide (x < y) := by rw [Bool.eq_iff_iff]; simp [Nat.blt_eq, UInt8.lt_iff_toNat_lt]
      have h2 : Nat.beq x.toNat y.toNat = (x == y) := by rw [Bool.eq_iff_iff]; simp [UInt8.toNat_inj]
      rw [h1, h2]
      cases decide (x < y) <;> cases (x == y) <;> simp
theorem less_or_eq (a b : List UInt8) : (Op.bytesLess a b || a == b) = !(Op.bytesLess b a) := by
  induction a generalizing b with
  | nil => cases b <;> rfl
  | cons x r ih => cases b with
    | nil => rfl
    | cons y s =>
      have h := ih s
      show ((decide (x < y) || (x == y && Op.bytesLess r s)) || (x == y && r == s)) = !(decide (y < x) || (y == x && Op.bytesLess s r))
      by_cases e : x = y
      · subst e
        simpa using h
      · have e1 : (x == y) = false := by simpa using e
        have e2 : (y == x) = false := by simpa using fun e' => e e'.symm
        simp only [e1, e2, Bool.false_and, Bool.or_false]
        rw [Bool.eq_iff_iff]
        simp [UInt8.lt_iff_toNat_lt]
        have : x.toNat ≠ y.toNat := fun e' => e (UInt8.toNat_inj.1 e')
        omega
theorem not_lt_dec (a b : Int) : decide (a ≤ b) = !decide (b < a) := by
  by_cases h : a ≤ b
  · rw [decide_eq_true h, decide_eq_false (by omega)]; rfl
  · rw [decide_eq_false h, decide_eq_true (by omega)]; rfl
theorem kBool_not (h : H) (b : Bool) : kBool h (bi b false true) = .val (.bool (!b)) h := by cases b <;> rfl

section
variable {P : Program} {B0 : Nat} {g : G} {h : H} {w : World}
theorem toList_data (s : ByteArray) : s.toList = s.data.toList := ByteArray.toList_eq s

/-! Numbers. -/
theorem bopI_good (hr : HR B0 g h w) (op : BinOp) (t : TypeId) (k k' : IntKind) (a b : Int) (hk : k = k' ∨ op = .shl ∨ op = .shr) : VG P B0 g h w (binOp op t (.int k a) (.int k' b)) (bopI op h k a b) := by
  have hz : ∀ c : Int, ieq c 0 = false → c ≠ 0 := fun c hc e => by subst e; cases hc
  have hb1 : ∀ (op : BinOp) r, (VG P B0 g h w (pure (.int k (k.wrap ((r : Nat) : Int)))) (kB h k r)) := fun _ r => by
    unfold kB; rw [kW_eq]; exact VG.same hr rfl (.int _ _)
  cases op
  case shl =>
    show VG P B0 g h w _ (bi (ilt b 0) .no (kW h k (a * 2 ^ (Nat.min b.toNat k.bits))))
    rw [ilt_eq, bi_eq]
    split
    · trivial
    · rename_i hb
      rw [kW_eq]
      refine VG.same hr ?_ (.int _ _)
      have : ¬ b < 0 := by simpa using hb
      simp [binOp, Op.shift, this]
  case shr =>
    show VG P B0 g h w _ (bi (ilt b 0) .no (kInt (a.fdiv (2 ^ (Nat.min b.toNat k.bits))) h k))
    rw [ilt_eq, bi_eq]
    split
    · trivial
    · rename_i hb
      rw [kInt_eq]
      refine VG.same hr ?_ (.int _ _)
      have : ¬ b < 0 := by simpa using hb
      simp [binOp, Op.shift, this]
  all_goals (obtain rfl : k = k' := by simpa using hk)
  case add => show VG P B0 g h w _ (kW h k (a + b)); rw [kW_eq]; exact VG.same hr (by simp [binOp, Op.intArith]) (.int _ _)
  case sub => show VG P B0 g h w _ (kW h k (a - b)); rw [kW_eq]; exact VG.same hr (by simp [binOp, Op.intArith]) (.int _ _)
  case mul => show VG P B0 g h w _ (kW h k (a * b)); rw [kW_eq]; exact VG.same hr (by simp [binOp, Op.intArith]) (.int _ _)
  case quo =>
    show VG P B0 g h w _ (bi (ieq b 0) .no (kW h k (a.tdiv b)))
    cases e : ieq b 0
    · rw [bi_false, kW_eq]; exact VG.same hr (by simp [binOp, Op.intDiv, hz b e]) (.int _ _)
    · trivial
  case rem =>
    show VG P B0 g h w _ (bi (ieq b 0) .no (kInt (a.tmod b) h k))
    cases e : ieq b 0
    · rw [bi_false, kInt_eq]; exact VG.same hr (by simp [binOp, Op.intDiv, hz b e]) (.int _ _)
    · trivial
  case and =>
    show VG P B0 g h w _ (kB h k (Nat.land (bv a k) (bv b k)))
    rw [bv_eq, bv_eq]
    have := hb1 .and (Nat.land (BitVec.ofInt k.bits a).toNat (BitVec.ofInt k.bits b).toNat)
    simpa [binOp, Op.intBits] using this
  case or =>
    show VG P B0 g h w _ (kB h k (Nat.lor (bv a k) (bv b k)))
    rw [bv_eq, bv_eq]
    have := hb1 .and (Nat.lor (BitVec.ofInt k.bits a).toNat (BitVec.ofInt k.bits b).toNat)
    simpa [binOp, Op.intBits] using this
  case xor =>
    show VG P B0 g h w _ (kB h k (Nat.xor (bv a k) (bv b k)))
    rw [bv_eq, bv_eq]
    have := hb1 .and (Nat.xor (BitVec.ofInt k.bits a).toNat (BitVec.ofInt k.bits b).toNat)
    simpa [binOp, Op.intBits] using this
  case andNot =>
    show VG P B0 g h w _ (kB h k (Nat.land (bv a k) (pw k - 1 - bv b k)))
    rw [bv_eq, bv_eq, pw_eq]
    have := hb1 .and (Nat.land (BitVec.ofInt k.bits a).toNat (2 ^ k.bits - 1 - (BitVec.ofInt k.bits b).toNat))
    simpa [binOp, Op.intBits, BitVec.toNat_not] using this
  case eql => show VG P B0 g h w _ (kBool h (ieq a b)); rw [kBool_eq, ieq_eq]; exact VG.same hr (by simp [binOp, Op.intCmp]) (.bool _)
  case neq => show VG P B0 g h w _ (kBool h (bi (ieq a b) false true)); rw [kBool_not, ieq_eq]; exact VG.same hr (by simp [binOp, Op.intCmp, bne]) (.bool _)
  case lss => show VG P B0 g h w _ (kBool h (ilt a b)); rw [kBool_eq, ilt_eq]; exact VG.same hr (by simp [binOp, Op.intCmp]) (.bool _)
  case leq => show VG P B0 g h w _ (kBool h (bi (ilt b a) false true)); rw [kBool_not, ilt_eq]; exact VG.same hr (by simp [binOp, Op.intCmp, not_lt_dec]) (.bool _)
  case gtr => show VG P B0 g h w _ (kBool h (ilt b a)); rw [kBool_eq, ilt_eq]; exact VG.same hr (by simp [binOp, Op.intCmp]) (.bool _)
  case geq => show VG P B0 g h w _ (kBool h (bi (ilt a b) false true)); rw [kBool_not, ilt_eq]; exact VG.same hr (by simp [binOp, Op.intCmp, not_lt_dec]) (.bool _)

/-! Texts. -/
theorem bopS_good (hr : HR B0 g h w) (op : BinOp) (t : TypeId) (a b : ByteArray) : VG P B0 g h w (binOp op t (.string a) (.string b)) (bopS op h (byteL a.data.toList) (byteL b.data.toList)) := by
  have hne : ∀ (x : ByteArray), (byteL x.data.toList).length = x.size := fun x => by rw [byteL_eq]; simp
  cases op
  case add =>
    show VG P B0 g h w _ (bi (Nat.ble (Nat.add (len _) (len _)) 1073741824) (.val (.str (app _ _)) h) .no)
    rw [bi_eq]
    split
    · rename_i hc
      have hc : a.size + b.size ≤ 1073741824 := by simpa [hne] using hc
      have hv : VR g (.str (app (byteL a.data.toList) (byteL b.data.toList))) (.string (a ++ b)) := by
        have := VR.str (g := g) (a ++ b)
        rw [app_eq]
        have e : byteL (a ++ b).data.toList = byteL a.data.toList ++ byteL b.data.toList := by
          rw [byteL_eq, byteL_eq, byteL_eq]
          simp [ByteArray.data_append]
        rw [← e]
        exact this
      refine VG.same hr ?_ hv
      have hno : ¬ (((a.size + b.size : Nat) : Int) > IntKind.i64.max) := by
        have : IntKind.i64.max = 9223372036854775807 := by decide
        rw [this]; omega
      show (binOp .add t (.string a) (.string b)).run P w = _
      simp only [binOp, Op.stringOp]
      rw [if_neg hno]
      rfl
    · trivial
  case eql => show VG P B0 g h w _ (kBool h (lbeq _ _)); rw [kBool_eq, lbeq_eq, byteL_beq]; exact VG.same hr (by simp [binOp, Op.stringOp, toList_data]) (.bool _)
  case neq => show VG P B0 g h w _ (kBool h (bi (lbeq _ _) false true)); rw [kBool_not, lbeq_eq, byteL_beq]; exact VG.same hr (by simp [binOp, Op.stringOp, toList_data]) (.bool _)
  case lss => show VG P B0 g h w _ (kBool h (bless _ _)); rw [kBool_eq, bless_eq]; exact VG.same hr (by simp [binOp, Op.stringOp, toList_data]) (.bool _)
  case geq => show VG P B0 g h w _ (kBool h (bi (bless _ _) false true)); rw [kBool_not, bless_eq]; exact VG.same hr (by simp [binOp, Op.stringOp, toList_data]) (.bool _)
  case leq => show VG P B0 g h w _ (kBool h (bi (bless _ _) false true)); rw [kBool_not, bless_eq]; exact VG.same hr (by simp only [binOp, Op.stringOp, toList_data, less_or_eq]; simp) (.bool _)
  case gtr => show VG P B0 g h w _ (kBool h (bless _ _)); rw [kBool_eq, bless_eq]; exact VG.same hr (by simp only [binOp, Op.stringOp, toList_data, less_or_eq]; simp) (.bool _)
  all_goals trivial

/-! Equality. -/
theorem ikN_inj {k k' : IntKind} (h : Nat.beq (ikN k) (ikN k') = true) : k = k' := by cases k <;> cases k' <;> first | rfl | cases h
theorem isNilp_true {x : AV} (e : isNilp x = true) : x = .nilp := by cases x <;> first | rfl | cases e
theorem isNilf_true {x : AV} (e : isNilf x = true) : x = .nilf := by cases x <;> first | rfl | cases e
theorem isFn_true {x : AV} (e : isFn x = true) : ∃ f a b, x = .fn f a b := by cases x <;> first | exact ⟨_, _, _, rfl⟩ | cases e
theorem eqB_some {x y : AV} {b : Bool} (e : eqB x y = some b) : ∃ p q, x = .bool p ∧ y = .bool q ∧ b = (p == q) := by
  unfold eqB at e
  cases h1 : asBool x with
  | none => rw [h1] at e; cases e
  | some p => cases h2 : asBool y with
    | none => rw [h1, h2] at e; cases e
    | some q =>
      rw [h1, h2] at e
      simp only [oc_some] at e
      injection e with e
      exact ⟨p, q, asBool_some h1, asBool_some h2, by rw [← e]; cases p <;> cases q <;> rfl⟩
theorem equal_eq (t : TypeId) (x y : Value) : Op.equal t x y = Op.equalIn (9999 + 1) t x y := rfl
/-- What the model asks of a comparison that is no number's and no text's. -/
structure EqOk (P : Program) (w : World) (t : TypeId) (x y : Value) (b : Bool) : Prop where
  eq : (Op.equal t x y).run P w = .ok b w
  op : binOp .eql t x y = (do pure (.bool (← Op.equal t x y)))
  op' : binOp .neq t x y = (do pure (.bool (!(← Op.equal t x y))))
  gd : ∀ op u v, eqGuard op t u v x y = pure ()
theorem VR.slc_form {b o n : Nat} {c : Cap} {v : Value} (h : VR g (.slc b o n c) v) : ∃ B base m ro, g.pos b = some (B, base) ∧ v = .slice (some ⟨B, ro, none⟩) n m ∧ (0 < n → ro = base + o) := by
  cases h with
  | slck _ _ _ c B base ro h hn hro => exact ⟨B, base, c, ro, h, rfl, fun hp => hro (by omega)⟩
  | slcv _ _ _ k B base c s ro h hg ho hn hro => exact ⟨B, base, c - k, ro, h, rfl, fun hp => hro (by omega)⟩
theorem eqK_ok {t : TypeId} {ti : TI} (ht : TOk P t ti) {x y : AV} {xv yv : Value} (hx : VR g x xv) (hy : VR g y yv) {b : Bool} (e : eqK ti.kind (mkTI P) x y = some b) : EqOk P w t xv yv b := by
  obtain ⟨d, hd, hk⟩ := ht.und
  rw [hk] at e
  have hu : ∀ w, (underlying t).run P w = .ok d w := fun w => run_underlying hd w
  cases d
  case bool =>
    obtain ⟨p, q, rfl, rfl, rfl⟩ := eqB_some e
    cases hx; cases hy
    exact ⟨by rw [equal_eq, Op.equalIn]; simp [hu, Result.andThen], by simp [binOp], by simp [binOp], fun op _ _ => by cases op <;> rfl⟩
  case pointer el =>
    replace e : eqP (mkTI P) el x y = some b := e
    unfold eqP at e
    cases h1 : asPtr x with
    | none =>
      rw [h1] at e
      simp only [oc_none, bi_eq] at e
      split at e
      · rename_i hn
        have := isNilp_true hn; subst this
        cases hx
        cases h2 : asPtr y with
        | none =>
          rw [h2] at e
          simp only [oc_none] at e
          split at e
          · rename_i hn'
            have := isNilp_true hn'; subst this
            cases hy
            injection e with e; subst e
            exact ⟨by rw [equal_eq, Op.equalIn]; simp [hu, Result.andThen], by simp [binOp], by simp [binOp], fun op _ _ => by cases op <;> rfl⟩
          · cases e
        | some q =>
          rw [h2] at e
          have := asPtr_some h2; subst this
          cases hy
          injection e with e; subst e
          exact ⟨by rw [equal_eq, Op.equalIn]; simp [hu, Result.andThen], by simp [binOp], by simp [binOp], fun op _ _ => by cases op <;> rfl⟩
      · cases e
    | some p =>
      rw [h1] at e
      have := asPtr_some h1; subst this
      simp only [oc_some] at e
      cases h2 : asPtr y with
      | none =>
        rw [h2] at e
        simp only [oc_none, bi_eq] at e
        split at e
        · rename_i hn
          have := isNilp_true hn; subst this
          cases hx; cases hy
          injection e with e; subst e
          exact ⟨by rw [equal_eq, Op.equalIn]; simp [hu, Result.andThen], by simp [binOp], by simp [binOp], fun op _ _ => by cases op <;> rfl⟩
        · cases e
      | some q =>
        rw [h2] at e
        have := asPtr_some h2; subst this
        simp only [oc_some, eqPP, bi_eq] at e
        split at e
        · rename_i hb
          have hb := Nat.eq_of_beq_eq_true hb
          cases hs : szOf (mkTI P) el with
          | none => rw [hs] at e; cases e
          | some s =>
            rw [hs] at e
            simp only [oc_some] at e
            split at e
            · cases e
            · rename_i hs0
              have hs0 : s ≠ 0 := fun e => by subst e; exact hs0 rfl
              injection e with e
              cases hx with | ptr _ _ B base hp =>
              cases hy with | ptr _ _ B' base' hp' =>
              rw [← hb, hp] at hp'
              injection hp' with hp'
              injection hp' with e1 e2
              subst e1; subst e2
              have hsz := fun w => szOf_run (P := P) hs w
              refine ⟨?_, by simp [binOp], by simp [binOp], fun op _ _ => by cases op <;> rfl⟩
              subst e
              rw [equal_eq, Op.equalIn]
              simp [hu, hsz, hs0, sameAddr, Result.andThen]
              rw [Bool.eq_iff_iff]
              simp
        · cases e
  case slice el =>
    replace e : eqS x y = some b := e
    unfold eqS at e
    cases h1 : asSlc x with
    | none =>
      rw [h1] at e
      simp only [oc_none, bi_eq] at e
      split at e
      · rename_i hn
        have := isNils_true hn; subst this
        cases hx
        cases h2 : asSlc y with
        | none =>
          rw [h2] at e
          simp only [oc_none] at e
          split at e
          · rename_i hn'
            have := isNils_true hn'; subst this
            cases hy
            injection e with e; subst e
            exact ⟨by rw [equal_eq, Op.equalIn]; simp [hu, Result.andThen], by simp [binOp], by simp [binOp], fun op _ _ => by cases op <;> rfl⟩
          · cases e
        | some q =>
          rw [h2] at e
          have := asSlc_some h2; subst this
          injection e with e; subst e
          obtain ⟨B, base, m, ro, hp, rfl, _⟩ := hy.slc_form
          exact ⟨by rw [equal_eq, Op.equalIn]; simp [hu, Result.andThen], by simp [binOp], by simp [binOp], fun op _ _ => by cases op <;> rfl⟩
      · cases e
    | some p =>
      rw [h1] at e
      have := asSlc_some h1; subst this
      simp only [oc_some, bi_eq] at e
      split at e
      · rename_i hn
        have := isNils_true hn; subst this
        injection e with e; subst e
        cases hy
        obtain ⟨B, base, m, ro, hp, rfl, _⟩ := hx.slc_form
        exact ⟨by rw [equal_eq, Op.equalIn]; simp [hu, Result.andThen], by simp [binOp], by simp [binOp], fun op _ _ => by cases op <;> rfl⟩
      · cases e
  case map kk el =>
    replace e : eqM x y = some b := e
    unfold eqM at e
    cases h1 : asMap x with
    | none =>
      rw [h1] at e
      simp only [oc_none, bi_eq] at e
      split at e
      · rename_i hn
        have := isNilm_true hn; subst this
        cases hx
        cases h2 : asMap y with
        | none =>
          rw [h2] at e
          simp only [oc_none] at e
          split at e
          · rename_i hn'
            have := isNilm_true hn'; subst this
            cases hy
            injection e with e; subst e
            exact ⟨by rw [equal_eq, Op.equalIn]; simp [hu, Result.andThen], by simp [binOp], by simp [binOp], fun op _ _ => by cases op <;> rfl⟩
          · cases e
        | some q =>
          rw [h2] at e
          have := asMap_some h2; subst this
          injection e with e; subst e
          cases hy
          exact ⟨by rw [equal_eq, Op.equalIn]; simp [hu, Result.andThen], by simp [binOp], by simp [binOp], fun op _ _ => by cases op <;> rfl⟩
      · cases e
    | some p =>
      rw [h1] at e
      have := asMap_some h1; subst this
      simp only [oc_some, bi_eq] at e
      split at e
      · rename_i hn
        have := isNilm_true hn; subst this
        injection e with e; subst e
        cases hy
        cases hx
        exact ⟨by rw [equal_eq, Op.equalIn]; simp [hu, Result.andThen], by simp [binOp], by simp [binOp], fun op _ _ => by cases op <;> rfl⟩
      · cases e
  case func pr rs vd =>
    replace e : eqF x y = some b := e
    unfold eqF at e
    simp only [bi_eq] at e
    split at e
    · rename_i h1
      have := isNilf_true h1; subst this
      cases hx
      split at e
      · rename_i h2
        have := isNilf_true h2; subst this
        cases hy
        injection e with e; subst e
        exact ⟨by rw [equal_eq, Op.equalIn]; simp [hu, Result.andThen], by simp [binOp], by simp [binOp], fun op _ _ => by cases op <;> rfl⟩
      · split at e
        · rename_i h2
          obtain ⟨f, a, b, rfl⟩ := isFn_true h2
          cases hy
          injection e with e; subst e
          exact ⟨by rw [equal_eq, Op.equalIn]; simp [hu, Result.andThen], by simp [binOp], by simp [binOp], fun op _ _ => by cases op <;> rfl⟩
        · cases e
    · split at e
      · rename_i h1
        obtain ⟨f, a, b, rfl⟩ := isFn_true h1
        split at e
        · rename_i h2
          have := isNilf_true h2; subst this
          cases hx; cases hy
          injection e with e; subst e
          exact ⟨by rw [equal_eq, Op.equalIn]; simp [hu, Result.andThen], by simp [binOp], by simp [binOp], fun op _ _ => by cases op <;> rfl⟩
        · cases e
      · cases e
  all_goals cases e

/-- The same, by what runs. -/
structure EqRun (P : Program) (w : World) (t : TypeId) (x y : Value) (b : Bool) : Prop where
  op : (binOp .eql t x y).run P w = .ok (.bool b) w
  op' : (binOp .neq t x y).run P w = .ok (.bool (!b)) w
  gd : ∀ op u v, (eqGuard op t u v x y).run P w = .ok () w
theorem EqOk.run {t : TypeId} {x y : Value} {b : Bool} (h : EqOk P w t x y b) : EqRun P w t x y b :=
  ⟨by rw [h.op]; simp [h.eq, Result.andThen], by rw [h.op']; simp [h.eq, Result.andThen], fun op u v => by rw [h.gd]; rfl⟩
theorem structF_some {k : TK} {fs : List (Nat × TypeId)} (h : structF k = some fs) : k = .struct fs := by cases k <;> first | (injection h with h; subst h; rfl) | cases h
theorem namesOk_mem {l : List Field} (h : namesOk l = true) : ∀ f ∈ l, f.name ≠ "_" := by
  induction l with
  | nil => intro f hf; cases hf
  | cons a r ih =>
    replace h : bi (a.name == "_") false (namesOk r) = true := h
    cases ha : a.name == "_"
    · rw [ha, bi_false] at h
      intro f hf
      cases hf with
      | head => simpa using ha
      | tail _ hf => exact ih h f hf
    · rw [ha] at h; cases h
theorem VR.str_form {l : List Nat} {v : Value} (h : VR g (.str l) v) : ∃ s : ByteArray, v = .string s ∧ l = byteL s.data.toList := by
  cases h with | str s => exact ⟨s, rfl, rfl⟩
theorem keyEq_run {t : TypeId} {ti : TI} (ht : TOk P t ti) {x y : AV} {xv yv : Value} (hx : VR g x xv) (hy : VR g y yv) {b : Bool} (e : keyEq ti.kind x y = some b) (d : Nat) (w : World) : isAgg ti.kind = false ∧ (Op.equalIn (d + 1) t xv yv).run P w = .ok b w := by
  cases hk : ti.kind <;> rw [hk] at e <;> try (cases e; done)
  case bool =>
    obtain ⟨p, q, rfl, rfl, rfl⟩ := eqB_some e
    cases hx; cases hy
    obtain ⟨dd, hd, hkd⟩ := ht.und
    rw [hk] at hkd
    cases dd <;> first | (cases hkd; done) | skip
    exact ⟨rfl, run_equalIn_bool' w d t _ _ hd⟩
  case int k =>
    replace e : keyI x y = some b := e
    unfold keyI at e
    cases h1 : asInt x with
    | none => rw [h1] at e; cases e
    | some p =>
      cases h2 : asInt y with
      | none => rw [h1, h2] at e; cases e
      | some q =>
        rw [h1, h2] at e
        simp only [oc_some] at e
        have := asInt_some h1; subst this
        have := asInt_some h2; subst this
        cases hx; cases hy
        cases hkk : Nat.beq (ikN p.1) (ikN q.1)
        · rw [hkk] at e; cases e
        · rw [hkk, bi_true] at e
          injection e with e
          rw [ieq_eq] at e
          subst e
          have := ikN_inj hkk
          rw [← this]
          exact ⟨rfl, run_equalIn_int w d t _ k _ _ (ht.int hk)⟩
  case str =>
    replace e : keyS x y = some b := e
    unfold keyS at e
    cases h1 : asStr x with
    | none => rw [h1] at e; cases e
    | some p =>
      cases h2 : asStr y with
      | none => rw [h1, h2] at e; cases e
      | some q =>
        rw [h1, h2] at e
        simp only [oc_some] at e
        have := asStr_some h1; subst this
        have := asStr_some h2; subst this
        obtain ⟨s, rfl, rfl⟩ := hx.str_form
        obtain ⟨u, rfl, rfl⟩ := hy.str_form
        injection e with e
        subst e
        refine ⟨rfl, ?_⟩
        rw [run_equalIn_string w d t _ _ (ht.str hk), lbeq_eq, byteL_beq, toList_data, toList_data]
theorem eqFs_run {l m : List AV} {l' m' : List Value} (hl : VRs g l l') (hm : VRs g m m') (d : Nat) (w : World) : ∀ (fs : List Field) {b : Bool}, (∀ f ∈ fs, f.name ≠ "_") → eqFs (mkTI P) (fs.map fun f => (f.offset, f.type)) l m = some b → (Op.eqFields (d + 1) l'.toArray m'.toArray fs).run P w = .ok b w
  | [], b, _, e => by injection e with e; subst e; simp [Op.eqFields]
  | f :: r, b, hn, e => by
    replace e : oc none (fun ti => oc none (fun a => oc none (fun b => oc none (fun c => bi c (eqFs (mkTI P) (r.map fun f => (f.offset, f.type)) l m) (some false)) (keyEq ti.kind a b)) (idx f.offset m)) (idx f.offset l)) (mkTI P f.type) = some b := e
    cases ht : mkTI P f.type with
    | none => rw [ht] at e; cases e
    | some ti =>
      rw [ht, oc_some, idx_eq, idx_eq] at e
      cases h1 : l[f.offset]? with
      | none => rw [h1] at e; cases e
      | some a =>
        rw [h1, oc_some] at e
        cases h2 : m[f.offset]? with
        | none => rw [h2] at e; cases e
        | some c =>
          rw [h2, oc_some] at e
          cases h3 : keyEq ti.kind a c with
          | none => rw [h3] at e; cases e
          | some q =>
            rw [h3, oc_some] at e
            obtain ⟨a', e1, va⟩ := hl.at h1
            obtain ⟨c', e2, vc⟩ := hm.at h2
            have hT := mkTI_some ht
            obtain ⟨hag, heq⟩ := keyEq_run hT va vc h3 d w
            have hpa : (Go.part f.type l'.toArray f.offset).run P w = .ok a' w := by simp [Go.part, Sem.run_bind, hT.isAgg, hag, e1, Result.andThen]
            have hpc : (Go.part f.type m'.toArray f.offset).run P w = .ok c' w := by simp [Go.part, Sem.run_bind, hT.isAgg, hag, e2, Result.andThen]
            rw [Op.eqFields, if_pos (hn f (.head _))]
            simp only [Sem.run_bind, hpa, hpc, heq, Result.andThen_ok]
            cases q
            · injection e with e
              subst e
              simp
            · rw [bi_true] at e
              simp only [Bool.not_true, Bool.false_eq_true, if_false]
              exact eqFs_run hl hm d w r (fun x hx => hn x (.tail _ hx)) e
theorem eqT_ok {t : TypeId} {ti : TI} (ht : TOk P t ti) {x y : AV} {xv yv : Value} (hx : VR g x xv) (hy : VR g y yv) {b : Bool} (e : eqT (mkTI P) ti x y = some b) : EqRun P w t xv yv b := by
  unfold eqT at e
  cases hs : structF ti.kind with
  | none => rw [hs, oc_none] at e; exact (eqK_ok ht hx hy e).run
  | some fs =>
    rw [hs, oc_some] at e
    have hk := structF_some hs
    unfold eqAg at e
    cases hq : ti.eqs
    · rw [hq] at e; cases e
    · rw [hq, bi_true] at e
      cases h1 : asAgg x with
      | none => rw [h1] at e; cases e
      | some l =>
        cases h2 : asAgg y with
        | none => rw [h1, h2] at e; cases e
        | some m =>
          rw [h1, h2, oc_some, oc_some] at e
          have hxe : x = .agg l := by cases x <;> first | (injection h1 with h1; subst h1; rfl) | cases h1
          have hye : y = .agg m := by cases y <;> first | (injection h2 with h2; subst h2; rfl) | cases h2
          subst hxe; subst hye
          cases hx with | agg _ l' hl _ =>
          cases hy with | agg _ m' hm _ =>
          obtain ⟨i, d, z, hi0, hd, hz0, rfl, hac, hlen0, hagv⟩ := ht.ex
          replace hq : eqsOf P t d = true := hq
          replace hk : kOf d = .struct fs := hk
          unfold eqsOf at hq
          cases q1 : P.stoodInHeld t
          · rw [q1, bi_false] at hq
            cases q2 : P.eqGuardType P.depth t
            · rw [q2, bi_false] at hq
              cases d <;> first | (cases hk; done) | skip
              rename_i fields
              replace hk : TK.struct (fields.toList.map fun f => (f.offset, f.type)) = .struct fs := hk
              injection hk with hk
              subst hk
              have hn := namesOk_mem (show namesOk fields.toList = true from hq)
              have hf : P.fieldsOf t = fields := by unfold Program.fieldsOf; rw [hd]
              have hr := eqFs_run (P := P) hl hm 9998 w fields.toList hn e
              have hr2 : (Op.equalIn 10000 t (.agg l'.toArray) (.agg m'.toArray)).run P w = .ok b w := by
                rw [show (10000 : Nat) = 9999 + 1 from rfl, run_equalIn_struct w 9999 t _ _ (by rw [hf]; exact hd) q1, hf]
                exact hr
              exact ⟨by rw [run_eql_struct, hr2]; rfl, by rw [run_neq_struct, hr2]; rfl, fun op u v => run_eqGuard_agg w op t u v _ _ q2⟩
            · rw [q2] at hq; cases hq
          · rw [q1] at hq; cases hq
/-- A known number beside one that is at least n. -/
theorem bopY_good (hr : HR B0 g h w) (op : BinOp) (t : TypeId) (u v : Operand) (p : IntKind × Int) (y : AV) (yv : Value) (hy : VR g y yv) :
    VG P B0 g h w (do eqGuard op t u v (.int p.1 p.2) yv; binOp op t (.int p.1 p.2) yv) (bopY h op p y) := by
  unfold bopY
  cases hn : asXnat y with
  | none => trivial
  | some n =>
    have := asXnat_some hn; subst this
    generalize hyy : AV.xnat n = yy at hy
    cases hy <;> cases hyy
    rename_i n' hle
    simp only [oc_some]
    cases hk : Nat.beq (ikN p.1) 3
    · trivial
    rw [bi_true]
    have hk : p.1 = .i64 := ikN_inj (k' := .i64) hk
    rw [hk]
    have hg : eqGuard op t u v (.int .i64 p.2) (.int .i64 n') = pure () := by cases op <;> rfl
    rw [hg]
    cases op <;> try trivial
    show VG P B0 g h w _ (bi (ilt p.2 (.ofNat n)) (.val (.bool true) h) .no)
    rw [ilt_eq]
    cases e : decide (p.2 < Int.ofNat n)
    · trivial
    · have e : p.2 < (n : Int) := by simpa using e
      have e2 : p.2 < (n' : Int) := by omega
      exact VG.same hr (v' := .bool true) (by simp [binOp, Op.intCmp, e2]) (.bool _)
/-- A number that is at least n beside a known one. -/
theorem bopX_good (hr : HR B0 g h w) (op : BinOp) (t : TypeId) (u v : Operand) (n : Nat) (x y : AV) (xv yv : Value) (hxn : x = .xnat n) (hx : VR g x xv) (hy : VR g y yv) :
    VG P B0 g h w (do eqGuard op t u v xv yv; binOp op t xv yv) (bopX h op n y) := by
  cases hx <;> cases hxn
  rename_i n' hle
  unfold bopX
  cases h3 : asInt y with
  | none => trivial
  | some q =>
    have := asInt_some h3; subst this
    cases hy
    simp only [oc_some]
    cases hk : Nat.beq (ikN q.1) 3
    · trivial
    rw [bi_true]
    have hk : q.1 = .i64 := ikN_inj (k' := .i64) hk
    rw [hk]
    have hg : eqGuard op t u v (.int .i64 n') (.int .i64 q.2) = pure () := by cases op <;> rfl
    rw [hg]
    cases op <;> try trivial
    case geq =>
      show VG P B0 g h w _ (bi (ilt (.ofNat n) q.2) .no (.val (.bool true) h))
      rw [ilt_eq]
      cases e : decide (Int.ofNat n < q.2)
      · have e : ¬ ((n : Int) < q.2) := by simpa using e
        have e2 : q.2 ≤ (n' : Int) := by omega
        exact VG.same hr (v' := .bool true) (by simp [binOp, Op.intCmp, e2]) (.bool _)
      · trivial
    case gtr =>
      show VG P B0 g h w _ (bi (ilt q.2 (.ofNat n)) (.val (.bool true) h) .no)
      rw [ilt_eq]
      cases e : decide (q.2 < Int.ofNat n)
      · trivial
      · have e : q.2 < (n : Int) := by simpa using e
        have e2 : q.2 < (n' : Int) := by omega
        exact VG.same hr (v' := .bool true) (by simp [binOp, Op.intCmp, e2]) (.bool _)
    case lss =>
      show VG P B0 g h w _ (bi (ilt (.ofNat n) q.2) .no (.val (.bool false) h))
      rw [ilt_eq]
      cases e : decide (Int.ofNat n < q.2)
      · have e : ¬ ((n : Int) < q.2) := by simpa using e
        have e2 : ¬ ((n' : Int) < q.2) := by omega
        exact VG.same hr (v' := .bool false) (by simp [binOp, Op.intCmp]; omega) (.bool _)
      · trivial
theorem and7 (n : Int) : IntKind.i64.wrap (BitVec.ofInt 64 n &&& BitVec.ofInt 64 7).toNat = (n % 18446744073709551616) % 8 := by
  have h1 : (BitVec.ofInt 64 n &&& BitVec.ofInt 64 7).toNat = (BitVec.ofInt 64 n).toNat % 8 := by
    rw [BitVec.toNat_and]
    exact Nat.and_two_pow_sub_one_eq_mod _ 3
  rw [h1, IntKind.wrap_i64, BitVec.toNat_ofInt]
  omega
/-- A number that is known by a residue. -/
theorem bopR_good (hr : HR B0 g h w) (op : BinOp) (t : TypeId) (u v : Operand) (r : Xr) (y : AV) (xv yv : Value) (hx : VR g (.xres r.k r.m r.r) xv) (hy : VR g y yv) :
    VG P B0 g h w (do eqGuard op t u v xv yv; binOp op t xv yv) (oc (bopO op h (mkTI P) (mkTI P t) (.xres r.k r.m r.r) y) (fun r => bopR h op r y) (some r)) := by
  simp only [oc_some]
  unfold bopR
  cases h3 : asInt y with
  | none => trivial
  | some q =>
    have := asInt_some h3; subst this
    cases hy
    simp only [oc_some]
    have hg : ∀ k n, eqGuard op t u v (.int k n) (.int q.1 q.2) = pure () := fun k n => by cases op <;> rfl
    cases op <;> try trivial
    case rem =>
      show VG P B0 g h w _ (bi (Nat.beq r.k 1) (bi (Nat.beq (ikN q.1) 3) (bi (ieq q.2 (.ofNat r.m)) (bi (Nat.blt 0 r.m) (.val (.int .i64 r.r) h) .no) .no) .no) (bi (Nat.beq r.k 2) (bi (Nat.beq (ikN q.1) 7) (bi (ieq q.2 (.ofNat r.m)) (bi (Nat.blt 0 r.m) (.val (.int .u64 r.r) h) .no) .no) .no) .no))
      cases e1 : Nat.beq r.k 1
      · rw [bi_false]
        cases e2 : Nat.beq r.k 2
        · trivial
        rw [bi_true]
        cases e3 : Nat.beq (ikN q.1) 7
        · trivial
        rw [bi_true]
        cases e4 : ieq q.2 (.ofNat r.m)
        · trivial
        rw [bi_true]
        cases e5 : Nat.blt 0 r.m
        · trivial
        rw [bi_true]
        have f2 := Nat.eq_of_beq_eq_true e2
        have f3 : q.1 = .u64 := ikN_inj (k' := .u64) e3
        have f4 : q.2 = (r.m : Int) := by rw [ieq_eq] at e4; simpa using e4
        have f5 : 0 < r.m := by simpa [Nat.blt_eq] using e5
        obtain ⟨k, m, r'⟩ := r
        dsimp only at hx f2 f4 f5 ⊢
        subst f2
        cases hx with | xres2 _ _ n h0 hn =>
        rw [hg, f3, f4]
        have hm : ¬ ((m : Int) = 0) := by omega
        refine VG.same hr (v' := .int .u64 r') ?_ (.int _ _)
        have : n.tmod m = r' := by rw [Int.tmod_eq_emod_of_nonneg h0]; exact hn
        simp [binOp, Op.intDiv, this]
        omega
      · rw [bi_true]
        cases e3 : Nat.beq (ikN q.1) 3
        · trivial
        rw [bi_true]
        cases e4 : ieq q.2 (.ofNat r.m)
        · trivial
        rw [bi_true]
        cases e5 : Nat.blt 0 r.m
        · trivial
        rw [bi_true]
        have f1 := Nat.eq_of_beq_eq_true e1
        have f3 : q.1 = .i64 := ikN_inj (k' := .i64) e3
        have f4 : q.2 = (r.m : Int) := by rw [ieq_eq] at e4; simpa using e4
        have f5 : 0 < r.m := by simpa [Nat.blt_eq] using e5
        obtain ⟨k, m, r'⟩ := r
        dsimp only at hx f1 f4 f5 ⊢
        subst f1
        cases hx with | xres1 _ _ n hn =>
        rw [hg, f3, f4]
        have hm : ¬ ((m : Int) = 0) := by omega
        refine VG.same hr (v' := .int .i64 r') ?_ (.int _ _)
        simp [binOp, Op.intDiv, hn]
        omega
    case and =>
      show VG P B0 g h w _ (bi (Nat.beq r.k 0) (bi (Nat.beq (ikN q.1) 3) (bi (ieq q.2 7) (bi (Nat.beq r.m 8) (.val (.int .i64 r.r) h) .no) .no) .no) .no)
      cases e1 : Nat.beq r.k 0
      · trivial
      rw [bi_true]
      cases e3 : Nat.beq (ikN q.1) 3
      · trivial
      rw [bi_true]
      cases e4 : ieq q.2 7
      · trivial
      rw [bi_true]
      cases e5 : Nat.beq r.m 8
      · trivial
      rw [bi_true]
      have f1 := Nat.eq_of_beq_eq_true e1
      have f3 : q.1 = .i64 := ikN_inj (k' := .i64) e3
      have f4 : q.2 = 7 := by rw [ieq_eq] at e4; simpa using e4
      have f5 := Nat.eq_of_beq_eq_true e5
      obtain ⟨k, m, r'⟩ := r
      dsimp only at hx f1 f5 ⊢
      subst f1
      subst f5
      cases hx with | xres0 _ _ n _ hn =>
      rw [hg, f3, f4]
      refine VG.same hr (v' := .int .i64 r') ?_ (.int _ _)
      have := and7 n
      simp [binOp, Op.intBits]
      rw [← hn]
      exact this
theorem cmpXi_good (hr : HR B0 g h w) {s : Sem Value} {t f b : Bool} (hs : s.run P w = .ok (.bool b) w) (ht : t = true → b = true) (hf : f = true → b = false) : VG P B0 g h w s (cmpXi h t f) := by
  unfold cmpXi
  cases t
  · rw [bi_false]
    cases f
    · trivial
    · rw [bi_true]
      have := hf rfl
      subst this
      exact VG.same hr hs (.bool _)
  · rw [bi_true]
    have := ht rfl
    subst this
    exact VG.same hr hs (.bool _)
theorem okXi_good (hr : HR B0 g h w) {s : Sem Value} {x : Xi} {m : Int} (hs : s.run P w = .ok (.int .i64 (IntKind.i64.wrap m)) w) (hm : m = x.a * g.env x.k + x.c) (hl : x.lo ≤ m) (hh : m ≤ x.hi) : VG P B0 g h w s (okXi x h) := by
  unfold okXi
  rw [ilt_eq, ilt_eq]
  cases e1 : decide (x.lo < Int.negSucc 4611686018427387903)
  · rw [bi_false]
    cases e2 : decide (Int.ofNat 4611686018427387904 < x.hi)
    · rw [bi_false]
      have e1 : ¬ x.lo < -4611686018427387904 := by simpa using e1
      have e2 : ¬ (4611686018427387904 : Int) < x.hi := by simpa using e2
      have hw : IntKind.i64.wrap m = m := by rw [IntKind.wrap_i64]; omega
      rw [hw] at hs
      exact VG.same hr hs (.xi x m hm hl hh)
    · trivial
  · trivial
theorem bopXi_good (hr : HR B0 g h w) (op : BinOp) (t : TypeId) (u v : Operand) (x : Xi) (y : AV) (xv yv : Value) (hx : VR g (.xi x) xv) (hy : VR g y yv) :
    VG P B0 g h w (do eqGuard op t u v xv yv; binOp op t xv yv) (bopXi h op x y) := by
  cases hx with | xi _ n hn hl hh =>
  unfold bopXi
  cases h3 : asInt y with
  | none => trivial
  | some q =>
    have := asInt_some h3; subst this
    cases hy
    simp only [oc_some]
    cases hk : Nat.beq (ikN q.1) 3
    · trivial
    rw [bi_true]
    have hk : q.1 = .i64 := ikN_inj (k' := .i64) hk
    rw [hk]
    have hg : eqGuard op t u v (.int .i64 n) (.int .i64 q.2) = pure () := by cases op <;> rfl
    rw [hg]
    cases op <;> try trivial
    case add =>
      show VG P B0 g h w _ (okXi (addXi x q.2) h)
      refine okXi_good hr (m := n + q.2) (by simp [binOp, Op.intArith]) ?_ (Int.add_le_add_right hl _) (Int.add_le_add_right hh _)
      show n + q.2 = x.a * g.env x.k + (x.c + q.2)
      omega
    case sub =>
      show VG P B0 g h w _ (okXi (addXi x (-q.2)) h)
      refine okXi_good hr (m := n - q.2) (by simp [binOp, Op.intArith]) ?_ (show x.lo + -q.2 ≤ n - q.2 by omega) (show n - q.2 ≤ x.hi + -q.2 by omega)
      show n - q.2 = x.a * g.env x.k + (x.c + -q.2)
      omega
    case mul =>
      show VG P B0 g h w _ (oc .no (fun q => okXi (mulXi x q) h) (natI q.2))
      cases hq : natI q.2 with
      | none => trivial
      | some m =>
        have hm : q.2 = (m : Int) := by
          cases hq2 : q.2 with
          | ofNat k => rw [hq2] at hq; injection hq with hq; rw [hq]; rfl
          | negSucc k => rw [hq2] at hq; cases hq
        rw [hm]
        simp only [oc_some]
        have h0 : (0 : Int) ≤ (m : Int) := by omega
        refine okXi_good hr (m := n * m) (by simp [binOp, Op.intArith]) ?_ (Int.mul_le_mul_of_nonneg_right hl h0) (Int.mul_le_mul_of_nonneg_right hh h0)
        show n * m = x.a * m * g.env x.k + x.c * m
        rw [hn, Int.add_mul, Int.mul_right_comm]
    case lss =>
      show VG P B0 g h w _ (cmpXi h (ilt x.hi q.2) (ileq q.2 x.lo))
      refine cmpXi_good hr (b := decide (n < q.2)) (by simp [binOp, Op.intCmp]) (fun e => ?_) (fun e => ?_)
      · rw [ilt_eq] at e; simp at e ⊢; omega
      · unfold ileq at e; rw [ilt_eq, bi_eq] at e; simp at e ⊢; omega
    case geq =>
      show VG P B0 g h w _ (cmpXi h (ileq q.2 x.lo) (ilt x.hi q.2))
      refine cmpXi_good hr (b := decide (q.2 ≤ n)) (by simp [binOp, Op.intCmp]) (fun e => ?_) (fun e => ?_)
      · unfold ileq at e; rw [ilt_eq, bi_eq] at e; simp at e ⊢; omega
      · rw [ilt_eq] at e; simp at e ⊢; omega
    case leq =>
      show VG P B0 g h w _ (cmpXi h (ileq x.hi q.2) (ilt q.2 x.lo))
      refine cmpXi_good hr (b := decide (n ≤ q.2)) (by simp [binOp, Op.intCmp]) (fun e => ?_) (fun e => ?_)
      · unfold ileq at e; rw [ilt_eq, bi_eq] at e; simp at e ⊢; omega
      · rw [ilt_eq] at e; simp at e ⊢; omega
    case gtr =>
      show VG P B0 g h w _ (cmpXi h (ilt q.2 x.lo) (ileq x.hi q.2))
      refine cmpXi_good hr (b := decide (q.2 < n)) (by simp [binOp, Op.intCmp]) (fun e => ?_) (fun e => ?_)
      · rw [ilt_eq] at e; simp at e ⊢; omega
      · unfold ileq at e; rw [ilt_eq, bi_eq] at e; simp at e ⊢; omega
    case eql =>
      show VG P B0 g h w _ (cmpXi h false (bi (ilt q.2 x.lo) true (ilt x.hi q.2)))
      refine cmpXi_good hr (b := n == q.2) (by simp [binOp, Op.intCmp]) (fun e => by cases e) (fun e => ?_)
      rw [ilt_eq, ilt_eq, bi_eq] at e
      have : n ≠ q.2 := by
        split at e <;> simp_all <;> omega
      simpa using this
    case neq =>
      show VG P B0 g h w _ (cmpXi h (bi (ilt q.2 x.lo) true (ilt x.hi q.2)) false)
      refine cmpXi_good hr (b := n != q.2) (by simp [binOp, Op.intCmp]) (fun e => ?_) (fun e => by cases e)
      rw [ilt_eq, ilt_eq, bi_eq] at e
      have : n ≠ q.2 := by
        split at e <;> simp_all <;> omega
      simpa using this
/-- Two values and an operator. -/
theorem binop_good (hr : HR B0 g h w) (op : BinOp) (t : TypeId) (u v : Operand) (x y : AV) (xv yv : Value) (hx : VR g x xv) (hy : VR g y yv) :
    VG P B0 g h w (do eqGuard op t u v xv yv; binOp op t xv yv) (binop (mkTI P) h op (mkTI P t) x y) := by
  unfold binop
  cases h1 : asInt x with
  | some p =>
    have := asInt_some h1; subst this
    cases hx
    simp only [oc_some]
    cases h2 : asInt y with
    | none => exact bopY_good hr op t u v p y yv hy
    | some q =>
      have := asInt_some h2; subst this
      cases hy
      simp only [oc_some]
      have hg : eqGuard op t u v (.int p.1 p.2) (.int q.1 q.2) = pure () := by cases op <;> rfl
      rw [hg]
      cases hA : Nat.beq (ikN p.1) (ikN q.1)
      · cases hS : isSh op
        · trivial
        · exact bopI_good (P := P) hr op t p.1 q.1 p.2 q.2 (.inr (by cases op <;> first | exact .inl rfl | exact .inr rfl | cases hS))
      · exact bopI_good (P := P) hr op t p.1 q.1 p.2 q.2 (.inl (ikN_inj hA))
  | none =>
    simp only [oc_none]
    unfold bop2
    cases h2 : asStr x with
    | some a =>
      have := asStr_some h2; subst this
      generalize hxx : AV.str a = xx at hx
      cases hx <;> cases hxx
      rename_i s
      simp only [oc_some]
      cases h3 : asStr y with
      | none => trivial
      | some b =>
        have := asStr_some h3; subst this
        generalize hyy : AV.str b = yy at hy
        cases hy <;> cases hyy
        rename_i s'
        have := bopS_good (P := P) hr op t s s'
        have hg : eqGuard op t u v (.string s) (.string s') = pure () := by cases op <;> rfl
        rw [hg]
        exact this
    | none =>
      simp only [oc_none]
      unfold bop4
      cases hz : asXi x with
      | some z =>
        have := asXi_some hz; subst this
        exact bopXi_good hr op t u v z y xv yv hx hy
      | none =>
      simp only [oc_none]
      unfold bop3
      cases hn : asXnat x with
      | some n =>
        have := asXnat_some hn; subst this
        exact bopX_good hr op t u v n _ y xv yv rfl hx hy
      | none =>
      cases hx' : asXres x with
      | some r =>
        have := asXres_some hx'; subst this
        exact bopR_good hr op t u v r y xv yv hx hy
      | none =>
        simp only [oc_none]
        cases op <;> try trivial
        case eql =>
          show VG P B0 g h w _ (oc .no (fun ti => kBoolO h (eqT (mkTI P) ti x y)) (mkTI P t))
          cases ht : mkTI P t with
          | none => trivial
          | some ti =>
            simp only [oc_some]
            cases he : eqT (mkTI P) ti x y with
            | none => trivial
            | some b =>
              have hk := eqT_ok (w := w) (mkTI_some ht) hx hy he
              unfold kBoolO
              simp only [oc_some]
              rw [kBool_eq]
              exact VG.same hr (by simp [hk.gd, hk.op, Result.andThen]) (.bool _)
        case neq =>
          show VG P B0 g h w _ (oc .no (fun ti => oc .no (fun b => kBool h (bi b false true)) (eqT (mkTI P) ti x y)) (mkTI P t))
          cases ht : mkTI P t with
          | none => trivial
          | some ti =>
            simp only [oc_some]
            cases he : eqT (mkTI P) ti x y with
            | none => trivial
            | some b =>
              have hk := eqT_ok (w := w) (mkTI_some ht) hx hy he
              simp only [oc_some]
              rw [kBool_not]
              exact VG.same hr (by simp [hk.gd, hk.op', Result.andThen]) (.bool _)
theorem unop_good (hr : HR B0 g h w) (op : UnOp) (x : AV) (xv : Value) (hx : VR g x xv) : VG P B0 g h w (Op.unary op xv) (unop h op x) := by
  cases op
  case neg =>
    show VG P B0 g h w _ (oc .no (fun p => kW h p.1 (0 - p.2)) (asInt x))
    cases h1 : asInt x with
    | none => trivial
    | some p =>
      have := asInt_some h1; subst this
      cases hx
      simp only [oc_some]
      rw [kW_eq]
      exact VG.same hr (by simp [Op.unary, Op.intArith]) (.int _ _)
  case not =>
    show VG P B0 g h w _ (oc .no (fun b => kBool h (bi b false true)) (asBool x))
    cases h1 : asBool x with
    | none => trivial
    | some p =>
      have := asBool_some h1; subst this
      cases hx
      simp only [oc_some]
      rw [kBool_not]
      exact VG.same hr (by simp [Op.unary]) (.bool _)
  all_goals trivial
end
end Go.Proofs.YtimjbojoeacaeaaDoor.Kx
