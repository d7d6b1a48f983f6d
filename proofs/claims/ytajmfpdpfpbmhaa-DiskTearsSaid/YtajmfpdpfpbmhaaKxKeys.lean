/- slices.Sorted(maps.Keys(m)), of a map whose keys are ints: known beforehand. -/
import Derived.Test.YtajmfpdpfpbmhaaKxIns2
import Derived.Laws.AppendOwn
import Derived.MapKept
namespace Go.Proofs.Ytajmfpdpfpbmhaa.Kx
open Go.MapKept Go.RowKit
noncomputable section
def intOf1 : AV → Option Int := (@AV.rec (fun _ => Option Int) (fun _ => Unit) (none) (fun _ => none) (fun k n => bi (Nat.beq (ikN k) (nat_lit 3)) (bi (ieq (IntKind.wrap .i64 n) n) (some n) none) none) (fun _ => none) (none) (fun _ _ => none) (none) (fun _ _ _ _ => none) (none) (fun _ => none) (fun _ _ _ _ _ => none) (none) (fun _ _ _ => none) (none) (fun _ _ => none) (fun _ _ => none) (fun _ _ => none) (fun _ => none) (fun _ _ _ => none) () (fun _ _ _ _ => ()))
def keysOf (l : List (AV × AV × Nat)) : Option (List Int) := @List.rec (AV × AV × Nat) (fun _ => Option (List Int)) (some []) (fun e _ r => oc none (fun k => oc none (fun ks => some (k :: ks)) r) (intOf1 e.1)) l
def memI (n : Int) (l : List Int) : Bool := @List.rec Int (fun _ => Bool) false (fun x _ r => bi (ieq x n) true r) l
def nodI (l : List Int) : Bool := @List.rec Int (fun _ => Bool) true (fun x l r => bi (memI x l) false r) l
def bornL (l : List (AV × AV × Nat)) : List Nat := @List.rec (AV × AV × Nat) (fun _ => List Nat) [] (fun e _ r => e.2.2 :: r) l
def nodN (l : List Nat) : Bool := @List.rec Nat (fun _ => Bool) true (fun x l r => bi (memN x l) false r) l
def allLt (c : Nat) (l : List Nat) : Bool := @List.rec Nat (fun _ => Bool) true (fun x _ r => bi (Nat.blt x c) r false) l
def insI (n : Int) (l : List Int) : List Int := @List.rec Int (fun _ => List Int) [n] (fun x l r => bi (ilt x n) (x :: r) (n :: x :: l)) l
def sortI (l : List Int) : List Int := @List.rec Int (fun _ => List Int) [] (fun x _ r => insI x r) l
def intAVs (l : List Int) : List AV := @List.rec Int (fun _ => List AV) [] (fun x _ r => .int .i64 x :: r) l
def okKeys (m : Mp) (ks : List Int) : Bool := bi (Nat.blt (len ks) (nat_lit 1000)) (bi (nodI ks) (bi (nodN (bornL m.es)) (allLt m.clock (bornL m.es)) false) false) false
def ovKeys (K1 : FuncId) (bt : TypeId) (l : List AV) (h : H) : XR := hd1 (fun x => oc .no (fun m => kNew h (.sit (.b m bt)) fun n => .fn (.func K1) [] [.ptr n (nat_lit 0)]) (asMap x)) l
def fnBox (K1 : FuncId) : AV → Option Nat := (@AV.rec (fun _ => FuncId → Option Nat) (fun _ => Unit) (fun _ => none) (fun _ => fun _ => none) (fun _ _ => fun _ => none) (fun _ => fun _ => none) (fun _ => none) (fun _ _ => fun _ => none) (fun _ => none) (fun _ _ _ _ => fun _ => none) (fun _ => none) (fun _ => fun _ => none) (fun f x y _ _ => fun K1 => (@Fn.rec (fun _ => FuncId → List AV → List AV → Option Nat) (fun g => fun K1 x y => bi (Nat.beq g K1) (@List.rec AV (fun _ => Option Nat) (@List.rec AV (fun _ => Option Nat) none (fun p q _ => @List.rec AV (fun _ => Option Nat) (oc none (fun a => bi (Nat.beq a.2 (nat_lit 0)) (some a.1) none) (asPtr p)) (fun _ _ _ => none) q) y) (fun _ _ _ => none) x) none) (fun _ => fun _ _ _ => none) (fun _ _ => fun _ _ _ => none) (fun _ _ _ _ => fun _ _ _ => none) (fun _ => fun _ _ _ => none) ) f K1 x y) (fun _ => none) (fun _ _ _ => fun _ => none) (fun _ => none) (fun _ _ => fun _ => none) (fun _ _ => fun _ => none) (fun _ _ => fun _ => none) (fun _ => fun _ => none) (fun _ _ _ => fun _ => none) () (fun _ _ _ _ => ())) |> fun f v => f v K1
def itBox (o : Option It) : Option Nat := oc none ((@It.rec (fun _ => Option Nat) (fun _ _ => none) (fun _ _ _ _ => none) (fun m _ => some m) )) o
def sorted1 (h : H) (kt : TypeId) (ks : List Int) : XR := @List.rec Int (fun _ => XR) (.val .nils h) (fun _ _ _ => kNew h (.cells (intAVs (sortI ks)) kt) fun n => .slc n (nat_lit 0) (len ks) (.v (nat_lit 1) (nat_lit 0))) ks
def ovSorted (K1 : FuncId) (kt : TypeId) (l : List AV) (h : H) : XR := hd1 (fun x => oc .no (fun b => oc .no (fun m => oc .no (fun m => oc .no (fun ks => bi (okKeys m ks) (sorted1 h kt ks) .no) (keysOf m.es)) (objMap (h.m.get m))) (itBox (objSit (h.m.get b)))) (fnBox K1 x)) l
end
section
variable {P : Program} {B0 : Nat} {g : G} {h : H} {w : World}
/-- What the kit's contracts say of the two calls. -/
structure KeysT (P : Program) (FK FS K1 : FuncId) (bt kt : TypeId) : Prop where
  keys : ∀ (M : Nat) (w : World), Calls P FK #[.map (some M)] w fun e w' => e = .returned (.func (.func K1) #[] #[.pointer (some ⟨w.heap.size, 0, none⟩)]) ∧ w' = w.alloc (.cells #[.map (some M)] bt)
  sorted : ∀ (Bm M : Nat) (es : Array MapEntry) (clock : Nat) (ks : List Int) (w : World), Bm < w.heap.size → w.cell? ⟨Bm, 0, none⟩ = some (.map (some M)) → w.heap[M]? = some (.map es clock) → es.toList.map (·.key) = ks.map (Value.int .i64) →
    (∀ k ∈ ks, IntKind.i64.wrap k = k) → Stamped es clock → ks.length < 1000 →
    Calls P FS #[.func (.func K1) #[] #[.pointer (some ⟨Bm, 0, none⟩)]] w fun e w' => ∃ (v : Value) (ss : List Int), e = .returned v ∧ ss.Perm ks ∧
      w'.ownsRow w.heap.size kt 1 v ss.length ((ss.mergeSort (fun x y => decide (x ≤ y))).map (Value.int .i64)) ∧ (v = .slice none 0 0 ↔ ss = []) ∧ Below w.heap.size w w'
/-- A block that the call has made, wherever it lies. -/
theorem Tr.fresh {w1 : World} (hr : HR B0 g h w) (hB : B0 ≤ w.heap.size) (hp : g.pos h.next = none) (hg : g.grow h.next = none) (N : Nat) (hN : w.heap.size ≤ N) (hN1 : N < w1.heap.size)
    (o : AObj) (gr : Option (Nat × Nat)) (hb : Below w.heap.size w w1)
    (hc : ∀ l t, o = .cells l t → CR (g.add h.next N 0 gr) h.next N 0 l t w1)
    (hmp : ∀ es clock, o = .map es clock → ∃ es', w1.heap[N]? = some (.map es' clock) ∧ ER g es es'.toList := by intro _ _ e; cases e)
    (hsi : ∀ it, o = .sit it → ∃ ob, w1.heap[N]? = some ob ∧ IR (g.add h.next N 0 gr) it ob := by intro _ e; cases e) :
    Tr B0 g h w (g.add h.next N 0 gr) ⟨h.m.set h.next o, Nat.succ h.next⟩ w1 where
  hr := by
    have hle := G.add_le g h.next N 0 gr hp hg
    have hold : ∀ B, B < w.heap.size → w1.heap[B]? = w.heap[B]? := hb.block
    have hposne : ∀ x, x ≠ h.next → (g.add h.next N 0 gr).pos x = g.pos x := fun x hx => if_neg hx
    have hposeq : (g.add h.next N 0 gr).pos h.next = some (N, 0) := if_pos rfl
    refine ⟨fun b l t B base h1 h2 => ?_, fun b es c B base h1 h2 => ?_, fun b it B base h1 h2 => ?_, fun b b' B base base' h1 h2 h3 h4 => ?_, fun b B base h1 h2 => ?_, fun b B base h1 => ?_⟩
    · rw [get_set] at h1
      by_cases e : h.next = b
      · subst e
        rw [if_pos rfl] at h1
        rw [hposeq] at h2
        injection h2 with h2
        injection h2 with e1 e2
        subst e1; subst e2
        injection h1 with h1
        exact hc l t h1
      · rw [if_neg e] at h1
        rw [hposne b (fun e' => e e'.symm)] at h2
        exact (hr.cells b l t B base h1 h2).mono hle (if_neg (fun e' => e e'.symm)) (hold B (hr.bnd b B base h2))
    · rw [get_set] at h1
      by_cases e : h.next = b
      · subst e
        rw [if_pos rfl] at h1
        rw [hposeq] at h2
        injection h2 with h2
        injection h2 with e1 e2
        subst e1; subst e2
        injection h1 with h1
        obtain ⟨es', e1, e2⟩ := hmp es c h1
        exact ⟨rfl, es', e1, e2.mono hle⟩
      · rw [if_neg e] at h1
        rw [hposne b (fun e' => e e'.symm)] at h2
        obtain ⟨e0, es', e1, e2⟩ := hr.maps b es c B base h1 h2
        exact ⟨e0, es', (hold B (hr.bnd b B base h2)).trans e1, e2.mono hle⟩
    · rw [get_set] at h1
      by_cases e : h.next = b
      · subst e
        rw [if_pos rfl] at h1
        rw [hposeq] at h2
        injection h2 with h2
        injection h2 with e1 e2
        subst e1; subst e2
        injection h1 with h1
        exact ⟨rfl, hsi it h1⟩
      · rw [if_neg e] at h1
        rw [hposne b (fun e' => e e'.symm)] at h2
        obtain ⟨e0, s, e1, e2⟩ := hr.sits b it B base h1 h2
        exact ⟨e0, s, (hold B (hr.bnd b B base h2)).trans e1, e2.mono hle⟩
    · by_cases e : b = h.next
      · by_cases e' : b' = h.next
        · rw [e, e']
        · subst e
          rw [hposeq] at h3
          injection h3 with h3
          injection h3 with e1 e2
          rw [hposne b' e'] at h4
          have := hr.bnd _ _ _ h4
          omega
      · rw [hposne b e] at h3
        by_cases e' : b' = h.next
        · subst e'
          rw [hposeq] at h4
          injection h4 with h4
          injection h4 with e1 e2
          have := hr.bnd _ _ _ h3
          omega
        · rw [hposne b' e'] at h4
          obtain ⟨o1, h1, h1'⟩ := h1
          obtain ⟨o2, h2, h2'⟩ := h2
          rw [get_set, if_neg (fun x => e x.symm)] at h1
          rw [get_set, if_neg (fun x => e' x.symm)] at h2
          exact hr.inj b b' B base base' ⟨o1, h1, h1'⟩ ⟨o2, h2, h2'⟩ h3 h4
    · by_cases e : b = h.next
      · subst e
        rw [hposeq] at h2
        injection h2 with h2
        injection h2 with e1 e2
        omega
      · rw [hposne b e] at h2
        obtain ⟨o1, h1, h1'⟩ := h1
        rw [get_set, if_neg (fun x => e x.symm)] at h1
        exact hr.low b B base ⟨o1, h1, h1'⟩ h2
    · by_cases e : b = h.next
      · subst e
        rw [hposeq] at h1
        injection h1 with h1
        injection h1 with e1 e2
        omega
      · rw [hposne b e] at h1
        have := hr.bnd _ _ _ h1
        have := hb.size
        omega
  le := G.add_le g h.next N 0 gr hp hg
  old := fun b hb => by
    have hb : b < h.next ∨ h.next + 1 ≤ b := hb
    have hne : b ≠ h.next := by omega
    exact ⟨if_neg hne, if_neg hne⟩
  next := Nat.le_succ _
  size := hb.size
  frame := fun B hB _ => hb.block B hB
  afr := fun b o' hb ho _ => by rw [get_set, if_neg (by omega)]; exact ho
  lv := fun b hb hl => by
    obtain ⟨o1, h1, h1'⟩ := hl
    rw [get_set, if_neg (by omega)] at h1
    exact ⟨o1, h1, h1'⟩
  far := fun b hb => by
    have hb : h.next + 1 ≤ b := hb
    rw [get_set, if_neg (by omega)]
  new := fun b h1 h2 => by
    have h2 : b < h.next + 1 := h2
    obtain rfl : b = h.next := by omega
    exact ⟨hp, hg⟩
  newp := fun b B base h1 h2 => by
    by_cases e : b = h.next
    · subst e
      rw [show (g.add h.next N 0 gr).pos h.next = some (N, 0) from if_pos rfl] at h2
      injection h2 with h2
      injection h2 with e1 e2
      left; omega
    · rw [show (g.add h.next N 0 gr).pos b = g.pos b from if_neg e, h1] at h2
      cases h2
  os := hb.os
  tape := hb.tape
  output := hb.output
/-- Nothing that lay before the call has turned. -/
theorem Tr.below {w1 : World} (hr : HR B0 g h w) (hb : Below w.heap.size w w1) : Tr B0 g h w g h w1 where
  hr := ⟨fun b l t B base h1 h2 => (hr.cells b l t B base h1 h2).mono (.refl g) rfl (hb.block B (hr.bnd b B base h2)), fun b es c B base h1 h2 => by
      obtain ⟨e0, es', e1, e2⟩ := hr.maps b es c B base h1 h2
      exact ⟨e0, es', (hb.block B (hr.bnd b B base h2)).trans e1, e2⟩, fun b it B base h1 h2 => by
      obtain ⟨e0, s, e1, e2⟩ := hr.sits b it B base h1 h2
      exact ⟨e0, s, (hb.block B (hr.bnd b B base h2)).trans e1, e2⟩, hr.inj, hr.low, fun b B base h1 => Nat.lt_of_lt_of_le (hr.bnd b B base h1) hb.size⟩
  le := .refl g
  old := fun _ _ => ⟨rfl, rfl⟩
  next := Nat.le_refl _
  size := hb.size
  frame := fun B hB _ => hb.block B hB
  afr := fun _ _ _ h _ => h
  lv := fun _ _ h => h
  far := fun _ _ => rfl
  new := fun _ _ _ => by omega
  newp := fun b B base h h' => by rw [h] at h'; cases h'
  os := hb.os
  tape := hb.tape
  output := hb.output
theorem intOf1_some {x : AV} {k : Int} (e : intOf1 x = some k) : x = .int .i64 k ∧ IntKind.i64.wrap k = k := by
  cases x <;> first | (cases e; done) | skip
  rename_i q n
  replace e : bi (Nat.beq (ikN q) 3) (bi (ieq (IntKind.wrap .i64 n) n) (some n) none) none = some k := e
  cases hk : Nat.beq (ikN q) 3
  · rw [hk] at e; cases e
  rw [hk, bi_true] at e
  cases hw : ieq (IntKind.wrap .i64 n) n
  · rw [hw] at e; cases e
  rw [hw, bi_true] at e
  injection e with e
  subst e
  rw [ikN_inj (k' := .i64) hk]
  exact ⟨rfl, by rw [ieq_eq] at hw; simpa using hw⟩
theorem keysOf_ER : ∀ {l : List (AV × AV × Nat)} {ks : List Int} {es : List MapEntry}, keysOf l = some ks → ER g l es → es.map (·.key) = ks.map (Value.int .i64) ∧ (∀ k ∈ ks, IntKind.i64.wrap k = k) ∧ es.map (·.born) = bornL l
  | [], ks, es, e, h => by
    cases h
    injection e with e
    subst e
    exact ⟨rfl, fun _ h => (by cases h), rfl⟩
  | x :: r, ks, es, e, h => by
    cases h with | cons k v n k' v' _ l' hk hv hs =>
    replace e : oc none (fun k => oc none (fun ks => some (k :: ks)) (keysOf r)) (intOf1 k) = some ks := e
    cases h1 : intOf1 k with
    | none => rw [h1] at e; cases e
    | some z =>
      rw [h1, oc_some] at e
      cases h2 : keysOf r with
      | none => rw [h2] at e; cases e
      | some zs =>
        rw [h2, oc_some] at e
        injection e with e
        subst e
        obtain ⟨rfl, hw⟩ := intOf1_some h1
        cases hk
        obtain ⟨i1, i2, i3⟩ := keysOf_ER h2 hs
        refine ⟨by simp [i1], fun q hq => ?_, ?_⟩
        · cases hq with
          | head => exact hw
          | tail _ hq => exact i2 q hq
        · show n :: l'.map (·.born) = n :: bornL r
          rw [i3]
theorem memI_eq (n : Int) : ∀ l : List Int, memI n l = decide (n ∈ l)
  | [] => rfl
  | x :: r => by
    show bi (ieq x n) true (memI n r) = _
    rw [memI_eq n r, ieq_eq]
    by_cases e : x = n
    · subst e; simp
    · have h1 : ¬ n = x := fun h => e h.symm
      have h2 : (x == n) = false := by simpa using e
      rw [h2, bi_false]
      simp [h1]
theorem nodI_eq : ∀ l : List Int, nodI l = true → l.Nodup
  | [], _ => .nil
  | x :: r, h => by
    replace h : bi (memI x r) false (nodI r) = true := h
    rw [memI_eq] at h
    cases hm : decide (x ∈ r)
    · rw [hm, bi_false] at h
      exact List.nodup_cons.2 ⟨by simpa using hm, nodI_eq r h⟩
    · rw [hm] at h; cases h
theorem nodN_eq : ∀ l : List Nat, nodN l = true → l.Nodup
  | [], _ => .nil
  | x :: r, h => by
    replace h : bi (memN x r) false (nodN r) = true := h
    rw [memN_eq] at h
    cases hm : r.contains x
    · rw [hm, bi_false] at h
      exact List.nodup_cons.2 ⟨by simpa using hm, nodN_eq r h⟩
    · rw [hm] at h; cases h
theorem allLt_eq (c : Nat) : ∀ l : List Nat, allLt c l = true → ∀ x ∈ l, x < c
  | [], _, _, h => by cases h
  | x :: r, h, y, hy => by
    replace h : bi (Nat.blt x c) (allLt c r) false = true := h
    cases hm : Nat.blt x c
    · rw [hm] at h; cases h
    · rw [hm, bi_true] at h
      cases hy with
      | head => simpa [Nat.blt_eq] using hm
      | tail _ hy => exact allLt_eq c r h y hy
theorem insI_perm (n : Int) : ∀ l : List Int, (insI n l).Perm (n :: l)
  | [] => .refl _
  | x :: l => by
    show (bi (ilt x n) (x :: insI n l) (n :: x :: l)).Perm _
    cases ilt x n
    · exact .refl _
    · exact ((insI_perm n l).cons x).trans (.swap _ _ _)
theorem sortI_perm : ∀ l : List Int, (sortI l).Perm l
  | [] => .nil
  | x :: l => (insI_perm x (sortI l)).trans ((sortI_perm l).cons x)
theorem insI_sorted (n : Int) : ∀ l : List Int, l.Pairwise (· ≤ ·) → (insI n l).Pairwise (· ≤ ·)
  | [], _ => List.pairwise_singleton _ _
  | x :: l, h => by
    show (bi (ilt x n) (x :: insI n l) (n :: x :: l)).Pairwise _
    rw [ilt_eq]
    obtain ⟨h1, h2⟩ := List.pairwise_cons.1 h
    cases e : decide (x < n)
    · have e : ¬ x < n := by simpa using e
      rw [bi_false]
      refine List.pairwise_cons.2 ⟨fun y hy => ?_, h⟩
      cases hy with
      | head => omega
      | tail _ hy => have := h1 y hy; omega
    · have e : x < n := by simpa using e
      rw [bi_true]
      refine List.pairwise_cons.2 ⟨fun y hy => ?_, insI_sorted n l h2⟩
      have := (insI_perm n l).mem_iff.1 hy
      cases this with
      | head => omega
      | tail _ hy => exact h1 y hy
theorem sortI_sorted : ∀ l : List Int, (sortI l).Pairwise (· ≤ ·)
  | [] => .nil
  | x :: l => insI_sorted x _ (sortI_sorted l)
theorem sorted_eq {ss ks : List Int} (h : ss.Perm ks) : ss.mergeSort (fun x y => decide (x ≤ y)) = sortI ks := by
  refine List.Perm.eq_of_pairwise (le := fun x y => x ≤ y) (fun a b _ _ h1 h2 => Int.le_antisymm h1 h2) ?_ (sortI_sorted ks) (((List.mergeSort_perm ss _).trans h).trans (sortI_perm ks).symm)
  have := List.pairwise_mergeSort (le := fun x y : Int => decide (x ≤ y)) (fun a b c h1 h2 => by simp at *; omega) (fun a b => by simp; omega) ss
  simpa using this
theorem intAVs_VRs (g : G) : ∀ l : List Int, VRs g (intAVs l) (l.map (Value.int .i64))
  | [] => .nil
  | _ :: l => .cons _ _ _ _ (.int _ _) (intAVs_VRs g l)
theorem intAVs_len : ∀ l : List Int, (intAVs l).length = l.length
  | [] => rfl
  | _ :: l => congrArg Nat.succ (intAVs_len l)
theorem ovKeys_ok {FK FS K1 : FuncId} {bt kt : TypeId} (hT : KeysT P FK FS K1 bt kt) (hf : ∃ fn, P.funcs[FK]? = some fn ∧ (fn.name == "runtime.NumGoroutine") = false ∧ fn.body.isSome = true) : OvOk P FK (ovKeys K1 bt) := by
  intro args h v h' hv B0 g w args' hE hargs
  unfold ovKeys at hv
  rcases hd1_cases (fun x => oc .no (fun m => kNew h (.sit (.b m bt)) fun n => .fn (.func K1) [] [.ptr n 0]) (asMap x)) args with e | ⟨x, rfl, e⟩
  · rw [e] at hv; cases hv
  rw [e] at hv
  cases h1 : asMap x with
  | none => rw [h1] at hv; cases hv
  | some m =>
    rw [h1, oc_some] at hv
    have : x = .map m := by cases x <;> first | (injection h1 with h1; subst h1; rfl) | cases h1
    subst this
    cases hargs with | cons _ xv _ _ hx hl =>
    cases hl
    cases hx with | map _ M hp =>
    unfold kNew at hv
    rw [nF_eq] at hv
    injection hv with e1 e2
    subst e1; subst e2
    obtain ⟨fn, f1, f2, f3⟩ := hf
    refine .inr ⟨callFunc_enter f1 f2 f3 _ _, (hT.keys M w).mono ?_⟩
    rintro e w' ⟨rfl, rfl⟩
    have t := Tr.alloc hE.hr hE.lo (hE.fr.pos _ (Nat.le_refl _)) (hE.fr.grow _ (Nat.le_refl _)) (.sit (.b m bt)) (.cells #[.map (some M)] bt) none (w1 := w.alloc (.cells #[.map (some M)] bt)) rfl rfl rfl rfl (fun _ _ e => by cases e) (fun _ _ e => by cases e) (fun it e => by
      injection e with e; subst e
      exact .b m M bt ((G.add_le g h.next w.heap.size 0 none (hE.fr.pos _ (Nat.le_refl _)) (hE.fr.grow _ (Nat.le_refl _))).pos _ _ hp))
    exact ⟨_, _, rfl, .fn (.func K1) [] [.ptr h.next 0] [] [_] .nil (.cons _ _ _ _ (.ptr h.next 0 w.heap.size 0 (if_pos rfl)) .nil), t⟩
theorem fnBox_some {K1 : FuncId} {x : AV} {b : Nat} (e : fnBox K1 x = some b) : x = .fn (.func K1) [] [.ptr b 0] := by
  cases x <;> first | (cases e; done) | skip
  rename_i f x y
  cases f <;> first | (cases e; done) | skip
  rename_i g
  cases x with
  | cons _ _ =>
    replace e : bi (Nat.beq g K1) none none = some b := e
    cases h : Nat.beq g K1 <;> rw [h] at e <;> cases e
  | nil =>
    cases y with
    | nil =>
      replace e : bi (Nat.beq g K1) none none = some b := e
      cases h : Nat.beq g K1 <;> rw [h] at e <;> cases e
    | cons p q =>
      cases q with
      | cons _ _ =>
        replace e : bi (Nat.beq g K1) none none = some b := e
        cases h : Nat.beq g K1 <;> rw [h] at e <;> cases e
      | nil =>
        replace e : bi (Nat.beq g K1) (oc none (fun a => bi (Nat.beq a.2 0) (some a.1) none) (asPtr p)) none = some b := e
        cases h : Nat.beq g K1
        · rw [h] at e; cases e
        · rw [h, bi_true] at e
          have h := Nat.eq_of_beq_eq_true h
          cases h2 : asPtr p with
          | none => rw [h2] at e; cases e
          | some a =>
            rw [h2, oc_some] at e
            obtain ⟨a1, a2⟩ := a
            have := asPtr_some h2; subst this
            cases h3 : Nat.beq a2 0
            · rw [h3] at e; cases e
            · rw [h3, bi_true] at e
              have h3 := Nat.eq_of_beq_eq_true h3
              injection e with e
              subst e; subst h3; subst h
              rfl
theorem itBox_some {o : Option It} {m : Nat} (e : itBox o = some m) : ∃ t, o = some (.b m t) := by
  cases o with
  | none => cases e
  | some i => cases i <;> first | (injection e with e; subst e; exact ⟨_, rfl⟩) | cases e
theorem ovSorted_ok {FK FS K1 : FuncId} {bt kt : TypeId} (hT : KeysT P FK FS K1 bt kt) (hf : ∃ fn, P.funcs[FS]? = some fn ∧ (fn.name == "runtime.NumGoroutine") = false ∧ fn.body.isSome = true) : OvOk P FS (ovSorted K1 kt) := by
  intro args h v h' hv B0 g w args' hE hargs
  unfold ovSorted at hv
  rcases hd1_cases (fun x => oc .no (fun b => oc .no (fun m => oc .no (fun m => oc .no (fun ks => bi (okKeys m ks) (sorted1 h kt ks) .no) (keysOf m.es)) (objMap (h.m.get m))) (itBox (objSit (h.m.get b)))) (fnBox K1 x)) args with e | ⟨x, rfl, e⟩
  · rw [e] at hv; cases hv
  rw [e] at hv
  cases h1 : fnBox K1 x with
  | none => rw [h1] at hv; cases hv
  | some b =>
    rw [h1, oc_some] at hv
    have := fnBox_some h1; subst this
    cases h2 : itBox (objSit (h.m.get b)) with
    | none => rw [h2] at hv; cases hv
    | some m =>
      rw [h2, oc_some] at hv
      obtain ⟨t, h2⟩ := itBox_some h2
      have h2 := objSit_some h2
      cases h3 : objMap (h.m.get m) with
      | none => rw [h3] at hv; cases hv
      | some mp =>
        rw [h3, oc_some] at hv
        cases h4 : keysOf mp.es with
        | none => rw [h4] at hv; cases hv
        | some ks =>
          rw [h4, oc_some] at hv
          cases h5 : okKeys mp ks
          · rw [h5] at hv; cases hv
          rw [h5, bi_true] at hv
          have h5 : bi (Nat.blt (len ks) 1000) (bi (nodI ks) (bi (nodN (bornL mp.es)) (allLt mp.clock (bornL mp.es)) false) false) false = true := h5
          obtain ⟨k1, h5⟩ := bi3 h5
          obtain ⟨k2, h5⟩ := bi3 h5
          obtain ⟨k3, k4⟩ := bi3 h5
          rw [len_eq] at k1
          have k1 : ks.length < 1000 := by simpa [Nat.blt_eq] using k1
          cases hargs with | cons _ xv _ _ hx hl =>
          cases hl
          cases hx with | fn _ _ _ x' y' hx1 hy1 =>
          cases hx1
          cases hy1 with | cons _ pv _ _ hp hl =>
          cases hl
          cases hp with | ptr _ _ Bm base hpb =>
          obtain ⟨rfl, ob, e1, e2⟩ := hE.hr.sits b _ Bm base h2 hpb
          cases e2 with | b _ M _ hpm =>
          obtain ⟨_, es, m1, m2⟩ := hE.hr.maps m mp.es mp.clock M 0 (objMap_some h3) hpm
          obtain ⟨i1, i2, i3⟩ := keysOf_ER h4 m2
          have hBm : Bm < w.heap.size := hE.hr.bnd _ _ _ hpb
          have hst : Stamped es mp.clock := by
            refine ⟨fun x hx => ?_, ?_, ?_⟩
            · refine allLt_eq _ _ k4 _ ?_
              rw [← i3]
              exact List.mem_map_of_mem hx
            · rw [i3]; exact nodN_eq _ k3
            · rw [i1]
              exact List.Pairwise.map _ (fun a b h e => h (by injection e)) (nodI_eq _ k2)
          obtain ⟨fn, f1, f2, f3⟩ := hf
          refine .inr ⟨callFunc_enter f1 f2 f3 _ _, (hT.sorted Bm M es mp.clock ks w hBm (by simp [World.cell?, e1]) m1 i1 i2 hst k1).mono ?_⟩
          rintro e w' ⟨v', ss, rfl, hp, hrow, hnil, hb⟩
          have hlen : ss.length = ks.length := hp.length_eq
          rw [sorted_eq hp] at hrow
          cases ks with
          | nil =>
            have : ss = [] := List.eq_nil_of_length_eq_zero hlen
            have := hnil.2 this
            subst this
            replace hv : XR.val .nils h = .val v h' := hv
            injection hv with e1 e2
            subst e1; subst e2
            exact ⟨_, g, rfl, .nils, .below hE.hr hb⟩
          | cons z zs =>
            replace hv : kNew h (.cells (intAVs (sortI (z :: zs))) kt) (fun n => .slc n 0 (len (z :: zs)) (.v 1 0)) = .val v h' := hv
            unfold kNew at hv
            rw [nF_eq, len_eq] at hv
            injection hv with e1 e2
            subst e1; subst e2
            rcases hrow.2 with ⟨_, hz⟩ | ⟨gb, cap, cur, rfl, hbase, hgb, r1, r2, r3, r4⟩
            · rw [hlen] at hz; cases hz
            have hgl : gb < w'.heap.size := (Array.getElem?_eq_some_iff.1 hgb).1
            have hsl : (sortI (z :: zs)).length = (z :: zs).length := (sortI_perm _).length_eq
            rw [Nat.mul_one] at r3 r4
            refine ⟨_, g.add h.next gb 0 (some (cap, 1)), rfl, ?_, Tr.fresh hE.hr hE.lo (hE.fr.pos _ (Nat.le_refl _)) (hE.fr.grow _ (Nat.le_refl _)) gb hbase hgl _ (some (cap, 1)) hb (fun l t e => ?_)⟩
            · have := VR.slcv (g := g.add h.next gb 0 (some (cap, 1))) h.next 0 (z :: zs).length 0 gb 0 cap 1 0 (if_pos rfl) (if_pos rfl) (by simp) (by rw [← hlen]; omega) (fun _ => rfl)
              rw [hlen]
              simpa using this
            · injection e with e3 e4
              subst e3; subst e4
              refine ⟨cur, (0, 0), hgb, fun i => by omega, by rw [intAVs_len, hsl, r3, ← hlen]; omega, fun i v hi => ?_, fun c s hc => ?_⟩
              · obtain ⟨v', q1, q2⟩ := (intAVs_VRs (g.add h.next gb 0 (some (cap, 1))) (sortI (z :: zs))).at hi
                refine ⟨v', ?_, q2, ?_⟩
                · rw [Nat.zero_add]
                  rw [← r4, List.getElem?_take] at q1
                  split at q1
                  · simpa using q1
                  · cases q1
                · have := List.mem_of_getElem? q1
                  obtain ⟨y, _, rfl⟩ := List.mem_map.1 this
                  rfl
              · have : (some (cap, 1) : Option (Nat × Nat)) = some (c, s) := by rw [← hc]; exact (if_pos rfl).symm
                injection this with this
                injection this with c1 c2
                subst c1; subst c2
                exact ⟨by omega, by rw [intAVs_len, hsl, ← hlen]; omega, by omega⟩
end
end Go.Proofs.Ytajmfpdpfpbmhaa.Kx
