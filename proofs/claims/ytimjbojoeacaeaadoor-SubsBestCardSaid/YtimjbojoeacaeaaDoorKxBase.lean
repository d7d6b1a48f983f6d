/- The evaluator's maps and lists: what they hold. -/
import Derived.Test.YtimjbojoeacaeaaDoorKxEv
namespace Go.Proofs.YtimjbojoeacaeaaDoor.Kx

@[simp] theorem bi_true {β : Type} (t e : β) : bi true t e = t := rfl
@[simp] theorem bi_false {β : Type} (t e : β) : bi false t e = e := rfl
theorem bi_eq {β : Type} (c : Bool) (t e : β) : bi c t e = if c then t else e := by cases c <;> rfl
@[simp] theorem oc_none {α β : Type} (n : β) (s : α → β) : oc n s none = n := rfl
@[simp] theorem oc_some {α β : Type} (n : β) (s : α → β) (a : α) : oc n s (some a) = s a := rfl
@[simp] theorem nF_eq {β : Type} (n : Nat) (k : Nat → β) : nF n k = k n := by cases n <;> rfl

/-! Maps. -/
def P.val : P → Nat
  | .z => 0
  | .a p => 2 * p.val + 1
  | .b p => 2 * p.val + 2
theorem pthF_val (f k : Nat) (h : k < f) : (pthF f k).val = k := by
  induction f generalizing k with
  | zero => omega
  | succ f ih =>
    show (bi (Nat.beq k 0) P.z (bi (Nat.beq (k % 2) 1) (P.a (pthF f (k / 2))) (P.b (pthF f (k / 2 - 1))))).val = k
    rw [bi_eq, bi_eq]
    by_cases h0 : k = 0
    · subst h0; rfl
    · rw [if_neg (by simp [h0])]
      by_cases h1 : k % 2 = 1
      · rw [if_pos (by simp [h1]), P.val, ih _ (by omega)]; omega
      · rw [if_neg (by simp [h1]), P.val, ih _ (by omega)]; omega
theorem pth_val (k : Nat) : (pth k).val = k := pthF_val _ _ (Nat.lt_succ_self k)
theorem pth_inj {j k : Nat} (h : pth j = pth k) : j = k := by rw [← pth_val j, ← pth_val k, h]
theorem getP_e {α : Type} (p : P) : (T.e : T α).getP p = none := rfl
@[simp] theorem getP_nz {α : Type} (v : Option α) (l r : T α) : (T.n v l r).getP .z = v := rfl
@[simp] theorem getP_na {α : Type} (v : Option α) (l r : T α) (p : P) : (T.n v l r).getP (.a p) = l.getP p := rfl
@[simp] theorem getP_nb {α : Type} (v : Option α) (l r : T α) (p : P) : (T.n v l r).getP (.b p) = r.getP p := rfl
@[simp] theorem getP_ee {α : Type} (p : P) : (T.e : T α).getP p = none := rfl
@[simp] theorem setP_ze {α : Type} (x : α) : T.setP x .z .e = .n (some x) .e .e := rfl
@[simp] theorem setP_ae {α : Type} (x : α) (p : P) : T.setP x (.a p) .e = .n none (T.setP x p .e) .e := rfl
@[simp] theorem setP_be {α : Type} (x : α) (p : P) : T.setP x (.b p) .e = .n none .e (T.setP x p .e) := rfl
@[simp] theorem setP_zn {α : Type} (x : α) (v : Option α) (l r : T α) : T.setP x .z (.n v l r) = .n (some x) l r := rfl
@[simp] theorem setP_an {α : Type} (x : α) (p : P) (v : Option α) (l r : T α) : T.setP x (.a p) (.n v l r) = .n v (T.setP x p l) r := rfl
@[simp] theorem setP_bn {α : Type} (x : α) (p : P) (v : Option α) (l r : T α) : T.setP x (.b p) (.n v l r) = .n v l (T.setP x p r) := rfl
theorem getP_setP_same {α : Type} (x : α) (p : P) (t : T α) : (T.setP x p t).getP p = some x := by
  induction p generalizing t with
  | z => cases t <;> simp
  | a p ih => cases t <;> simp [ih]
  | b p ih => cases t <;> simp [ih]
theorem getP_setP_ne {α : Type} (x : α) (p q : P) (t : T α) (h : p ≠ q) : (T.setP x p t).getP q = t.getP q := by
  induction p generalizing t q with
  | z => cases t <;> cases q <;> simp at h ⊢
  | a p ih => cases t <;> cases q <;> simp at h ⊢ <;> exact ih _ _ h
  | b p ih => cases t <;> cases q <;> simp at h ⊢ <;> exact ih _ _ h
theorem get_set {α : Type} (t : T α) (j k : Nat) (x : α) : (t.set j x).get k = if j = k then some x else t.get k := by
  unfold T.set T.get
  by_cases h : j = k
  · subst h; rw [if_pos rfl, getP_setP_same]
  · rw [if_neg h, getP_setP_ne _ _ _ _ (fun e => h (pth_inj e))]
@[simp] theorem get_e {α : Type} (k : Nat) : (T.e : T α).get k = none := rfl

/-! Lists. -/
theorem lenA_eq {α : Type} (l : List α) (n : Nat) : lenA l n = n + l.length := by
  induction l generalizing n with
  | nil => rfl
  | cons a r ih =>
    show nF n (fun n => lenA r (Nat.succ n)) = _
    rw [nF_eq, ih]
    simp
    omega
@[simp] theorem len_eq {α : Type} (l : List α) : len l = l.length := by unfold len; rw [lenA_eq]; simp
@[simp] theorem drp_eq {α : Type} (n : Nat) (l : List α) : drp n l = l.drop n := by
  induction n generalizing l with
  | zero => rfl
  | succ n ih => cases l with
    | nil => rfl
    | cons a r => exact ih r
@[simp] theorem tak_eq {α : Type} (n : Nat) (l : List α) : tak n l = l.take n := by
  induction n generalizing l with
  | zero => rfl
  | succ n ih => cases l with
    | nil => rfl
    | cons a r => exact congrArg (a :: ·) (ih r)
@[simp] theorem idx_eq {α : Type} (n : Nat) (l : List α) : idx n l = l[n]? := by
  induction n generalizing l with
  | zero => cases l <;> rfl
  | succ n ih => cases l with
    | nil => rfl
    | cons a r => rw [List.getElem?_cons_succ]; exact ih r
@[simp] theorem app_eq {α : Type} (x y : List α) : app x y = x ++ y := by
  induction x with
  | nil => rfl
  | cons a r ih => exact congrArg (a :: ·) ih
@[simp] theorem ovr_eq {α : Type} (ys l : List α) : ovr ys l = ys ++ l.drop ys.length := by
  induction ys generalizing l with
  | nil => rfl
  | cons a r ih =>
    show a :: ovr r (drp 1 l) = _
    rw [ih]
    simp
@[simp] theorem putL_eq {α : Type} (ys : List α) (o : Nat) (l : List α) (h : o ≤ l.length) : putL ys o l = l.take o ++ (ys ++ l.drop (o + ys.length)) := by
  induction o generalizing l with
  | zero =>
    show ovr ys l = _
    simp
  | succ o ih => cases l with
    | nil => simp at h
    | cons a r =>
      show a :: putL ys o r = _
      rw [ih r (by simpa using h)]
      simp [Nat.add_right_comm]
theorem sub_some {l : List AV} {o n : Nat} {r : List AV} (h : sub l o n = some r) : o + n ≤ l.length ∧ r = (l.drop o).take n := by
  unfold sub at h
  rw [bi_eq] at h
  split at h
  · rename_i hc
    injection h with h
    simp at hc h
    exact ⟨hc, h.symm⟩
  · cases h
theorem put_some {l ys : List AV} {o : Nat} {r : List AV} (h : put o ys l = some r) : o + ys.length ≤ l.length ∧ r = l.take o ++ (ys ++ l.drop (o + ys.length)) := by
  unfold put at h
  rw [bi_eq] at h
  split at h
  · rename_i hc
    injection h with h
    simp at hc
    rw [putL_eq _ _ _ (by omega)] at h
    exact ⟨hc, h.symm⟩
  · cases h
theorem repl_length (z : List AV) (n : Nat) : (repl z n).length = n * z.length := by
  induction n with
  | zero => show ([] : List AV).length = _; simp
  | succ n ih =>
    show (app z (repl z n)).length = _
    simp [ih]
    rw [Nat.add_mul]
    omega
theorem repl_succ (z : List AV) (n : Nat) : repl z (n + 1) = z ++ repl z n := by
  show app z (repl z n) = _
  simp
end Go.Proofs.YtimjbojoeacaeaaDoor.Kx
