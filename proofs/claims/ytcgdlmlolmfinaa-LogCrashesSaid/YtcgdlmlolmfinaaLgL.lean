/- Plans: what calls make of the sectors, wholly or in part. What the calls of the log come to: plans, done or broken off. LogModel, plainly. LogCrashes, plainly. What a crash leaves. Append and Sync, done or broken off. Open, done or broken off. Reset, done or broken off. Reset, whole: done or broken off. The calls of the log, law by law. -/
import Derived.Test.YtcgdlmlolmfinaaLgD
namespace Go.Proofs.Ytcgdlmlolmfinaa
section
/-! What operations make of a disk's sectors: those that are kept, and those that are read. -/
abbrev Secs := Nat → List UInt8
inductive PA where
  | wr (n : Nat) (b : List UInt8)
  | fl
def stepV (v : Secs × Secs) : PA → Secs × Secs
  | .wr n b => (v.1, fun m => if m = n then b else v.2 m)
  | .fl => (v.2, v.2)
def runV (v : Secs × Secs) (p : List PA) : Secs × Secs := p.foldl stepV v
def EqV (v v' : Secs × Secs) : Prop := ∀ m, m < 4096 → v.1 m = v'.1 m ∧ v.2 m = v'.2 m
def view (s : DS) : Secs × Secs := (fun m => secN s.K m, fun m => secE s m)
theorem EqV.refl (v : Secs × Secs) : EqV v v := fun _ _ => ⟨rfl, rfl⟩
theorem EqV.trans {a b c : Secs × Secs} (h : EqV a b) (h' : EqV b c) : EqV a c := fun m hm => ⟨(h m hm).1.trans (h' m hm).1, (h m hm).2.trans (h' m hm).2⟩
theorem EqV.step {a b : Secs × Secs} (h : EqV a b) (x : PA) : EqV (stepV a x) (stepV b x) := by
  intro m hm
  obtain ⟨h1, h2⟩ := h m hm
  cases x with
  | wr n b => refine ⟨h1, ?_⟩; show (if m = n then b else _) = if m = n then b else _; rw [h2]
  | fl => exact ⟨h2, h2⟩
theorem EqV.run {a b : Secs × Secs} (h : EqV a b) (p : List PA) : EqV (runV a p) (runV b p) := by
  induction p generalizing a b with
  | nil => exact h
  | cons x r ih => exact ih (h.step x)
theorem runV_app (v : Secs × Secs) (p q : List PA) : runV v (p ++ q) = runV (runV v p) q := List.foldl_append
/-- What became of a plan. -/
structure Went (s : DS) (plan : List PA) (N : Nat) (s' : DS) : Prop where
  on : On s'
  armed : s'.armed = s.armed
  last : s.last ≤ s'.last ∧ s'.last ≤ s.last + N
  v : EqV (view s') (runV (view s) plan)
structure Broke (s : DS) (plan : List PA) (N : Nat) (s' : DS) : Prop where
  off : s'.off = true
  armed : s.armed = true
  armed' : s'.armed = true
  last : s'.last ≤ s.last + N
  len : s'.K.length = 262144
  w64 : ∀ p ∈ s'.W, p.2.length = 64
  v : ∃ p, p <+: plan ∧ EqV (view s') (runV (view s) p)
section
variable {s s' t : DS} {n m N M : Nat} {b : List UInt8} {p q : List PA}
theorem Went.refl (h : On s) : Went s [] 0 s := ⟨h, rfl, ⟨Int.le_refl _, by omega⟩, EqV.refl _⟩
theorem Went.trans (h : Went s p N t) (h' : Went t q M s') : Went s (p ++ q) (N + M) s' :=
  ⟨h'.on, h'.armed.trans h.armed, ⟨by have := h.last; have := h'.last; omega, by have := h.last; have := h'.last; omega⟩, by rw [runV_app]; exact h'.v.trans (h.v.run q)⟩
theorem Went.more (h : Went s p N t) (hN : N ≤ M) : Went s p M t := ⟨h.on, h.armed, ⟨h.last.1, by have := h.last; omega⟩, h.v⟩
theorem Broke.more (h : Broke s p N t) (hN : N ≤ M) : Broke s p M t := ⟨h.off, h.armed, h.armed', by have := h.last; omega, h.len, h.w64, h.v⟩
theorem Broke.after (h : Went s p N t) (h' : Broke t q M s') : Broke s (p ++ q) (N + M) s' := by
  obtain ⟨r, hr, hv⟩ := h'.v
  refine ⟨h'.off, by rw [← h.armed]; exact h'.armed, h'.armed', by have := h.last; have := h'.last; omega, h'.len, h'.w64, p ++ r, ?_, ?_⟩
  · exact (List.prefix_append_right_inj p).2 hr
  · rw [runV_app]; exact hv.trans (h.v.run r)
theorem Broke.app (h : Broke s p N t) (q : List PA) : Broke s (p ++ q) N t := by
  obtain ⟨r, hr, hv⟩ := h.v
  exact ⟨h.off, h.armed, h.armed', h.last, h.len, h.w64, r, hr.trans (List.prefix_append p q), hv⟩
theorem gone_broke (h : On s) (hg : Gone s t) (p : List PA) : Broke s p 1 t := by
  refine ⟨hg.off, hg.armed, hg.armed', hg.last, by rw [hg.K]; exact h.len, by rw [hg.W]; exact h.w64, [], List.nil_prefix, fun m _ => ⟨?_, secE_same hg.K hg.W⟩⟩
  show secN t.K m = secN s.K m
  rw [hg.K]
theorem rd_out (h : On s) (hn : n < 4096) : (∃ s', rdS s n = (secE s n, 0, s') ∧ Went s [] 1 s') ∨ ∃ s', rdS s n = ([], 10, s') ∧ ∀ p, Broke s p 1 s' := by
  rcases rdS_on h hn with ⟨s', e, hd, hK, hW⟩ | ⟨s', e, hg⟩
  · exact .inl ⟨s', e, hd.on, hd.armed, ⟨by rw [hd.last]; omega, by rw [hd.last]; omega⟩, fun m _ => ⟨by show secN s'.K m = secN s.K m; rw [hK], secE_same hK hW⟩⟩
  · exact .inr ⟨s', e, gone_broke h hg⟩
theorem wr_out (h : On s) (hn : n < 4096) (hb : b.length = 64) : (∃ s', wrS s n b = (0, s') ∧ Went s [.wr n b] 1 s') ∨ ∃ s', wrS s n b = (10, s') ∧ ∀ p, Broke s p 1 s' := by
  rcases wrS_on h hn hb with ⟨s', e, hd, hK, hW⟩ | ⟨s', e, hg⟩
  · exact .inl ⟨s', e, hd.on, hd.armed, ⟨by rw [hd.last]; omega, by rw [hd.last]; omega⟩, fun m _ => ⟨by show secN s'.K m = secN s.K m; rw [hK], secE_wr hK hW⟩⟩
  · exact .inr ⟨s', e, gone_broke h hg⟩
theorem fl_out (h : On s) : (∃ s', flS s = (0, s') ∧ Went s [.fl] 1 s' ∧ s'.W = []) ∨ ∃ s', flS s = (10, s') ∧ ∀ p, Broke s p 1 s' := by
  rcases flS_on h with ⟨s', e, hd, hK, hW⟩ | ⟨s', e, hg⟩
  · refine .inl ⟨s', e, ⟨hd.on, hd.armed, ⟨by rw [hd.last]; omega, by rw [hd.last]; omega⟩, fun m hm => ⟨?_, secE_fl h hm hK hW⟩⟩, hW⟩
    show secN s'.K m = secE s m
    rw [hK, flushK_sec h.w64 (by rw [h.len]; omega)]
    rfl
  · exact .inr ⟨s', e, gone_broke h hg⟩
/-- Sectors that are written one behind the other. -/
def planW (a : Nat) : List (List UInt8) → List PA
  | [] => []
  | b :: r => .wr a b :: planW (a + 1) r
theorem planW_1 (v : Secs × Secs) : ∀ (l : List (List UInt8)) (a : Nat), (runV v (planW a l)).1 = v.1 := by
  intro l
  induction l generalizing v with
  | nil => intro a; rfl
  | cons b r ih => intro a; exact ih (stepV v (.wr a b)) (a + 1)
theorem planW_2 : ∀ (l : List (List UInt8)) (v : Secs × Secs) (a m : Nat), (runV v (planW a l)).2 m = if a ≤ m ∧ m < a + l.length then (l[m - a]?.getD []) else v.2 m
  | [], v, a, m => by simp [planW, runV]; intros; omega
  | b :: r, v, a, m => by
    show (runV (stepV v (.wr a b)) (planW (a + 1) r)).2 m = _
    rw [planW_2 r]
    simp only [stepV, List.length_cons]
    by_cases h1 : a = m
    · subst h1
      rw [if_neg (by omega), if_pos rfl, if_pos (by omega)]
      simp
    · by_cases h2 : a ≤ m ∧ m < a + (r.length + 1)
      · rw [if_pos h2, if_pos (by omega)]
        obtain ⟨j, hj⟩ : ∃ j, m - a = j + 1 := ⟨m - a - 1, by omega⟩
        rw [hj, show m - (a + 1) = j by omega]
        rfl
      · rw [if_neg h2, if_neg (by omega), if_neg (fun e => h1 e.symm)]
theorem put_out (base : Nat) : ∀ (l : List (List UInt8)) (s : DS) (a : Nat), On s → (∀ b ∈ l, b.length = 64) → base + a + l.length ≤ 4096 →
    (∃ s', putD base l s a = (a + l.length, 0, s') ∧ Went s (planW (base + a) l) l.length s') ∨ ∃ s' k, putD base l s a = (k, 10, s') ∧ Broke s (planW (base + a) l) l.length s'
  | [], s, a, h, _, _ => .inl ⟨s, rfl, Went.refl h⟩
  | b :: r, s, a, h, hb, hl => by
    simp only [List.length_cons] at hl ⊢
    rw [putD]
    rcases wr_out h (n := base + a) (by omega) (hb b (by simp)) with ⟨t, e, ht⟩ | ⟨t, e, ht⟩
    · rw [e]
      simp only [ne_eq, not_true_eq_false, if_false]
      rcases put_out base r t (a + 1) ht.on (fun x hx => hb x (by simp [hx])) (by omega) with ⟨u, e2, hu⟩ | ⟨u, k, e2, hu⟩
      · left
        refine ⟨u, by rw [e2]; congr 1; omega, ?_⟩
        have := ht.trans hu
        rw [show 1 + r.length = r.length + 1 by omega] at this
        exact this
      · right
        refine ⟨u, k, e2, ?_⟩
        have := Broke.after ht hu
        rw [show 1 + r.length = r.length + 1 by omega] at this
        exact this
    · right
      rw [e]
      exact ⟨t, a, rfl, (ht _).more (by omega)⟩
end
end
section
/-! What the log's own calls come to. -/
def planC (E : Secs) (base : Nat) : Nat → Nat → List PA
  | 0, _ => []
  | f + 1, n => if allZero (E (base + n)) then planC E base f (n + 1) else .wr (base + n) zero64 :: planC E base f (n + 1)
def planF (p : List PA) (dirty : Bool) : List PA := if dirty then p ++ [.fl] else p
def loadE (cb : List UInt8 → List UInt8) (E : Secs) : Nat → Nat → List (List UInt8) → Nat → Nat × List (List UInt8) × Nat
  | 0, a, l, size => (a, l, size)
  | f + 1, a, l, size => match recE cb E a with
    | none => (a, l, size)
    | some (x, n) => if n = 0 then (a, l, size) else loadE cb E f (a + n) (l ++ [x]) (size + x.length + 128)
section
variable {cb : List UInt8 → List UInt8} {s s' t : DS} {n m N M : Nat} {b : List UInt8} {p q : List PA}
theorem Went.e0 (h : Went s [] N t) {m : Nat} (hm : m < 4096) : secE t m = secE s m := (h.v m hm).2
theorem planC_congr {E E' : Secs} {base : Nat} : ∀ {f n : Nat}, (∀ k, n ≤ k → k < n + f → E (base + k) = E' (base + k)) → planC E base f n = planC E' base f n
  | 0, _, _ => rfl
  | f + 1, n, h => by
    rw [planC, planC, h n (by omega) (by omega), planC_congr (f := f) (n := n + 1) (fun k h1 h2 => h k (by omega) (by omega))]
theorem clean_out (base : Nat) : ∀ (f : Nat) (s : DS) (n : Nat) (dirty : Bool), On s → base + n + f ≤ 4096 →
    (∃ s', cleanD base f s n dirty = (0, s') ∧ Went s (planF (planC (secE s) base f n) (dirty || !(planC (secE s) base f n).isEmpty)) (2 * f + 1) s') ∨
    ∃ s', cleanD base f s n dirty = (10, s') ∧ Broke s (planF (planC (secE s) base f n) (dirty || !(planC (secE s) base f n).isEmpty)) (2 * f + 1) s'
  | 0, s, n, dirty, h, _ => by
    rw [cleanD]
    cases dirty
    · exact .inl ⟨s, rfl, (Went.refl h).more (by omega)⟩
    · simp only [if_true]
      rcases fl_out h with ⟨t, e, ht, _⟩ | ⟨t, e, ht⟩
      · exact .inl ⟨t, e, ht.more (by omega)⟩
      · exact .inr ⟨t, e, (ht _).more (by omega)⟩
  | f + 1, s, n, dirty, h, hl => by
    rw [cleanD]
    rcases rd_out h (n := base + n) (by omega) with ⟨t, e, ht⟩ | ⟨t, e, ht⟩
    · rw [e]
      simp only [ne_eq, not_true_eq_false, if_false]
      have hpc : planC (secE t) base f (n + 1) = planC (secE s) base f (n + 1) := planC_congr (fun k h1 h2 => ht.e0 (by omega))
      by_cases hz : allZero (secE s (base + n)) = true
      · rw [if_pos hz, planC, if_pos hz]
        rcases clean_out base f t (n + 1) dirty ht.on (by omega) with ⟨u, e2, hu⟩ | ⟨u, e2, hu⟩
        · rw [hpc] at hu
          exact .inl ⟨u, e2, (ht.trans hu).more (by omega)⟩
        · rw [hpc] at hu
          exact .inr ⟨u, e2, (Broke.after ht hu).more (by omega)⟩
      · rw [if_neg hz, planC, if_neg hz]
        simp only [List.isEmpty_cons, Bool.not_false, Bool.or_true]
        rcases wr_out ht.on (n := base + n) (b := zero64) (by omega) (by simp [zero64]) with ⟨u, e2, hu⟩ | ⟨u, e2, hu⟩
        · rw [e2]
          simp only [not_true_eq_false, if_false]
          have hpc2 : planC (secE u) base f (n + 1) = planC (secE s) base f (n + 1) := by
            rw [← hpc]
            refine planC_congr (fun k h1 h2 => ?_)
            have := (hu.v (base + k) (by omega)).2
            simp only [runV, List.foldl_cons, List.foldl_nil, stepV] at this
            rw [if_neg (by omega)] at this
            exact this
          have h2 := ht.trans hu
          rcases clean_out base f u (n + 1) true hu.on (by omega) with ⟨x, e3, hx⟩ | ⟨x, e3, hx⟩
          · rw [hpc2] at hx
            exact .inl ⟨x, e3, (h2.trans hx).more (by omega)⟩
          · rw [hpc2] at hx
            exact .inr ⟨x, e3, (Broke.after h2 hx).more (by omega)⟩
        · rw [e2]
          exact .inr ⟨u, by simp, ((Broke.after ht (hu _))).more (by omega)⟩
    · rw [e]
      exact .inr ⟨t, by simp, (ht _).more (by omega)⟩
def recR : Option (List UInt8 × Nat) → List UInt8 × Nat × Int
  | none => ([], 0, 0)
  | some (x, k) => (x, k, 0)
theorem recGo_congr {E E' : Secs} {a : Nat} (h : ∀ k, a ≤ k → k < 2048 → E k = E' k) : ∀ (f n : Nat) (kind : UInt8) (all : List UInt8) (size : Nat), recGo cb E a f n kind all size = recGo cb E' a f n kind all size
  | 0, _, _, _, _ => rfl
  | f + 1, n, kind, all, size => by
    rw [recGo, recGo]
    by_cases h1 : 2048 ≤ a + n
    · rw [if_pos h1, if_pos h1]
    · rw [if_neg h1, if_neg h1, h (a + n) (by omega) (by omega)]
      simp only [recGo_congr h f]
theorem rec_out (base a : Nat) (hb : base + 2048 ≤ 4096) : ∀ (f : Nat) (s : DS) (n : Nat) (kind : UInt8) (all : List UInt8) (size : Nat), On s →
    (∃ s', recD cb base a f s n kind all size = (recR (recGo cb (fun k => secE s (base + k)) a f n kind all size), s') ∧ Went s [] f s') ∨
    ∃ s', recD cb base a f s n kind all size = (([], 0, 10), s') ∧ ∀ p, Broke s p f s'
  | 0, s, n, kind, all, size, h => .inl ⟨s, rfl, Went.refl h⟩
  | f + 1, s, n, kind, all, size, h => by
    rw [recD, recGo]
    by_cases h1 : 2048 ≤ a + n
    · rw [if_pos h1, if_pos h1]
      exact .inl ⟨s, rfl, (Went.refl h).more (by omega)⟩
    · rw [if_neg h1, if_neg h1]
      rcases rd_out h (n := base + a + n) (by omega) with ⟨t, e, ht⟩ | ⟨t, e, ht⟩
      · rw [e]
        simp only [ne_eq, not_true_eq_false, if_false, ← Nat.add_assoc]
        have hc : ∀ (n : Nat) (all : List UInt8) (size : Nat), recGo cb (fun k => secE t (base + k)) a f n 2 all size = recGo cb (fun k => secE s (base + k)) a f n 2 all size := fun n all size => recGo_congr (fun k _ hk => ht.e0 (by omega)) _ _ _ _ _
        by_cases h2 : okSec kind (secE s (base + a + n)) = false
        · rw [if_pos h2, if_pos h2]
          exact .inl ⟨t, rfl, ht.more (by omega)⟩
        · rw [if_neg h2, if_neg h2]
          obtain ⟨z, hz⟩ : ∃ z, (if n = 0 then sizeOf2 (all ++ bodyOf (secE s (base + a + n))) else size) = z := ⟨_, rfl⟩
          simp only [hz]
          by_cases h3 : (all ++ bodyOf (secE s (base + a + n))).length < z
          · rw [if_pos h3, if_pos h3]
            rcases rec_out base a hb f t (n + 1) 2 (all ++ bodyOf (secE s (base + a + n))) z ht.on with ⟨u, e2, hu⟩ | ⟨u, e2, hu⟩
            · rw [hc] at e2
              exact .inl ⟨u, e2, (ht.trans hu).more (by omega)⟩
            · exact .inr ⟨u, e2, fun p => (Broke.after ht (hu p)).more (by omega)⟩
          · rw [if_neg h3, if_neg h3]
            split
            · exact .inl ⟨t, rfl, ht.more (by omega)⟩
            · exact .inl ⟨t, rfl, ht.more (by omega)⟩
      · rw [e]
        exact .inr ⟨t, by simp, fun p => (ht p).more (by omega)⟩
theorem recS_out (h : On s) (r a : Nat) (hr : r ≤ 1) : (∃ s', recS cb s r a = (recR (recE cb (fun k => secE s (r * 2048 + k)) a), s') ∧ Went s [] 2049 s') ∨ ∃ s', recS cb s r a = (([], 0, 10), s') ∧ ∀ p, Broke s p 2049 s' :=
  rec_out (r * 2048) a (by omega) 2049 s 0 1 [] 6 h
theorem loadE_congr {E E' : Secs} (h : ∀ k, k < 2048 → E k = E' k) : ∀ (f a : Nat) (l : List (List UInt8)) (z : Nat), loadE cb E f a l z = loadE cb E' f a l z
  | 0, _, _, _ => rfl
  | f + 1, a, l, z => by
    rw [loadE, loadE]
    have : recE cb E a = recE cb E' a := recGo_congr (fun k _ hk => h k hk) _ _ _ _ _
    rw [this]
    split
    · rfl
    · rw [loadE_congr h f]
theorem load_out (r : Nat) (hr : r ≤ 1) : ∀ (f : Nat) (s : DS) (a : Nat) (l : List (List UInt8)) (z : Nat), On s →
    (∃ s', loadD cb r f s a l z = (0, (loadE cb (fun k => secE s (r * 2048 + k)) f a l z).1, (loadE cb (fun k => secE s (r * 2048 + k)) f a l z).2.1, (loadE cb (fun k => secE s (r * 2048 + k)) f a l z).2.2, s') ∧ Went s [] (2049 * f) s') ∨
    ∃ a' l' z' s', loadD cb r f s a l z = (10, a', l', z', s') ∧ ∀ p, Broke s p (2049 * f) s'
  | 0, s, a, l, z, h => .inl ⟨s, rfl, Went.refl h⟩
  | f + 1, s, a, l, z, h => by
    rw [loadD, loadE]
    rcases recS_out (cb := cb) h r a hr with ⟨t, e, ht⟩ | ⟨t, e, ht⟩
    · rw [e]
      cases hrec : recE cb (fun k => secE s (r * 2048 + k)) a with
      | none =>
        simp only [recR]
        exact .inl ⟨t, by simp, ht.more (by omega)⟩
      | some x =>
        obtain ⟨x, n⟩ := x
        simp only [recR, ne_eq, not_true_eq_false, if_false]
        by_cases hn : n = 0
        · refine .inl ⟨t, ?_, ht.more (by omega)⟩
          simp [hn]
        · simp only [hn, if_false]
          rcases load_out r hr f t (a + n) (l ++ [x]) (z + x.length + 128) ht.on with ⟨u, e2, hu⟩ | ⟨a', l', z', u, e2, hu⟩
          · rw [loadE_congr (E' := fun k => secE s (r * 2048 + k)) (fun k hk => ht.e0 (by omega))] at e2
            exact .inl ⟨u, e2, (ht.trans hu).more (by omega)⟩
          · exact .inr ⟨a', l', z', u, e2, fun p => (Broke.after ht (hu p)).more (by omega)⟩
    · rw [e]
      exact .inr ⟨a, l, z, t, by simp, fun p => (ht p).more (by omega)⟩
theorem gen_out (h : On s) (r : Nat) (hr : r ≤ 1) : (∃ s', genS s r = (genV (secE s (r * 2048)), 0, s') ∧ Went s [] 1 s') ∨ ∃ s', genS s r = (0, 10, s') ∧ ∀ p, Broke s p 1 s' := by
  unfold genS
  rcases rd_out h (n := r * 2048) (by omega) with ⟨t, e, ht⟩ | ⟨t, e, ht⟩
  · rw [e]
    left
    refine ⟨t, ?_, ht⟩
    by_cases h63 : (secE s (r * 2048))[63]? = some 1
    · simp [h63]
    · simp [h63, genV]
  · rw [e]
    exact .inr ⟨t, by simp, ht⟩
theorem super_out (h : On s) (r : Nat) (hr : r ≤ 1) (g : Int) : (∃ s', superS s r g = (0, s') ∧ Went s [.wr (r * 2048) (superB g), .fl] 2 s' ∧ s'.W = []) ∨ ∃ s', superS s r g = (10, s') ∧ Broke s [.wr (r * 2048) (superB g), .fl] 2 s' := by
  unfold superS
  rcases wr_out h (n := r * 2048) (b := superB g) (by omega) (by simp [superB]) with ⟨t, e, ht⟩ | ⟨t, e, ht⟩
  · rw [e]
    simp only [ne_eq, not_true_eq_false, if_false]
    rcases fl_out ht.on with ⟨u, e2, hu, hW⟩ | ⟨u, e2, hu⟩
    · exact .inl ⟨u, e2, ht.trans hu, hW⟩
    · exact .inr ⟨u, e2, Broke.after ht (hu _)⟩
  · rw [e]
    exact .inr ⟨t, by simp, (ht _).more (by omega)⟩
end
end
section
/-! Records one behind the other; what is read of a disk that was torn. -/
section
variable {cb : List UInt8 → List UInt8}
def Lies (cb : List UInt8 → List UInt8) (R : Secs) : Nat → List (List UInt8) → Prop
  | _, [] => True
  | a, x :: r => (∀ k b, (layR cb x)[k]? = some b → R (a + k) = b) ∧ Lies cb R (a + secsN x.length) r
def endA : Nat → List (List UInt8) → Nat
  | a, [] => a
  | a, x :: r => endA (a + secsN x.length) r
def wtL : List (List UInt8) → Nat
  | [] => 0
  | x :: r => x.length + 128 + wtL r
theorem endA_ge : ∀ (l : List (List UInt8)) (a : Nat), a ≤ endA a l
  | [], a => Nat.le_refl a
  | _ :: r, _ => Nat.le_trans (Nat.le_add_right _ _) (endA_ge r _)
theorem endA_le : ∀ (l : List (List UInt8)) (a : Nat), 62 * endA a l ≤ 62 * a + wtL l
  | [], a => by simp [endA, wtL]
  | x :: r, a => by
    have := endA_le r (a + secsN x.length)
    simp only [endA, wtL]
    have : secsN x.length = (x.length + 6 + 61) / 62 := rfl
    omega
theorem endA_app : ∀ (l m : List (List UInt8)) (a : Nat), endA a (l ++ m) = endA (endA a l) m
  | [], _, _ => rfl
  | _ :: r, m, _ => endA_app r m _
theorem wtL_app : ∀ (l m : List (List UInt8)), wtL (l ++ m) = wtL l + wtL m
  | [], m => by simp [wtL]
  | x :: r, m => by simp only [List.cons_append, wtL, wtL_app r m]; omega
theorem Lies.congr {R R' : Secs} : ∀ {l : List (List UInt8)} {a : Nat}, Lies cb R a l → (∀ k, a ≤ k → k < endA a l → R' k = R k) → Lies cb R' a l
  | [], _, _, _ => trivial
  | x :: r, a, h, hk => by
    have hge := endA_ge r (a + secsN x.length)
    refine ⟨fun k b hb => ?_, h.2.congr (fun k h1 h2 => hk k (by omega) h2)⟩
    have hlt : k < secsN x.length := by
      have := (List.getElem?_eq_some_iff.1 hb).1
      simpa [layR] using this
    rw [hk _ (by omega) (by simp only [endA]; omega)]
    exact h.1 k b hb
theorem Lies.app {R : Secs} : ∀ {l m : List (List UInt8)} {a : Nat}, Lies cb R a (l ++ m) ↔ Lies cb R a l ∧ Lies cb R (endA a l) m
  | [], m, a => by simp [Lies, endA]
  | x :: r, m, a => by
    simp only [List.cons_append, Lies, endA, and_assoc]
    rw [Lies.app]
/-- Where sectors are as they were, or none of a record's, what is read is as it was, or nothing. -/
theorem recGo_sub {C E : Secs} {a : Nat} (h : ∀ k, a ≤ k → k < 2048 → C k = E k ∨ (okSec 1 (C k) = false ∧ okSec 2 (C k) = false)) : ∀ (f n : Nat) (kind : UInt8) (all : List UInt8) (size : Nat), kind = 1 ∨ kind = 2 →
    recGo cb C a f n kind all size = none ∨ recGo cb C a f n kind all size = recGo cb E a f n kind all size
  | 0, _, _, _, _, _ => .inl rfl
  | f + 1, n, kind, all, size, hk => by
    rw [recGo, recGo]
    by_cases h1 : 2048 ≤ a + n
    · rw [if_pos h1]; exact .inl rfl
    · rw [if_neg h1, if_neg h1]
      rcases h (a + n) (by omega) (by omega) with e | ⟨e1, e2⟩
      · rw [e]
        by_cases h2 : okSec kind (E (a + n)) = false
        · rw [if_pos h2]; exact .inl rfl
        · rw [if_neg h2, if_neg h2]
          simp only
          obtain ⟨z, hz⟩ : ∃ z, (if n = 0 then sizeOf2 (all ++ bodyOf (E (a + n))) else size) = z := ⟨_, rfl⟩
          rw [hz]
          by_cases h3 : (all ++ bodyOf (E (a + n))).length < z
          · rw [if_pos h3, if_pos h3]
            exact recGo_sub h f (n + 1) 2 _ z (.inr rfl)
          · rw [if_neg h3, if_neg h3]
            exact .inr rfl
      · left
        have : okSec kind (C (a + n)) = false := by rcases hk with rfl | rfl <;> assumption
        rw [if_pos this]
theorem recE_sub {C E : Secs} {a : Nat} (h : ∀ k, a ≤ k → k < 2048 → C k = E k ∨ (okSec 1 (C k) = false ∧ okSec 2 (C k) = false)) : recE cb C a = none ∨ recE cb C a = recE cb E a :=
  recGo_sub h _ _ _ _ _ (.inl rfl)
theorem load_lies (h4 : ∀ s, (cb s).length = 4) {R : Secs} : ∀ (l : List (List UInt8)) (f a : Nat) (acc : List (List UInt8)) (z : Nat), Lies cb R a l → (∀ x ∈ l, x.length < 65536) → endA a l ≤ 2048 → l.length < f → recE cb R (endA a l) = none →
    loadE cb R f a acc z = (endA a l, acc ++ l, z + wtL l)
  | [], f + 1, a, acc, z, _, _, _, _, hn => by
    rw [loadE]
    have hn : recE cb R a = none := hn
    rw [hn]
    simp [endA, wtL]
  | [], 0, _, _, _, _, _, _, hf, _ => by simp at hf
  | x :: r, 0, _, _, _, _, _, _, hf, _ => by simp at hf
  | x :: r, f + 1, a, acc, z, h, hs, he, hf, hn => by
    have hge := endA_ge r (a + secsN x.length)
    have hend : endA a (x :: r) = endA (a + secsN x.length) r := rfl
    have hr : recE cb R a = some (x, secsN x.length) := rec_lay h4 (hs x (by simp)) h.1 (by omega)
    rw [loadE, hr]
    simp only
    rw [if_neg (by unfold secsN; omega)]
    rw [load_lies h4 r f (a + secsN x.length) (acc ++ [x]) (z + x.length + 128) h.2 (fun y hy => hs y (by simp [hy])) he (by simp at hf; omega) hn]
    simp only [endA, wtL, List.append_assoc, List.singleton_append, Prod.mk.injEq, true_and]
    omega
theorem lies_len : ∀ (l : List (List UInt8)) (a : Nat), a + l.length ≤ endA a l
  | [], a => by simp [endA]
  | x :: r, a => by
    have := lies_len r (a + secsN x.length)
    simp only [endA, List.length_cons]
    have : 1 ≤ secsN x.length := by unfold secsN; omega
    omega
/-- What a disk's sectors, opened, are. -/
structure Opn (cb : List UInt8 → List UInt8) (C : Secs) (r : Nat) (g : Int) (l : List (List UInt8)) : Prop where
  hr : r = if genV (C 0) < genV (C 2048) then 1 else 0
  hg : g = genV (C (r * 2048))
  lies : Lies cb (fun k => C (r * 2048 + k)) 1 l
  none : recE cb (fun k => C (r * 2048 + k)) (endA 1 l) = none
  small : ∀ x ∈ l, x.length ≤ 16384
  wt : wtL l ≤ 65536
theorem Opn.end_ {C : Secs} {r : Nat} {g : Int} {l : List (List UInt8)} (h : Opn cb C r g l) : endA 1 l ≤ 1058 := by
  have := endA_le l 1
  have := h.wt
  omega
theorem Opn.reg {C : Secs} {r : Nat} {g : Int} {l : List (List UInt8)} (h : Opn cb C r g l) : r ≤ 1 := by
  rw [h.hr]
  split <;> omega
theorem Opn.congr {C C' : Secs} {r : Nat} {g : Int} {l : List (List UInt8)} (h : Opn cb C r g l) (hC : ∀ m, m < 4096 → C' m = C m) : Opn cb C' r g l := by
  have hr := h.reg
  have he := h.end_
  refine ⟨by rw [hC 0 (by omega), hC 2048 (by omega)]; exact h.hr, by rw [hC _ (by omega)]; exact h.hg, h.lies.congr (fun k _ hk => hC _ (by omega)), ?_, h.small, h.wt⟩
  rw [← h.none]
  exact recGo_congr (fun k _ hk => hC _ (by omega)) _ _ _ _ _
/-- A disk's sectors behind a crash. -/
def Img (v : Secs × Secs) (C : Secs) : Prop := ∀ m, m < 4096 → ∃ q, q ≤ 64 ∧ C m = (v.2 m).take q ++ (v.1 m).drop q
theorem Img.same {v : Secs × Secs} {C : Secs} (h : Img v C) {m : Nat} (hm : m < 4096) (he : v.1 m = v.2 m) : C m = v.2 m := by
  obtain ⟨q, _, e⟩ := h m hm
  rw [e, he, List.take_append_drop]
/-- Over noughts a sector is written wholly, or is none. -/
theorem Img.over {v : Secs × Secs} {C : Secs} (h : Img v C) {m : Nat} (hm : m < 4096) (hz : v.1 m = zero64) (hl : (v.2 m).length = 64) : C m = v.2 m ∨ (C m)[63]? ≠ some 1 := by
  obtain ⟨q, hq, e⟩ := h m hm
  by_cases h64 : q = 64
  · left
    rw [e, hz, h64, List.take_of_length_le (by omega), List.drop_of_length_le (by simp [zero64]), List.append_nil]
  · right
    rw [e, hz, List.getElem?_append_right (by rw [List.length_take]; omega), List.length_take, hl, Nat.min_eq_left (by omega), List.getElem?_drop]
    rw [show q + (63 - q) = 63 by omega]
    simp [zero64]
/-- Noughts over a sector: as it was, or none. -/
theorem Img.zero {v : Secs × Secs} {C : Secs} (h : Img v C) {m : Nat} (hm : m < 4096) (hz : v.2 m = zero64) : C m = v.1 m ∨ (C m)[0]? = some 0 := by
  obtain ⟨q, hq, e⟩ := h m hm
  cases q with
  | zero => left; rw [e]; rfl
  | succ q =>
    right
    rw [e, hz]
    simp [zero64, List.replicate_succ]
theorem ok_not_mark {b : List UInt8} (h : b[63]? ≠ some 1) (k : UInt8) : okSec k b = false := by
  unfold okSec
  have : (b[63]? == some 1) = false := by simpa using h
  rw [this, Bool.and_false]
theorem ok_not_kind {b : List UInt8} (h : b[0]? = some 0) : okSec 1 b = false ∧ okSec 2 b = false := by
  unfold okSec
  rw [h]
  exact ⟨rfl, rfl⟩
end
end
section
/-! The log while it lives, and what a crash leaves of it. -/
section
variable {cb : List UInt8 → List UInt8}
theorem leV_lt : ∀ (b : List UInt8), leV b < 256 ^ b.length
  | [] => by simp [leV]
  | x :: r => by
    have := leV_lt r
    have hx := x.toNat_lt
    simp only [leV, List.length_cons, Nat.pow_succ]
    omega
theorem leV_zero (q : Nat) (b : List UInt8) : leV (List.replicate q 0 ++ b.drop q) ≤ leV b := by
  induction q generalizing b with
  | zero => simp
  | succ q ih =>
    cases b with
    | nil =>
      have : ∀ q : Nat, leV (List.replicate q (0 : UInt8)) = 0 := by
        intro q
        induction q with
        | zero => rfl
        | succ q ih => simp [List.replicate_succ, leV, ih]
      rw [List.drop_nil, List.append_nil, this]
      exact Nat.zero_le _
    | cons x r =>
      have := ih r
      simp only [List.replicate_succ, List.cons_append, List.drop_succ_cons, leV]
      have h0 : (0 : UInt8).toNat = 0 := rfl
      rw [h0]
      omega
/-- A sector that tells a generation, no great one. -/
def genOk (b : List UInt8) : Prop := b.length = 64 ∧ leV (b.take 8) < 4611686018427387904
theorem genV_nn {b : List UInt8} (h : genOk b) : 0 ≤ genV b := by
  unfold genV genV.IntKind64
  have := h.2
  split
  · rw [if_pos (by omega)]; omega
  · omega
theorem genOk_zero : genOk zero64 := ⟨by simp [zero64], by simp [zero64, leV]⟩
theorem genV_zero64 : genV zero64 = 0 := by
  unfold genV
  rw [if_neg (by simp [zero64])]
theorem genV_not {b : List UInt8} (h : b[63]? ≠ some 1) : genV b = 0 := by
  unfold genV
  rw [if_neg h]
/-- Noughts over a beginning of it: no greater one. -/
theorem genV_torn {b : List UInt8} (h : genOk b) {q : Nat} (hq : q ≤ 64) : genOk (zero64.take q ++ b.drop q) ∧ genV (zero64.take q ++ b.drop q) ≤ genV b := by
  have hz : zero64.take q = List.replicate q 0 := by unfold zero64; rw [List.take_replicate, Nat.min_eq_left hq]
  have hl : (zero64.take q ++ b.drop q).length = 64 := by rw [List.length_append, hz, List.length_replicate, List.length_drop, h.1]; omega
  have h8 : (zero64.take q ++ b.drop q).take 8 = List.replicate (min q 8) 0 ++ (b.take 8).drop q := by
    rw [hz, List.take_append, List.take_replicate, List.length_replicate, List.drop_take]
    congr 1
    rw [Nat.min_comm]
  have hle : leV ((zero64.take q ++ b.drop q).take 8) ≤ leV (b.take 8) := by
    rw [h8]
    by_cases hq8 : q ≤ 8
    · rw [Nat.min_eq_left hq8]; exact leV_zero q _
    · rw [Nat.min_eq_right (by omega), List.drop_of_length_le (by rw [List.length_take]; omega)]
      have := leV_zero 8 (b.take 8)
      rw [List.drop_of_length_le (by rw [List.length_take]; omega)] at this
      exact this
  refine ⟨⟨hl, by have := h.2; omega⟩, ?_⟩
  by_cases h63 : b[63]? = some 1
  · by_cases hq6 : q = 64
    · rw [hq6, List.drop_of_length_le (by rw [h.1]; omega)]
      have e : zero64.take 64 ++ [] = zero64 := by simp [zero64]
      rw [e, genV_zero64]
      exact genV_nn h
    · have e : (zero64.take q ++ b.drop q)[63]? = b[63]? := by
        rw [List.getElem?_append_right (by rw [hz, List.length_replicate]; omega), hz, List.length_replicate, List.getElem?_drop]
        congr 1
        omega
      unfold genV genV.IntKind64
      rw [e, if_pos h63, if_pos h63, if_pos (by have := h.2; omega), if_pos (by have := h.2; omega)]
      omega
  · have e : (zero64.take q ++ b.drop q)[63]? ≠ some 1 := by
      by_cases hq6 : q = 64
      · rw [hq6, List.drop_of_length_le (by rw [h.1]; omega)]
        simp [zero64]
      · rw [List.getElem?_append_right (by rw [hz, List.length_replicate]; omega), hz, List.length_replicate, List.getElem?_drop, show q + (63 - q) = 63 by omega]
        exact h63
    rw [genV_not e, genV_not h63]
    exact Int.le_refl _
/-- The log lives: all that is synced is kept; what came since is read; behind it are noughts. -/
structure Live (cb : List UInt8 → List UInt8) (v : Secs × Secs) (r : Nat) (g : Int) (ls l : List (List UInt8)) : Prop where
  opn : Opn cb v.2 r g l
  zero : ∀ k, endA 1 l ≤ k → k < 2048 → v.2 (r * 2048 + k) = zero64
  kept : ∀ m, m < 4096 → v.1 m = v.2 m ∨ ∃ k, m = r * 2048 + k ∧ endA 1 ls ≤ k ∧ k < 2048 ∧ v.1 m = zero64
  pre : ls <+: l
  len : ∀ m, m < 4096 → (v.2 m).length = 64
  g0 : genOk (v.2 0)
  g1 : genOk (v.2 2048)
theorem Live.congr {v v' : Secs × Secs} {r : Nat} {g : Int} {ls l : List (List UInt8)} (h : Live cb v r g ls l) (he : EqV v' v) : Live cb v' r g ls l := by
  have hr := h.opn.reg
  refine ⟨h.opn.congr (fun m hm => (he m hm).2), fun k h1 h2 => by rw [(he _ (by omega)).2]; exact h.zero k h1 h2, fun m hm => ?_, h.pre, fun m hm => by rw [(he m hm).2]; exact h.len m hm, by rw [(he 0 (by omega)).2]; exact h.g0, by rw [(he 2048 (by omega)).2]; exact h.g1⟩
  rw [(he m hm).1, (he m hm).2]
  exact h.kept m hm
theorem Img.congr {v v' : Secs × Secs} {C : Secs} (h : Img v C) (he : EqV v' v) : Img v' C := by
  intro m hm
  rw [(he m hm).1, (he m hm).2]
  exact h m hm
/-- A record one of whose sectors is none is none. -/
theorem rec_bad (h4 : ∀ s, (cb s).length = 4) {s : List UInt8} {C : Secs} {a : Nat} (hs : s.length < 65536)
    (hC : ∀ k b, (layR cb s)[k]? = some b → C (a + k) = b ∨ (okSec 1 (C (a + k)) = false ∧ okSec 2 (C (a + k)) = false)) (hbad : ∃ k b, (layR cb s)[k]? = some b ∧ C (a + k) ≠ b) : recE cb C a = none := by
  have hL := hdrOf_len (cb := cb) (s := s) h4
  have key : ∀ (f k : Nat) (size : Nat), k < secsN s.length → (∃ j b, k ≤ j ∧ (layR cb s)[j]? = some b ∧ C (a + j) ≠ b) → (k ≠ 0 → size = s.length + 6) →
      recGo cb C a f k (kindOf k) ((hdrOf cb s).take (62 * k)) size = none := by
    have hN : secsN s.length = (s.length + 6 + 61) / 62 := rfl
    intro f
    induction f with
    | zero => intros; rfl
    | succ f ih =>
      intro k size hk hj hz
      have hb : (layR cb s)[k]? = some (secOf (kindOf k) (cut62 (hdrOf cb s) k)) := by
        unfold layR
        rw [List.getElem?_map, List.getElem?_range hk]
        rfl
      rw [recGo]
      by_cases h1 : 2048 ≤ a + k
      · rw [if_pos h1]
      · rw [if_neg h1]
        have hkk : kindOf k = 1 ∨ kindOf k = 2 := by unfold kindOf; split <;> simp
        rcases hC k _ hb with e | ⟨e1, e2⟩
        · have hc := cut62_len (hdrOf cb s) k
          rw [e, secOf_ok hc, secOf_body hc, if_neg (by simp)]
          simp only
          rw [← List.append_assoc, take_cut]
          obtain ⟨j, b, hkj, hjb, hne⟩ := hj
          have hjlt : j < secsN s.length := by
            have := (List.getElem?_eq_some_iff.1 hjb).1
            simpa [layR] using this
          have hkj' : k < j := by
            rcases Nat.lt_or_ge k j with h | h
            · exact h
            · have : k = j := by omega
              subst this
              rw [hb] at hjb
              injection hjb with hjb
              exact absurd (hjb ▸ e) hne
          have hsz : (if k = 0 then sizeOf2 (List.take (62 * (k + 1)) (hdrOf cb s) ++ List.replicate (62 - (cut62 (hdrOf cb s) k).length) 0) else size) = s.length + 6 := by
            by_cases h0 : k = 0
            · rw [if_pos h0, size_hdr hs (by omega)]
            · rw [if_neg h0, hz h0]
          rw [hsz]
          have hlen : (List.take (62 * (k + 1)) (hdrOf cb s) ++ List.replicate (62 - (cut62 (hdrOf cb s) k).length) (0 : UInt8)).length = 62 * (k + 1) := by
            rw [List.length_append, List.length_take, List.length_replicate, cut62, List.length_take, List.length_drop, hL]
            omega
          rw [hlen, if_pos (by omega)]
          have hrep : List.replicate (62 - (cut62 (hdrOf cb s) k).length) (0 : UInt8) = [] := by
            have : (cut62 (hdrOf cb s) k).length = 62 := by rw [cut62, List.length_take, List.length_drop, hL]; omega
            rw [this]
            rfl
          rw [hrep, List.append_nil]
          have := ih (k + 1) (s.length + 6) (by omega) ⟨j, b, by omega, hjb, hne⟩ (fun _ => rfl)
          rw [show kindOf (k + 1) = 2 by simp [kindOf]] at this
          exact this
        · rw [if_pos (by rcases hkk with h | h <;> rw [h] <;> assumption)]
  have hp : 0 < secsN s.length := by unfold secsN; omega
  obtain ⟨k, b, hb, hne⟩ := hbad
  have := key 2049 0 6 hp ⟨k, b, Nat.zero_le _, hb, hne⟩ (fun h => absurd rfl h)
  rw [Nat.mul_zero, List.take_zero, show kindOf 0 = 1 from rfl] at this
  exact this
/-- What a crash leaves of records: some of them, from the first one on. -/
theorem torn_lies (h4 : ∀ s, (cb s).length = 4) {C E : Secs} : ∀ (l : List (List UInt8)) (a : Nat), Lies cb E a l → (∀ x ∈ l, x.length < 65536) → endA a l ≤ 2048 → recE cb E (endA a l) = none →
    (∀ k, a ≤ k → k < 2048 → C k = E k ∨ (okSec 1 (C k) = false ∧ okSec 2 (C k) = false)) → ∃ l', l' <+: l ∧ Lies cb C a l' ∧ recE cb C (endA a l') = none
  | [], a, _, _, _, hn, hC => by
    refine ⟨[], List.prefix_refl _, trivial, ?_⟩
    rcases recE_sub (cb := cb) hC with h | h
    · exact h
    · rw [show endA a [] = a from rfl, h]; exact hn
  | x :: r, a, h, hs, he, hn, hC => by
    have hge := endA_ge r (a + secsN x.length)
    have hend : endA a (x :: r) = endA (a + secsN x.length) r := rfl
    have hlk : ∀ {k : Nat} {b : List UInt8}, (layR cb x)[k]? = some b → k < secsN x.length := by
      intro k b hb
      have := (List.getElem?_eq_some_iff.1 hb).1
      simpa [layR] using this
    by_cases hall : ∀ k b, (layR cb x)[k]? = some b → C (a + k) = b
    · obtain ⟨l', h1, h2, h3⟩ := torn_lies h4 r (a + secsN x.length) h.2 (fun y hy => hs y (by simp [hy])) he hn (fun k hk1 hk2 => hC k (by omega) hk2)
      exact ⟨x :: l', (List.cons_prefix_cons).2 ⟨rfl, h1⟩, ⟨hall, h2⟩, h3⟩
    · refine ⟨[], List.nil_prefix, trivial, ?_⟩
      have hall' : ∃ k b, (layR cb x)[k]? = some b ∧ C (a + k) ≠ b := by
        simp only [Classical.not_forall] at hall
        obtain ⟨k, b, hb, hne⟩ := hall
        exact ⟨k, b, hb, hne⟩
      show recE cb C a = none
      refine rec_bad h4 (hs x (by simp)) (fun k b hb => ?_) hall'
      have hk := hlk hb
      rcases hC (a + k) (by omega) (by omega) with e | e
      · left; rw [e]; exact h.1 k b hb
      · exact .inr e
end
end
section
/-! What a crash leaves, call by call. -/
section
variable {cb : List UInt8 → List UInt8}
theorem wtL_pre {l l' : List (List UInt8)} (h : l' <+: l) : wtL l' ≤ wtL l := by
  obtain ⟨t, rfl⟩ := h
  rw [wtL_app]
  omega
theorem endA_pre {l l' : List (List UInt8)} (h : l' <+: l) (a : Nat) : endA a l' ≤ endA a l := by
  obtain ⟨t, rfl⟩ := h
  rw [endA_app]
  exact endA_ge _ _
theorem opn_img (h4 : ∀ s, (cb s).length = 4) {C E : Secs} {r : Nat} {g : Int} {ls l : List (List UInt8)} (ho : Opn cb E r g l) (hp : ls <+: l)
    (hlow : ∀ k, 1 ≤ k → k < endA 1 ls → C (r * 2048 + k) = E (r * 2048 + k))
    (hC : ∀ k, endA 1 ls ≤ k → k < 2048 → C (r * 2048 + k) = E (r * 2048 + k) ∨ (okSec 1 (C (r * 2048 + k)) = false ∧ okSec 2 (C (r * 2048 + k)) = false))
    (hr : r = if genV (C 0) < genV (C 2048) then 1 else 0) (hg : g = genV (C (r * 2048))) : ∃ l', ls <+: l' ∧ l' <+: l ∧ Opn cb C r g l' := by
  have he := ho.end_
  obtain ⟨t, rfl⟩ := hp
  have hl := Lies.app.1 ho.lies
  have hea := endA_app ls t 1
  obtain ⟨t', h1, h2, h3⟩ := torn_lies h4 (C := fun k => C (r * 2048 + k)) t (endA 1 ls) hl.2 (fun x hx => by have := ho.small x (by simp [hx]); omega) (by omega) (by rw [← hea]; exact ho.none) hC
  have hpre : ls ++ t' <+: ls ++ t := (List.prefix_append_right_inj ls).2 h1
  have hsub := hpre.subset
  refine ⟨ls ++ t', List.prefix_append _ _, hpre, hr, hg, Lies.app.2 ⟨hl.1.congr (fun k hk1 hk2 => hlow k hk1 hk2), h2⟩, by rw [endA_app]; exact h3, fun x hx => ho.small x (hsub hx), Nat.le_trans (wtL_pre hpre) ho.wt⟩
/-- What a crash leaves of a log that lives. -/
theorem live_img (h4 : ∀ s, (cb s).length = 4) {v : Secs × Secs} {C : Secs} {r : Nat} {g : Int} {ls l : List (List UInt8)} (h : Live cb v r g ls l) (hi : Img v C) :
    ∃ l', ls <+: l' ∧ l' <+: l ∧ Opn cb C r g l' ∧ C 0 = v.2 0 ∧ C 2048 = v.2 2048 ∧ ∀ m, m < 4096 → C m = v.2 m ∨ (∃ k, m = r * 2048 + k ∧ endA 1 ls ≤ k ∧ (C m)[63]? ≠ some 1) := by
  have hr := h.opn.reg
  have hls := endA_ge ls 1
  have hk : ∀ m, m < 4096 → C m = v.2 m ∨ (∃ k, m = r * 2048 + k ∧ endA 1 ls ≤ k ∧ (C m)[63]? ≠ some 1) := by
    intro m hm
    rcases h.kept m hm with e | ⟨k, rfl, hk1, _, hz⟩
    · exact .inl (hi.same hm e)
    · rcases hi.over hm hz (h.len _ hm) with e | e
      · exact .inl e
      · exact .inr ⟨k, rfl, hk1, e⟩
  have hlow : ∀ m, m < 4096 → (∀ k, m = r * 2048 + k → k < endA 1 ls) → C m = v.2 m := by
    intro m hm hlt
    rcases hk m hm with e | ⟨k, e, h1, _⟩
    · exact e
    · have := hlt k e; omega
  have he := h.opn.end_
  have hle := endA_pre h.pre 1
  have c0 : C 0 = v.2 0 := hlow 0 (by omega) (fun k e => by omega)
  have c1 : C 2048 = v.2 2048 := by
    rcases h.kept 2048 (by omega) with e | ⟨k, e1, e2, e3, _⟩
    · exact hi.same (by omega) e
    · have : r = 0 ∨ r = 1 := by omega
      rcases this with rfl | rfl <;> omega
  obtain ⟨l', h1, h2, h3⟩ := opn_img h4 (C := C) h.opn h.pre (fun k _ hk2 => hlow _ (by omega) (fun j e => by omega)) (fun k hk1 hk2 => by
    rcases hk (r * 2048 + k) (by omega) with e | ⟨_, _, _, e⟩
    · exact .inl e
    · exact .inr ⟨ok_not_mark e 1, ok_not_mark e 2⟩) (by rw [c0, c1]; exact h.opn.hr) (by
      have : r = 0 ∨ r = 1 := by omega
      rcases this with rfl | rfl
      · rw [c0]; exact h.opn.hg
      · rw [c1]; exact h.opn.hg)
  exact ⟨l', h1, h2, h3, c0, c1, hk⟩
end
end
section
/-! Append, Sync: what they come to, done or broken off. -/
/-- The power went in the middle: of whatever a crash leaves P holds. -/
structure Fell (s s' : DS) (N : Nat) (P : Secs → Prop) : Prop where
  off : s'.off = true
  armed : s.armed = true
  armed' : s'.armed = true
  last : s'.last ≤ s.last + N
  len : s'.K.length = 262144
  w64 : ∀ p ∈ s'.W, p.2.length = 64
  img : ∀ C, Img (view s') C → P C
section
variable {cb : List UInt8 → List UInt8} {v : Secs × Secs} {C : Secs} {r : Nat} {g : Int} {ls l : List (List UInt8)} {x : List UInt8} {s s' : DS} {N M : Nat} {plan : List PA} {P P' : Secs → Prop}
theorem Broke.fell (h : Broke s plan N s') (hP : ∀ p, p <+: plan → ∀ C, Img (runV (view s) p) C → P C) : Fell s s' N P := by
  obtain ⟨p, hp, he⟩ := h.v
  refine ⟨h.off, h.armed, h.armed', h.last, h.len, h.w64, fun C hC => hP p hp C (hC.congr (fun m hm => ⟨(he m hm).1.symm, (he m hm).2.symm⟩))⟩
theorem Fell.more (h : Fell s s' N P) (hN : N ≤ M) (hP : ∀ C, P C → P' C) : Fell s s' M P' := ⟨h.off, h.armed, h.armed', by have := h.last; omega, h.len, h.w64, fun C hC => hP C (h.img C hC)⟩
theorem layR_len : (layR cb x).length = secsN x.length := by simp [layR]
theorem layR_64 : ∀ b ∈ layR cb x, b.length = 64 := by
  intro b hb
  obtain ⟨k, _, rfl⟩ := List.mem_map.1 hb
  exact secOf_len (cut62_len _ _)
theorem planW_pre : ∀ {l : List (List UInt8)} {a : Nat} {p : List PA}, p <+: planW a l → ∃ j, j ≤ l.length ∧ p = planW a (l.take j)
  | [], a, p, h => by
    have : p = [] := List.prefix_nil.1 h
    exact ⟨0, by simp, this⟩
  | b :: t, a, p, h => by
    cases p with
    | nil => exact ⟨0, by simp, rfl⟩
    | cons y q =>
      obtain ⟨h1, h2⟩ := List.cons_prefix_cons.1 (show y :: q <+: PA.wr a b :: planW (a + 1) t from h)
      obtain ⟨j, hj, e⟩ := planW_pre h2
      exact ⟨j + 1, by simp; omega, by rw [h1, e]; rfl⟩
/-- Written over noughts in part is written wholly, and torn. -/
theorem img_part {bs : List (List UInt8)} {a : Nat} (hz : ∀ m, a ≤ m → m < a + bs.length → v.1 m = v.2 m) {p : List PA} (hp : p <+: planW a bs) (hi : Img (runV v p) C) : Img (runV v (planW a bs)) C := by
  obtain ⟨j, hj, rfl⟩ := planW_pre hp
  intro m hm
  obtain ⟨q, hq, e⟩ := hi m hm
  rw [planW_1, planW_2] at e
  rw [planW_1, planW_2]
  rw [List.length_take, Nat.min_eq_left hj] at e
  by_cases h1 : a ≤ m ∧ m < a + j
  · rw [if_pos h1] at e
    rw [if_pos (by omega)]
    refine ⟨q, hq, ?_⟩
    rw [e, List.getElem?_take, if_pos (by omega)]
  · rw [if_neg h1] at e
    by_cases h2 : a ≤ m ∧ m < a + bs.length
    · refine ⟨0, by omega, ?_⟩
      rw [e, hz m h2.1 h2.2, List.take_append_drop]
      simp
    · rw [if_neg h2]
      exact ⟨q, hq, e⟩
theorem not_zero64 (k : UInt8) : okSec k zero64 = false := ok_not_mark (by simp [zero64]) k
theorem live_app (h : Live cb v r g ls l) (hx : x.length ≤ 16384) (hw : wtL l + x.length + 128 ≤ 65536) : Live cb (runV v (planW (r * 2048 + endA 1 l) (layR cb x))) r g ls (l ++ [x]) := by
  have hr := h.opn.reg
  have hge := endA_ge l 1
  have he := endA_le (l ++ [x]) 1
  have hwt : wtL (l ++ [x]) = wtL l + x.length + 128 := by rw [wtL_app]; simp only [wtL]; omega
  have hea : endA 1 (l ++ [x]) = endA 1 l + secsN x.length := by rw [endA_app]; rfl
  have h2 : ∀ m, (runV v (planW (r * 2048 + endA 1 l) (layR cb x))).2 m = if r * 2048 + endA 1 l ≤ m ∧ m < r * 2048 + endA 1 l + secsN x.length then ((layR cb x)[m - (r * 2048 + endA 1 l)]?.getD []) else v.2 m := fun m => by rw [planW_2, layR_len]
  have hlow : ∀ k, k < endA 1 l → (runV v (planW (r * 2048 + endA 1 l) (layR cb x))).2 (r * 2048 + k) = v.2 (r * 2048 + k) := fun k hk => by rw [h2, if_neg (by omega)]
  have hs0 : (runV v (planW (r * 2048 + endA 1 l) (layR cb x))).2 0 = v.2 0 := by rw [h2, if_neg (by omega)]
  have hs1 : (runV v (planW (r * 2048 + endA 1 l) (layR cb x))).2 2048 = v.2 2048 := by rw [h2, if_neg (by omega)]
  have hhi : ∀ k, endA 1 (l ++ [x]) ≤ k → k < 2048 → (runV v (planW (r * 2048 + endA 1 l) (layR cb x))).2 (r * 2048 + k) = zero64 := fun k h1 h3 => by rw [h2, if_neg (by omega)]; exact h.zero k (by omega) h3
  refine ⟨⟨by rw [hs0, hs1]; exact h.opn.hr, by have := hlow 0 (by omega); rw [Nat.add_zero] at this; rw [this]; exact h.opn.hg, Lies.app.2 ⟨h.opn.lies.congr (fun k _ hk => hlow k hk), ⟨fun k b hb => ?_, trivial⟩⟩, rec_none ?_, ?_, by omega⟩, hhi, ?_, h.pre.trans (List.prefix_append _ _), ?_, by rw [hs0]; exact h.g0, by rw [hs1]; exact h.g1⟩
  · have hk : k < secsN x.length := by
      have := (List.getElem?_eq_some_iff.1 hb).1
      rwa [layR_len] at this
    show (runV v (planW (r * 2048 + endA 1 l) (layR cb x))).2 (r * 2048 + (endA 1 l + k)) = b
    rw [h2, if_pos (by omega), show r * 2048 + (endA 1 l + k) - (r * 2048 + endA 1 l) = k by omega, hb]
    rfl
  · rw [hhi _ (Nat.le_refl _) (by omega)]
    exact not_zero64 1
  · intro y hy
    rcases List.mem_append.1 hy with hy | hy
    · exact h.opn.small y hy
    · simp only [List.mem_singleton] at hy; subst hy; exact hx
  · intro m hm
    rw [planW_1, h2]
    by_cases hin : r * 2048 + endA 1 l ≤ m ∧ m < r * 2048 + endA 1 l + secsN x.length
    · right
      refine ⟨m - r * 2048, by omega, ?_, by omega, ?_⟩
      · have := endA_pre h.pre 1; omega
      · rcases h.kept m hm with e | ⟨_, _, _, _, e⟩
        · rw [e]
          have := h.zero (m - r * 2048) (by omega) (by omega)
          rwa [show r * 2048 + (m - r * 2048) = m by omega] at this
        · exact e
    · rw [if_neg hin]
      exact h.kept m hm
  · intro m hm
    rw [h2]
    split
    · cases e : (layR cb x)[m - (r * 2048 + endA 1 l)]? with
      | none =>
        have := List.getElem?_eq_none_iff.1 e
        rw [layR_len] at this
        omega
      | some b => exact layR_64 b (List.mem_of_getElem? e)
    · exact h.len m hm
theorem Live.kept_hi (h : Live cb v r g ls l) {m : Nat} (h1 : r * 2048 + endA 1 l ≤ m) (h2 : m < r * 2048 + 2048) : v.1 m = v.2 m := by
  have hr := h.opn.reg
  have hz := h.zero (m - r * 2048) (by omega) (by omega)
  rw [show r * 2048 + (m - r * 2048) = m by omega] at hz
  rcases h.kept m (by omega) with e | ⟨_, _, _, _, e⟩
  · exact e
  · rw [e, hz]
/-- What may be found behind a crash: records from the first one on, at least those that are synced. -/
def Found (cb : List UInt8 → List UInt8) (r : Nat) (g : Int) (ls l : List (List UInt8)) (C : Secs) : Prop := (∃ l', ls <+: l' ∧ l' <+: l ∧ Opn cb C r g l') ∧ genOk (C 0) ∧ genOk (C 2048)
theorem live_found (h4 : ∀ s, (cb s).length = 4) (h : Live cb v r g ls l) (hi : Img v C) : Found cb r g ls l C := by
  obtain ⟨l', h1, h2, h3, e0, e1, _⟩ := live_img h4 h hi
  exact ⟨⟨l', h1, h2, h3⟩, by rw [e0]; exact h.g0, by rw [e1]; exact h.g1⟩
theorem append_out (h4 : ∀ s, (cb s).length = 4) (hon : On s) (h : Live cb (view s) r g ls l) (hx : x.length ≤ 16384) (hw : wtL l + x.length + 128 ≤ 65536) :
    (∃ s', putS cb s r (endA 1 l) x = (endA 1 (l ++ [x]), 0, s') ∧ On s' ∧ s'.armed = s.armed ∧ (s.last ≤ s'.last ∧ s'.last ≤ s.last + 1000) ∧ Live cb (view s') r g ls (l ++ [x])) ∨
    ∃ s' k, putS cb s r (endA 1 l) x = (k, 10, s') ∧ Fell s s' 1000 (Found cb r g ls (l ++ [x])) := by
  have hr := h.opn.reg
  have he := endA_le (l ++ [x]) 1
  have hwt : wtL (l ++ [x]) = wtL l + x.length + 128 := by rw [wtL_app]; simp only [wtL]; omega
  have hea : endA 1 (l ++ [x]) = endA 1 l + secsN x.length := by rw [endA_app]; rfl
  have hn : secsN x.length ≤ 1000 := by unfold secsN; omega
  have hl := live_app h hx hw
  rcases put_out (r * 2048) (layR cb x) s (endA 1 l) hon layR_64 (by rw [layR_len]; omega) with ⟨s', e, ht⟩ | ⟨s', k, e, ht⟩
  · left
    refine ⟨s', ?_, ht.on, ht.armed, ⟨ht.last.1, by have := ht.last.2; rw [layR_len] at this; omega⟩, hl.congr ht.v⟩
    unfold putS
    rw [e, layR_len, hea]
  · right
    refine ⟨s', k, e, (Broke.fell ht (fun p hp C hC => ?_)).more (by rw [layR_len]; exact hn) (fun _ h => h)⟩
    have hll : (layR cb x).length = secsN x.length := layR_len
    have hsum : endA 1 l + secsN x.length ≤ 2048 := by rw [← hea]; omega
    have hz : ∀ m, r * 2048 + endA 1 l ≤ m → m < r * 2048 + endA 1 l + (layR cb x).length → (view s).1 m = (view s).2 m := by
      intro m h1 h2
      rw [hll] at h2
      have h3 : m < r * 2048 + 2048 := Nat.lt_of_lt_of_le h2 (by rw [Nat.add_assoc]; exact Nat.add_le_add_left hsum _)
      exact h.kept_hi h1 h3
    exact live_found h4 hl (img_part hz hp hC)
theorem live_fl (h : Live cb v r g ls l) : Live cb (v.2, v.2) r g l l := ⟨h.opn, h.zero, fun _ _ => .inl rfl, List.prefix_refl _, h.len, h.g0, h.g1⟩
theorem sync_out (h4 : ∀ s, (cb s).length = 4) (hon : On s) (h : Live cb (view s) r g ls l) :
    (∃ s', flS s = (0, s') ∧ On s' ∧ s'.armed = s.armed ∧ (s.last ≤ s'.last ∧ s'.last ≤ s.last + 1) ∧ Live cb (view s') r g l l ∧ s'.W = []) ∨ ∃ s', flS s = (10, s') ∧ Fell s s' 1 (Found cb r g ls l) := by
  rcases fl_out hon with ⟨s', e, ht, hW⟩ | ⟨s', e, ht⟩
  · exact .inl ⟨s', e, ht.on, ht.armed, ⟨ht.last.1, ht.last.2⟩, (live_fl h).congr ht.v, hW⟩
  · refine .inr ⟨s', e, (ht []).fell (fun p hp C hC => ?_)⟩
    have : p = [] := List.prefix_nil.1 hp
    subst this
    exact live_found h4 h hC
end
end
section
/-! Open: what it comes to, done or broken off. -/
section
variable {cb : List UInt8 → List UInt8} {v : Secs × Secs} {C D : Secs} {r : Nat} {g : Int} {ls l : List (List UInt8)} {x : List UInt8} {s s' : DS} {N M a : Nat} {plan : List PA} {P P' : Secs → Prop}
theorem allZero_eq {b : List UInt8} (h : allZero b = true) (hl : b.length = 64) : b = zero64 := by
  have : ∀ (b : List UInt8), allZero b = true → b = List.replicate b.length 0 := by
    intro b
    induction b with
    | nil => intro _; rfl
    | cons y t ih =>
      intro h
      simp only [allZero, List.all_cons, Bool.and_eq_true, beq_iff_eq] at h
      rw [List.length_cons, List.replicate_succ, ← ih h.2, h.1]
  rw [this b h, hl]
  rfl
/-- Noughts, or what lay there. -/
def Zs (C : Secs) (r a : Nat) (v : Secs × Secs) : Prop := ∀ m, m < 4096 → (v.1 m = C m ∧ v.2 m = C m) ∨ ((∃ k, m = r * 2048 + k ∧ a ≤ k ∧ k < 2048) ∧ v.2 m = zero64 ∧ (v.1 m = C m ∨ v.1 m = zero64))
def GoodZ (r a : Nat) : PA → Prop
  | .fl => True
  | .wr n b => b = zero64 ∧ ∃ k, n = r * 2048 + k ∧ a ≤ k ∧ k < 2048
theorem Zs.step (h : Zs C r a v) {x : PA} (hx : GoodZ r a x) : Zs C r a (stepV v x) := by
  intro m hm
  cases x with
  | fl =>
    rcases h m hm with ⟨_, e2⟩ | ⟨hk, e2, _⟩
    · exact .inl ⟨e2, e2⟩
    · exact .inr ⟨hk, e2, .inr e2⟩
  | wr n b =>
    obtain ⟨rfl, k, rfl, h1, h2⟩ := hx
    show (v.1 m = C m ∧ (if m = r * 2048 + k then zero64 else v.2 m) = C m) ∨ _ ∧ (if m = r * 2048 + k then zero64 else v.2 m) = zero64 ∧ _
    by_cases e : m = r * 2048 + k
    · rw [if_pos e]
      right
      refine ⟨⟨k, e, h1, h2⟩, rfl, ?_⟩
      rcases h m hm with ⟨e1, _⟩ | ⟨_, _, e1⟩
      · exact .inl e1
      · exact e1
    · rw [if_neg e]
      exact h m hm
theorem Zs.run : ∀ {p : List PA} {v : Secs × Secs}, Zs C r a v → (∀ x ∈ p, GoodZ r a x) → Zs C r a (runV v p)
  | [], _, h, _ => h
  | y :: t, _, h, hp => Zs.run (p := t) (h.step (hp y (by simp))) (fun x hx => hp x (by simp [hx]))
theorem planC_good {E : Secs} : ∀ {f n : Nat}, a ≤ n → n + f ≤ 2048 → ∀ x ∈ planC E (r * 2048) f n, GoodZ r a x
  | 0, _, _, _, x, hx => by simp [planC] at hx
  | f + 1, n, h1, h2, x, hx => by
    rw [planC] at hx
    split at hx
    · exact planC_good (f := f) (n := n + 1) (by omega) (by omega) x hx
    · rcases List.mem_cons.1 hx with rfl | hx
      · exact ⟨rfl, n, rfl, h1, by omega⟩
      · exact planC_good (f := f) (n := n + 1) (by omega) (by omega) x hx
theorem planF_good {p : List PA} {d : Bool} (h : ∀ x ∈ p, GoodZ r a x) : ∀ x ∈ planF p d, GoodZ r a x := by
  intro x hx
  unfold planF at hx
  split at hx
  · rcases List.mem_append.1 hx with hx | hx
    · exact h x hx
    · simp only [List.mem_singleton] at hx; subst hx; trivial
  · exact h x hx
theorem planC_1 {E : Secs} {base : Nat} : ∀ {f n : Nat} {v : Secs × Secs}, (runV v (planC E base f n)).1 = v.1
  | 0, _, _ => rfl
  | f + 1, n, v => by
    rw [planC]
    split
    · exact planC_1 (f := f)
    · exact planC_1 (f := f) (v := stepV v _)
theorem planC_2 {E : Secs} {base : Nat} : ∀ {f n : Nat} {v : Secs × Secs}, (∀ m, base + n ≤ m → m < base + n + f → v.2 m = E m ∧ (E m).length = 64) → ∀ m, (runV v (planC E base f n)).2 m = if base + n ≤ m ∧ m < base + n + f then zero64 else v.2 m
  | 0, n, v, _, m => by rw [if_neg (by omega)]; rfl
  | f + 1, n, v, h, m => by
    rw [planC]
    obtain ⟨e1, e2⟩ := h (base + n) (by omega) (by omega)
    by_cases hz : allZero (E (base + n)) = true
    · rw [if_pos hz, planC_2 (f := f) (n := n + 1) (fun m h1 h2 => h m (by omega) (by omega))]
      by_cases hm : m = base + n
      · subst hm
        rw [if_neg (by omega), if_pos (by omega), e1]
        exact allZero_eq hz e2
      · by_cases hin : base + n ≤ m ∧ m < base + n + (f + 1)
        · rw [if_pos hin, if_pos (by omega)]
        · rw [if_neg hin, if_neg (by omega)]
    · rw [if_neg hz]
      show (runV (stepV v (.wr (base + n) zero64)) (planC E base f (n + 1))).2 m = _
      rw [planC_2 (f := f) (n := n + 1) (fun m h1 h2 => by
        refine ⟨?_, (h m (by omega) (by omega)).2⟩
        show (if m = base + n then zero64 else v.2 m) = E m
        rw [if_neg (by omega)]
        exact (h m (by omega) (by omega)).1)]
      show (if _ then zero64 else if m = base + n then zero64 else v.2 m) = _
      by_cases hm : m = base + n
      · subst hm
        rw [if_neg (by omega), if_pos rfl, if_pos (by omega)]
      · rw [if_neg hm]
        by_cases hin : base + n ≤ m ∧ m < base + n + (f + 1)
        · rw [if_pos hin, if_pos (by omega)]
        · rw [if_neg hin, if_neg (by omega)]
/-- A crash while noughts are laid behind a log's end: it is the same. -/
theorem zs_img (ho : Opn cb C r g l) (h : Zs C r (endA 1 l) v) (hi : Img v D) : Opn cb D r g l ∧ D 0 = C 0 ∧ D 2048 = C 2048 := by
  have hr := ho.reg
  have he := ho.end_
  have hge := endA_ge l 1
  have hm : ∀ m, m < 4096 → D m = C m ∨ ((∃ k, m = r * 2048 + k ∧ endA 1 l ≤ k ∧ k < 2048) ∧ (D m)[0]? = some 0) := by
    intro m hm
    rcases h m hm with ⟨e1, e2⟩ | ⟨hk, e2, e1⟩
    · left; rw [hi.same hm (e1.trans e2.symm), e2]
    · rcases hi.zero hm e2 with e | e
      · rcases e1 with e1 | e1
        · left; rw [e, e1]
        · right; refine ⟨hk, ?_⟩; rw [e, e1]; simp [zero64, List.replicate_succ]
      · exact .inr ⟨hk, e⟩
  have hlow : ∀ k, k < endA 1 l → D (r * 2048 + k) = C (r * 2048 + k) := by
    intro k hk
    rcases hm (r * 2048 + k) (by omega) with e | ⟨⟨j, e, _, _⟩, _⟩
    · exact e
    · omega
  have c0 : D 0 = C 0 := by
    rcases hm 0 (by omega) with e | ⟨⟨j, e, _, _⟩, _⟩
    · exact e
    · omega
  have c1 : D 2048 = C 2048 := by
    rcases hm 2048 (by omega) with e | ⟨⟨j, e, h1, h2⟩, _⟩
    · exact e
    · have : r = 0 ∨ r = 1 := by omega
      rcases this with rfl | rfl <;> omega
  refine ⟨⟨by rw [c0, c1]; exact ho.hr, by have := hlow 0 (by omega); rw [Nat.add_zero] at this; rw [this]; exact ho.hg, ho.lies.congr (fun k _ hk => hlow k hk), ?_, ho.small, ho.wt⟩, c0, c1⟩
  rcases recE_sub (cb := cb) (C := fun k => D (r * 2048 + k)) (E := fun k => C (r * 2048 + k)) (a := endA 1 l) (fun k h1 h2 => by
    rcases hm (r * 2048 + k) (by omega) with e | ⟨_, e⟩
    · exact .inl e
    · exact .inr (ok_not_kind e)) with e | e
  · exact e
  · rw [e]; exact ho.none
/-- What an opening finds again. -/
def Same (cb : List UInt8 → List UInt8) (r : Nat) (g : Int) (l : List (List UInt8)) (C : Secs) : Prop := Opn cb C r g l ∧ genOk (C 0) ∧ genOk (C 2048)
theorem Fell.after {t : DS} (h : Went s [] N t) (h' : Fell t s' M P) : Fell s s' (N + M) P := ⟨h'.off, by rw [← h.armed]; exact h'.armed, h'.armed', by have := h.last; have := h'.last; omega, h'.len, h'.w64, h'.img⟩
theorem open_out (h4 : ∀ s, (cb s).length = 4) (hon : On s) (hke : ∀ m, m < 4096 → (view s).1 m = (view s).2 m) (h : Same cb r g l (view s).2) :
    (∃ s', openS cb s = (0, ⟨s', l, wtL l, r, g, endA 1 l, false⟩) ∧ On s' ∧ s'.armed = s.armed ∧ (s.last ≤ s'.last ∧ s'.last ≤ s.last + 5000000) ∧ Live cb (view s') r g l l ∧ s'.W = []) ∨
    ∃ L, openS cb s = (10, L) ∧ Fell s L.d 5000000 (Same cb r g l) := by
  obtain ⟨ho, hg0, hg1⟩ := h
  have hr := ho.reg
  have he := ho.end_
  have hge := endA_ge l 1
  have hlen : ∀ m, m < 4096 → ((view s).2 m).length = 64 := fun m hm => secE_len hon hm
  have hz0 : Zs (view s).2 r (endA 1 l) (view s) := fun m hm => .inl ⟨hke m hm, rfl⟩
  have hfell : ∀ {t : DS} {M : Nat} {pl : List PA}, Broke s pl M t → (∀ x ∈ pl, GoodZ r (endA 1 l) x) → Fell s t M (Same cb r g l) := by
    intro t M pl hb hgd
    refine hb.fell (fun p hp C hC => ?_)
    have := zs_img ho (hz0.run (p := p) (fun x hx => hgd x (hp.subset hx))) hC
    exact ⟨this.1, by rw [this.2.1]; exact hg0, by rw [this.2.2]; exact hg1⟩
  unfold openS
  rcases gen_out hon 0 (by omega) with ⟨t1, e1, h1⟩ | ⟨t1, e1, h1⟩
  · rw [e1]
    simp only [ne_eq, not_true_eq_false, if_false]
    rcases gen_out h1.on 1 (by omega) with ⟨t2, e2, h2⟩ | ⟨t2, e2, h2⟩
    · rw [e2]
      simp only [not_true_eq_false, if_false]
      have w2 := h1.trans h2
      have g0 : genV (secE s (0 * 2048)) = genV ((view s).2 0) := rfl
      have g1 : genV (secE t1 (1 * 2048)) = genV ((view s).2 2048) := by rw [h1.e0 (by omega)]; rfl
      rw [g0, g1, ← ho.hr]
      have hgg : (if genV ((view s).2 0) < genV ((view s).2 2048) then genV ((view s).2 2048) else genV ((view s).2 0)) = g := by
        have h1' := ho.hr
        have h2' := ho.hg
        by_cases hlt : genV ((view s).2 0) < genV ((view s).2 2048)
        · rw [if_pos hlt] at h1' ⊢
          rw [h1'] at h2'
          exact h2'.symm
        · rw [if_neg hlt] at h1' ⊢
          rw [h1'] at h2'
          exact h2'.symm
      rw [hgg]
      have hload := load_lies h4 (R := fun k => (view s).2 (r * 2048 + k)) l 2049 1 [] 0 ho.lies (fun x hx => by have := ho.small x hx; omega) (by omega) (by have := lies_len l 1; omega) ho.none
      have hcong : loadE cb (fun k => secE t2 (r * 2048 + k)) 2049 1 [] 0 = (endA 1 l, l, wtL l) := by
        rw [loadE_congr (E' := fun k => (view s).2 (r * 2048 + k)) (fun k hk => w2.e0 (by omega)), hload]
        simp
      rcases load_out (cb := cb) r hr 2049 t2 1 [] 0 h2.on with ⟨t3, e3, h3⟩ | ⟨a', l', z', t3, e3, h3⟩
      · rw [hcong] at e3
        rw [e3]
        simp only [not_true_eq_false, if_false]
        have w3 := w2.trans h3
        have hpc : planC (secE t3) (r * 2048) (2048 - endA 1 l) (endA 1 l) = planC (view s).2 (r * 2048) (2048 - endA 1 l) (endA 1 l) := planC_congr (fun k h1 h2 => w3.e0 (by omega))
        have hgd : ∀ x ∈ planC (view s).2 (r * 2048) (2048 - endA 1 l) (endA 1 l), GoodZ r (endA 1 l) x := planC_good (Nat.le_refl _) (by omega)
        rcases clean_out (r * 2048) (2048 - endA 1 l) t3 (endA 1 l) false h3.on (by omega) with ⟨t4, e4, h4'⟩ | ⟨t4, e4, h4'⟩
        · have e4' : cleanS t3 r (endA 1 l) = (0, t4) := e4
          rw [e4']
          simp only [not_true_eq_false, if_false]
          rw [hpc] at h4'
          have w4 := w3.trans h4'
          have hgd4 := planF_good (d := false || !(planC (view s).2 (r * 2048) (2048 - endA 1 l) (endA 1 l)).isEmpty) hgd
          rcases fl_out h4'.on with ⟨t5, e5, h5, hW⟩ | ⟨t5, e5, h5⟩
          · left
            rw [e5]
            refine ⟨t5, rfl, h5.on, (w4.trans h5).armed, ⟨(w4.trans h5).last.1, by have := (w4.trans h5).last.2; omega⟩, ?_, hW⟩
            have hv := (w4.trans h5).v
            rw [runV_app] at hv
            obtain ⟨u, hu⟩ : ∃ u, runV (view s) ([] ++ [] ++ [] ++ planF (planC (view s).2 (r * 2048) (2048 - endA 1 l) (endA 1 l)) (false || !(planC (view s).2 (r * 2048) (2048 - endA 1 l) (endA 1 l)).isEmpty)) = u := ⟨_, rfl⟩
            rw [hu] at hv
            have hu2 : ∀ m, u.2 m = if r * 2048 + endA 1 l ≤ m ∧ m < r * 2048 + endA 1 l + (2048 - endA 1 l) then zero64 else (view s).2 m := by
              intro m
              have hp2 := planC_2 (E := (view s).2) (base := r * 2048) (f := 2048 - endA 1 l) (n := endA 1 l) (v := view s) (fun m h1 h2 => ⟨rfl, hlen m (by omega)⟩) m
              rw [← hu]
              simp only [List.nil_append, Bool.false_or]
              unfold planF
              split
              · rw [runV_app]
                exact hp2
              · exact hp2
            have hlive : Live cb (u.2, u.2) r g l l := by
              have hlow : ∀ k, k < endA 1 l → u.2 (r * 2048 + k) = (view s).2 (r * 2048 + k) := fun k hk => by rw [hu2, if_neg (by omega)]
              have hhi : ∀ k, endA 1 l ≤ k → k < 2048 → u.2 (r * 2048 + k) = zero64 := fun k h1 h2 => by rw [hu2, if_pos (by omega)]
              have hs0 : u.2 0 = (view s).2 0 := by rw [hu2, if_neg (by omega)]
              have hs1 : u.2 2048 = (view s).2 2048 := by
                rw [hu2, if_neg]
                have : r = 0 ∨ r = 1 := by omega
                rcases this with rfl | rfl <;> omega
              refine ⟨⟨by rw [hs0, hs1]; exact ho.hr, by have := hlow 0 (by omega); rw [Nat.add_zero] at this; rw [this]; exact ho.hg, ho.lies.congr (fun k _ hk => hlow k hk), rec_none (by rw [hhi _ (Nat.le_refl _) (by omega)]; exact not_zero64 1), ho.small, ho.wt⟩, hhi, fun _ _ => .inl rfl, List.prefix_refl _, fun m hm => ?_, by rw [hs0]; exact hg0, by rw [hs1]; exact hg1⟩
              show (u.2 m).length = 64
              rw [hu2]
              split
              · simp [zero64]
              · exact hlen m hm
            exact hlive.congr hv
          · right
            rw [e5]
            refine ⟨_, rfl, (hfell (Broke.after w4 (h5 [])) ?_).more (by omega) (fun _ h => h)⟩
            intro x hx
            simp only [List.nil_append, List.append_nil] at hx
            exact hgd4 x hx
        · have e4' : cleanS t3 r (endA 1 l) = (10, t4) := e4
          rw [e4']
          right
          simp only [show ¬ ((10 : Int) = 0) by omega, not_false_eq_true, if_true]
          rw [hpc] at h4'
          refine ⟨_, rfl, (hfell (Broke.after w3 h4') ?_).more (by omega) (fun _ h => h)⟩
          intro x hx
          simp only [List.nil_append] at hx
          exact planF_good hgd x hx
      · rw [e3]
        right
        simp only [show ¬ ((10 : Int) = 0) by omega, not_false_eq_true, if_true]
        exact ⟨_, rfl, (hfell (Broke.after w2 (h3 [])) (by simp)).more (by omega) (fun _ h => h)⟩
    · rw [e2]
      right
      simp only [show ¬ ((10 : Int) = 0) by omega, not_false_eq_true, if_true]
      exact ⟨_, rfl, (hfell (Broke.after h1 (h2 [])) (by simp)).more (by omega) (fun _ h => h)⟩
  · rw [e1]
    right
    simp only [show ¬ ((10 : Int) = 0) by omega, ne_eq, not_false_eq_true, if_true]
    exact ⟨_, rfl, (hfell (h1 []) (by simp)).more (by omega) (fun _ h => h)⟩
end
end
section
/-! Reset: what it comes to, done or broken off. -/
section
variable {cb : List UInt8 → List UInt8} {v : Secs × Secs} {C D E : Secs} {r : Nat} {g : Int} {ls l l2 : List (List UInt8)} {x : List UInt8} {s s' : DS} {N M a : Nat} {plan : List PA} {P P' : Secs → Prop}
theorem leV_digits (k n : Nat) : leV ((List.range k).map fun i => UInt8.ofNat (n / 256 ^ i % 256)) = n % 256 ^ k := by
  induction k generalizing n with
  | zero => simp [leV, Nat.mod_one]
  | succ k ih =>
    rw [List.range_succ_eq_map, List.map_cons, List.map_map]
    show (UInt8.ofNat (n / 256 ^ 0 % 256)).toNat + 256 * leV ((List.range k).map fun i => UInt8.ofNat (n / 256 ^ (i + 1) % 256)) = _
    have e : (fun i => UInt8.ofNat (n / 256 ^ (i + 1) % 256)) = fun i => UInt8.ofNat (n / 256 / 256 ^ i % 256) := by
      funext i
      rw [Nat.pow_succ, Nat.mul_comm, Nat.div_div_eq_div_mul]
    rw [e, ih, UInt8.toNat_ofNat', Nat.pow_zero, Nat.div_one, Nat.mod_mod, Nat.pow_succ, Nat.mul_comm (256 ^ k) 256, Nat.mod_mul]
theorem superB_nat (n : Nat) : superB (n : Int) = ((List.range 8).map fun i => UInt8.ofNat (n / 256 ^ i % 256)) ++ List.replicate 55 0 ++ [if 0 < n then 1 else 0] := by
  unfold superB
  have e1 : ((List.range 8).map fun i => UInt8.ofNat (((n : Int) / 256 ^ i) % 256).toNat) = (List.range 8).map fun i => UInt8.ofNat (n / 256 ^ i % 256) := by
    refine List.map_congr_left (fun i _ => ?_)
    have : ((n : Int) / 256 ^ i % 256) = ((n / 256 ^ i % 256 : Nat) : Int) := by
      rw [Int.natCast_emod, Int.natCast_ediv, Int.natCast_pow]
      rfl
    rw [this, Int.toNat_natCast]
  have e2 : (if 0 < (n : Int) then (1 : UInt8) else 0) = if 0 < n then 1 else 0 := by
    by_cases h : 0 < n
    · rw [if_pos h, if_pos (by omega)]
    · rw [if_neg h, if_neg (by omega)]
  rw [e1, e2]
theorem superB_len (g : Int) : (superB g).length = 64 := by simp [superB]
theorem superB_8 (n : Nat) : (superB (n : Int)).take 8 = (List.range 8).map fun i => UInt8.ofNat (n / 256 ^ i % 256) := by
  rw [superB_nat, List.append_assoc, List.take_append_of_le_length (by simp), List.take_of_length_le (by simp)]
theorem superB_63 (n : Nat) : (superB (n : Int))[63]? = some (if 0 < n then 1 else 0) := by
  rw [superB_nat, List.getElem?_append_right (by simp)]
  simp
theorem genV_super (n : Nat) (h : n < 4611686018427387904) : genV (superB (n : Int)) = n ∧ genOk (superB (n : Int)) := by
  have h8 : leV ((superB (n : Int)).take 8) = n := by
    rw [superB_8, leV_digits]
    exact Nat.mod_eq_of_lt (by omega)
  refine ⟨?_, superB_len _, by rw [h8]; exact h⟩
  by_cases h0 : 0 < n
  · unfold genV genV.IntKind64
    rw [superB_63, if_pos h0, if_pos rfl, h8, if_pos (by omega)]
  · have : n = 0 := by omega
    subst this
    rw [genV_not (by rw [superB_63]; simp)]
    rfl
theorem superB_0 : superB 0 = zero64 := by
  have := superB_nat 0
  rw [show ((0 : Nat) : Int) = 0 from rfl] at this
  rw [this]
  rfl
theorem leV_pre : ∀ (b : List UInt8) (q k : Nat), leV (b.take q ++ List.replicate k 0) ≤ leV b
  | [], q, k => by
    rw [List.take_nil, List.nil_append]
    have : ∀ k : Nat, leV (List.replicate k (0 : UInt8)) = 0 := by
      intro k
      induction k with
      | zero => rfl
      | succ k ih => simp [List.replicate_succ, leV, ih]
    rw [this]
    exact Nat.zero_le _
  | x :: r, 0, k => by
    have := leV_pre [] 0 k
    simp only [List.take_zero, List.nil_append] at this ⊢
    have h0 : leV ([] : List UInt8) = 0 := rfl
    omega
  | x :: r, q + 1, k => by
    have := leV_pre r q k
    simp only [List.take_succ_cons, List.cons_append, leV]
    omega
theorem genOk_pre {b : List UInt8} (h : genOk b) {q : Nat} (hq : q ≤ 64) : genOk (b.take q ++ zero64.drop q) := by
  have hz : zero64.drop q = List.replicate (64 - q) 0 := by unfold zero64; rw [List.drop_replicate]
  refine ⟨by rw [List.length_append, hz, List.length_replicate, List.length_take, h.1]; omega, ?_⟩
  have h8 : (b.take q ++ zero64.drop q).take 8 = (b.take 8).take q ++ List.replicate (8 - min q 8) 0 := by
    rw [hz, List.take_append, List.take_replicate, List.take_take, List.take_take, List.length_take, h.1, Nat.min_comm 8 q]
    congr 1
    congr 1
    omega
  rw [h8]
  exact Nat.lt_of_le_of_lt (leV_pre _ _ _) h.2
/-- The other region's first sector tells no greater generation than it did: it is the same log. -/
theorem Opn.other (ho : Opn cb D r g l) (hb : ∀ m, m < 4096 → m ≠ (1 - r) * 2048 → C m = D m) (h0 : 0 ≤ genV (D ((1 - r) * 2048))) (h1 : genV (C ((1 - r) * 2048)) ≤ genV (D ((1 - r) * 2048))) : Opn cb C r g l := by
  have hr := ho.reg
  have he := ho.end_
  have : r = 0 ∨ r = 1 := by omega
  have hreg : ∀ k, k < 2048 → C (r * 2048 + k) = D (r * 2048 + k) := fun k hk => hb _ (by omega) (by rcases this with rfl | rfl <;> omega)
  have hh := ho.hr
  refine ⟨?_, by have := hreg 0 (by omega); rw [Nat.add_zero] at this; rw [this]; exact ho.hg, ho.lies.congr (fun k _ hk => hreg k (by omega)), ?_, ho.small, ho.wt⟩
  · rcases this with rfl | rfl
    · have c0 : C 0 = D 0 := by have := hreg 0 (by omega); simpa using this
      have h1' : genV (C 2048) ≤ genV (D 2048) := by simpa using h1
      rw [c0]
      rw [if_neg]
      intro hlt
      rw [if_pos (by omega)] at hh
      omega
    · have c1 : C 2048 = D 2048 := by have := hreg 0 (by omega); simpa using this
      have h1' : genV (C 0) ≤ genV (D 0) := by simpa using h1
      rw [c1, if_pos]
      by_cases hlt : genV (D 0) < genV (D 2048)
      · omega
      · rw [if_neg hlt] at hh; omega
  · rw [← ho.none]
    exact recGo_congr (fun k _ hk => hreg k hk) _ _ _ _ _
/-- Only the other region's body is another one. -/
def Oth (E : Secs) (r : Nat) (C : Secs) : Prop := ∀ m, m < 4096 → (∃ k, m = (1 - r) * 2048 + k ∧ 1 ≤ k ∧ k < 2048) ∨ C m = E m
theorem Opn.oth (ho : Opn cb E r g l) (h : Oth E r C) : Opn cb C r g l ∧ C 0 = E 0 ∧ C 2048 = E 2048 := by
  have hr := ho.reg
  have he := ho.end_
  have h01 : r = 0 ∨ r = 1 := by omega
  have hreg : ∀ k, k < 2048 → C (r * 2048 + k) = E (r * 2048 + k) := fun k hk => by
    rcases h (r * 2048 + k) (by omega) with ⟨j, e, h1, h2⟩ | e
    · rcases h01 with rfl | rfl <;> omega
    · exact e
  have c0 : C 0 = E 0 := by
    rcases h 0 (by omega) with ⟨j, e, h1, h2⟩ | e
    · omega
    · exact e
  have c1 : C 2048 = E 2048 := by
    rcases h 2048 (by omega) with ⟨j, e, h1, h2⟩ | e
    · rcases h01 with rfl | rfl <;> omega
    · exact e
  refine ⟨⟨by rw [c0, c1]; exact ho.hr, by have := hreg 0 (by omega); rw [Nat.add_zero] at this; rw [this]; exact ho.hg, ho.lies.congr (fun k _ hk => hreg k (by omega)), ?_, ho.small, ho.wt⟩, c0, c1⟩
  rw [← ho.none]
  exact recGo_congr (fun k _ hk => hreg k hk) _ _ _ _ _
def OthV (E : Secs) (r : Nat) (v : Secs × Secs) : Prop := ∀ m, m < 4096 → (∃ k, m = (1 - r) * 2048 + k ∧ 1 ≤ k ∧ k < 2048) ∨ (v.1 m = E m ∧ v.2 m = E m)
def GoodO (r : Nat) : PA → Prop
  | .fl => True
  | .wr n _ => ∃ k, n = (1 - r) * 2048 + k ∧ 1 ≤ k ∧ k < 2048
theorem OthV.step (h : OthV E r v) {y : PA} (hy : GoodO r y) : OthV E r (stepV v y) := by
  intro m hm
  rcases h m hm with h1 | ⟨h1, h2⟩
  · exact .inl h1
  · cases y with
    | fl => exact .inr ⟨h2, h2⟩
    | wr n b =>
      by_cases e : m = n
      · subst e; exact .inl hy
      · right
        refine ⟨h1, ?_⟩
        show (if m = n then b else v.2 m) = E m
        rw [if_neg e]
        exact h2
theorem OthV.run : ∀ {p : List PA} {v : Secs × Secs}, OthV E r v → (∀ x ∈ p, GoodO r x) → OthV E r (runV v p)
  | [], _, h, _ => h
  | y :: t, _, h, hp => OthV.run (p := t) (h.step (hp y (by simp))) (fun x hx => hp x (by simp [hx]))
theorem OthV.img (h : OthV E r v) (hi : Img v C) : Oth E r C := by
  intro m hm
  rcases h m hm with h1 | ⟨h1, h2⟩
  · exact .inl h1
  · right
    rw [hi.same hm (h1.trans h2.symm), h2]
theorem planW_app : ∀ (l m : List (List UInt8)) (a : Nat), planW a (l ++ m) = planW a l ++ planW (a + l.length) m
  | [], m, a => by simp [planW]
  | b :: r, m, a => by
    simp only [List.cons_append, planW, List.length_cons]
    rw [planW_app r m (a + 1), show a + 1 + r.length = a + (r.length + 1) by omega]
theorem planW_goodO {bs : List (List UInt8)} {n : Nat} (h1 : 1 ≤ n) (h2 : n + bs.length ≤ 2048) : ∀ x ∈ planW ((1 - r) * 2048 + n) bs, GoodO r x := by
  induction bs generalizing n with
  | nil => intro x hx; simp [planW] at hx
  | cons b t ih =>
    intro x hx
    simp only [List.length_cons] at h2
    rcases List.mem_cons.1 (show x ∈ PA.wr ((1 - r) * 2048 + n) b :: planW ((1 - r) * 2048 + n + 1) t from hx) with rfl | hx
    · exact ⟨n, rfl, h1, by omega⟩
    · rw [Nat.add_assoc ((1 - r) * 2048) n 1] at hx
      exact ih (n := n + 1) (Nat.le_add_left _ _) (by rw [Nat.add_right_comm]; exact h2) x hx
def flatL (cb : List UInt8 → List UInt8) (l : List (List UInt8)) : List (List UInt8) := l.flatMap (layR cb)
theorem flatL_len : ∀ (l : List (List UInt8)) (a : Nat), a + (flatL cb l).length = endA a l
  | [], a => by simp [flatL, endA]
  | x :: r, a => by
    have := flatL_len r (a + secsN x.length)
    simp only [flatL, List.flatMap_cons, List.length_append, endA, layR_len] at this ⊢
    omega
theorem flatL_64 : ∀ b ∈ flatL cb l, b.length = 64 := by
  intro b hb
  obtain ⟨x, _, hx⟩ := List.mem_flatMap.1 hb
  exact layR_64 b hx
theorem lies_flat {R : Secs} : ∀ (l : List (List UInt8)) (a : Nat), (∀ j b, (flatL cb l)[j]? = some b → R (a + j) = b) → Lies cb R a l
  | [], _, _ => trivial
  | x :: r, a, h => by
    refine ⟨fun k b hb => h k b ?_, lies_flat r (a + secsN x.length) (fun j b hb => ?_)⟩
    · have hk := (List.getElem?_eq_some_iff.1 hb).1
      simp only [flatL, List.flatMap_cons]
      rw [List.getElem?_append_left hk]
      exact hb
    · have := h (secsN x.length + j) b (by
        simp only [flatL, List.flatMap_cons]
        rw [List.getElem?_append_right (by rw [layR_len]; omega), layR_len, show secsN x.length + j - secsN x.length = j by omega]
        exact hb)
      rwa [← Nat.add_assoc] at this
theorem puts_out (r : Nat) (hr : r ≤ 1) : ∀ (l : List (List UInt8)) (s : DS) (a : Nat), On s → endA a l ≤ 2048 →
    (∃ s', putsD cb r l s a = (endA a l, 0, s') ∧ Went s (planW (r * 2048 + a) (flatL cb l)) (flatL cb l).length s') ∨ ∃ s', putsD cb r l s a = (0, 10, s') ∧ Broke s (planW (r * 2048 + a) (flatL cb l)) (flatL cb l).length s'
  | [], s, a, h, _ => .inl ⟨s, rfl, Went.refl h⟩
  | x :: t, s, a, h, he => by
    have hge := endA_ge t (a + secsN x.length)
    have he' : endA (a + secsN x.length) t ≤ 2048 := he
    have hfl : flatL cb (x :: t) = layR cb x ++ flatL cb t := by simp [flatL]
    have hlen : (flatL cb (x :: t)).length = secsN x.length + (flatL cb t).length := by rw [hfl, List.length_append, layR_len]
    have hpl : planW (r * 2048 + a) (flatL cb (x :: t)) = planW (r * 2048 + a) (layR cb x) ++ planW (r * 2048 + (a + secsN x.length)) (flatL cb t) := by rw [hfl, planW_app, layR_len, Nat.add_assoc]
    rw [putsD, hpl, hlen]
    rcases put_out (r * 2048) (layR cb x) s a h layR_64 (by rw [layR_len]; omega) with ⟨t1, e, h1⟩ | ⟨t1, k, e, h1⟩
    · have e' : putS cb s r a x = (a + (layR cb x).length, 0, t1) := e
      rw [e', layR_len]
      rw [layR_len] at h1
      simp only [ne_eq, not_true_eq_false, if_false]
      rcases puts_out r hr t t1 (a + secsN x.length) h1.on he' with ⟨u, e2, hu⟩ | ⟨u, e2, hu⟩
      · exact .inl ⟨u, e2, h1.trans hu⟩
      · exact .inr ⟨u, e2, Broke.after h1 hu⟩
    · have e' : putS cb s r a x = (k, 10, t1) := e
      rw [e']
      rw [layR_len] at h1
      exact .inr ⟨t1, by simp, (h1.app _).more (by omega)⟩
end
end
section
/-! Reset, whole. -/
section
variable {cb : List UInt8 → List UInt8} {v : Secs × Secs} {C D E : Secs} {r : Nat} {g : Int} {ls l l2 : List (List UInt8)} {x : List UInt8} {s s' : DS} {N M a : Nat} {plan : List PA} {P P' : Secs → Prop}
/-- What a crash in a Reset leaves. -/
def Either (cb : List UInt8 → List UInt8) (r : Nat) (g : Int) (ls l l2 : List (List UInt8)) (C : Secs) : Prop := Found cb r g ls l C ∨ Same cb (1 - r) (g + 1) l2 C
theorem other_01 (hr : r ≤ 1) : ((1 - r) * 2048 = 2048 ∧ r = 0) ∨ ((1 - r) * 2048 = 0 ∧ r = 1) := by
  have : r = 0 ∨ r = 1 := by omega
  rcases this with rfl | rfl <;> simp
/-- The other region's first sector is being blotted out. -/
theorem blot_found (h4 : ∀ s, (cb s).length = 4) (h : Live cb v r g ls l) (hi : Img (stepV v (.wr ((1 - r) * 2048) zero64)) C) : Found cb r g ls l C := by
  have hr := h.opn.reg
  have ho := other_01 hr
  have hlt : (1 - r) * 2048 < 4096 := by rcases ho with ⟨e, _⟩ | ⟨e, _⟩ <;> rw [e] <;> decide
  have hK : v.1 ((1 - r) * 2048) = v.2 ((1 - r) * 2048) := by
    have hge := endA_ge ls 1
    rcases h.kept ((1 - r) * 2048) hlt with e | ⟨k, e, h1, h2, _⟩
    · exact e
    · exfalso
      rcases ho with ⟨e1, e2⟩ | ⟨e1, e2⟩
      · rw [e1, e2] at e; omega
      · rw [e1, e2] at e; omega
  have hgo : genOk (v.2 ((1 - r) * 2048)) := by
    rcases ho with ⟨e1, _⟩ | ⟨e1, _⟩
    · rw [e1]; exact h.g1
    · rw [e1]; exact h.g0
  obtain ⟨q, hq, eq⟩ := hi ((1 - r) * 2048) hlt
  have eq' : C ((1 - r) * 2048) = zero64.take q ++ (v.2 ((1 - r) * 2048)).drop q := by
    rw [← hK]
    have : (stepV v (.wr ((1 - r) * 2048) zero64)).2 ((1 - r) * 2048) = zero64 := by show (if _ then _ else _) = _; rw [if_pos rfl]
    rw [this] at eq
    exact eq
  obtain ⟨t1, t2⟩ := genV_torn hgo hq
  rw [← eq'] at t1 t2
  obtain ⟨D, hD⟩ : ∃ D : Secs, D = fun m => if m = (1 - r) * 2048 then v.2 m else C m := ⟨_, rfl⟩
  have hDo : D ((1 - r) * 2048) = v.2 ((1 - r) * 2048) := by rw [hD]; simp
  have hDn : ∀ m, m ≠ (1 - r) * 2048 → C m = D m := fun m hm => by rw [hD]; simp [hm]
  have hiD : Img v D := by
    intro m hm
    by_cases e : m = (1 - r) * 2048
    · subst e
      exact ⟨64, Nat.le_refl _, by rw [hDo, hK, List.take_append_drop]⟩
    · obtain ⟨q', hq', e'⟩ := hi m hm
      refine ⟨q', hq', ?_⟩
      rw [← hDn m e, e']
      show List.take q' (if m = (1 - r) * 2048 then zero64 else v.2 m) ++ _ = _
      rw [if_neg e]
      rfl
  obtain ⟨⟨l', p1, p2, p3⟩, q0, q1⟩ := live_found h4 h hiD
  refine ⟨⟨l', p1, p2, p3.other (fun m _ hm => hDn m hm) (by rw [hDo]; exact genV_nn hgo) (by rw [hDo]; exact t2)⟩, ?_, ?_⟩
  · rcases ho with ⟨e1, _⟩ | ⟨e1, _⟩
    · rw [hDn 0 (by omega)]; exact q0
    · rw [← e1]; exact t1
  · rcases ho with ⟨e1, _⟩ | ⟨e1, _⟩
    · rw [← e1]; exact t1
    · rw [hDn 2048 (by omega)]; exact q1
theorem prefix_two {x y : PA} {p : List PA} (h : p <+: [x, y]) : p = [] ∨ p = [x] ∨ p = [x, y] := by
  match p, h with
  | [], _ => exact .inl rfl
  | [c], h =>
    obtain ⟨e, _⟩ := List.cons_prefix_cons.1 h
    exact .inr (.inl (by rw [e]))
  | c :: d :: t, h =>
    obtain ⟨e, h⟩ := List.cons_prefix_cons.1 h
    obtain ⟨e', h⟩ := List.cons_prefix_cons.1 h
    have : t = [] := List.prefix_nil.1 h
    exact .inr (.inr (by rw [e, e', this]))
theorem Fell.after2 {t : DS} (h' : Fell t s' M P) (h : Went s plan N t) : Fell s s' (N + M) P := ⟨h'.off, by rw [← h.armed]; exact h'.armed, h'.armed', by have := h.last; have := h'.last; omega, h'.len, h'.w64, h'.img⟩
theorem goodO_of {y : PA} (h : GoodZ (1 - r) 1 y) : GoodO r y := by
  cases y with
  | fl => trivial
  | wr n b => exact h.2
theorem Fell.after2' {t : DS} (h' : Fell t s' M P) (h : Went s plan N t) : Fell s s' (N + M) P := h'.after2 h
theorem planF_good2 {p : List PA} {d : Bool} (h : ∀ x ∈ p, GoodO r x) : ∀ x ∈ planF p d, GoodO r x := by
  intro x hx
  unfold planF at hx
  split at hx
  · rcases List.mem_append.1 hx with hx | hx
    · exact h x hx
    · simp only [List.mem_singleton] at hx; subst hx; trivial
  · exact h x hx
theorem OthV.congr {v v' : Secs × Secs} (h : OthV E r v) (he : EqV v' v) : OthV E r v' := by
  intro m hm
  rw [(he m hm).1, (he m hm).2]
  exact h m hm
theorem oth_fell {t : DS} {pl : List PA} (hv : OthV E r (view t)) (hP : ∀ C, Oth E r C → P C) (hb : Broke t pl N s') (hgd : ∀ x ∈ pl, GoodO r x) : Fell t s' N P :=
  hb.fell (fun _ hp _ hC => hP _ ((hv.run (fun x hx => hgd x (hp.subset hx))).img hC))
theorem planF_2 {p : List PA} {d : Bool} : (runV v (planF p d)).2 = (runV v p).2 := by
  unfold planF
  split
  · rw [runV_app]; rfl
  · rfl
set_option maxRecDepth 20000 in
theorem reset_out (h4 : ∀ s, (cb s).length = 4) (hon : On s) (h : Live cb (view s) r g ls l) (hg : g < 4611686018427387900) (h2 : ∀ x ∈ l2, x.length ≤ 16384) (hw2 : wtL l2 ≤ 65536) (L : LS) (hL : L.d = s ∧ L.region = r ∧ L.gen = g) :
    (∃ s', renewS cb L l2 = (endA 1 l2, 0, s') ∧ On s' ∧ s'.armed = s.armed ∧ (s.last ≤ s'.last ∧ s'.last ≤ s.last + 10000) ∧ Live cb (view s') (1 - r) (g + 1) l2 l2) ∨
    ∃ s' k, renewS cb L l2 = (k, 10, s') ∧ Fell s s' 10000 (Either cb r g ls l l2) := by
  obtain ⟨e1, e2, e3⟩ := hL
  have hr := h.opn.reg
  have ho := other_01 hr
  have hlt : (1 - r) * 2048 < 4096 := by rcases ho with ⟨e, _⟩ | ⟨e, _⟩ <;> rw [e] <;> decide
  have hel := endA_le l2 1
  have hel2 : endA 1 l2 ≤ 1058 := by omega
  have hge2 := endA_ge l2 1
  have hK : (view s).1 ((1 - r) * 2048) = (view s).2 ((1 - r) * 2048) := by
    have hge := endA_ge ls 1
    rcases h.kept ((1 - r) * 2048) hlt with e | ⟨k, e, h1, h2, _⟩
    · exact e
    · exfalso
      rcases ho with ⟨e1, e2⟩ | ⟨e1, e2⟩
      · rw [e1, e2] at e; omega
      · rw [e1, e2] at e; omega
  have hgn : 0 ≤ g := by
    rw [h.opn.hg]
    rcases ho with ⟨_, rfl⟩ | ⟨_, rfl⟩
    · exact genV_nn h.g0
    · exact genV_nn h.g1
  obtain ⟨gn, hgn'⟩ : ∃ n : Nat, g + 1 = (n : Int) := ⟨(g + 1).toNat, by omega⟩
  obtain ⟨gv, gk⟩ := genV_super gn (by omega)
  obtain ⟨E1, hE1⟩ : ∃ E : Secs, E = fun m => if m = (1 - r) * 2048 then zero64 else (view s).2 m := ⟨_, rfl⟩
  have hE1o : E1 ((1 - r) * 2048) = zero64 := by rw [hE1]; simp
  have hE1n : ∀ m, m ≠ (1 - r) * 2048 → E1 m = (view s).2 m := fun m hm => by rw [hE1]; simp [hm]
  have hgO : 0 ≤ genV ((view s).2 ((1 - r) * 2048)) := by
    rcases ho with ⟨e1, _⟩ | ⟨e1, _⟩
    · rw [e1]; exact genV_nn h.g1
    · rw [e1]; exact genV_nn h.g0
  have oE1 : Opn cb E1 r g l := h.opn.other (fun m _ hm => hE1n m hm) hgO (by rw [hE1o, genV_zero64]; exact hgO)
  have gE0 : genOk (E1 0) := by
    rcases ho with ⟨e1, _⟩ | ⟨e1, _⟩
    · rw [hE1n 0 (by omega)]; exact h.g0
    · rw [← e1, hE1o]; exact genOk_zero
  have gE1 : genOk (E1 2048) := by
    rcases ho with ⟨e1, _⟩ | ⟨e1, _⟩
    · rw [← e1, hE1o]; exact genOk_zero
    · rw [hE1n 2048 (by omega)]; exact h.g1
  have same1 : ∀ C, Oth E1 r C → Found cb r g ls l C := fun C hC => by
    obtain ⟨q1, q2, q3⟩ := oE1.oth hC
    exact ⟨⟨l, h.pre, List.prefix_refl _, q1⟩, by rw [q2]; exact gE0, by rw [q3]; exact gE1⟩
  have hr' : 1 - r ≤ 1 := by omega
  have hgood : ∀ {f n : Nat} {E : Secs}, 1 ≤ n → n + f ≤ 2048 → ∀ x ∈ planC E ((1 - r) * 2048) f n, GoodO r x := fun h1 h2 x hx => goodO_of (planC_good (r := 1 - r) (a := 1) h1 h2 x hx)
  unfold renewS
  rw [e1, e2, e3]
  dsimp only
  rcases super_out hon (1 - r) hr' 0 with ⟨t1, a1, w1, _⟩ | ⟨t1, a1, b1⟩
  · rw [a1]
    simp only [ne_eq, not_true_eq_false, if_false]
    have hv1 : EqV (view t1) (E1, E1) := by
      have := w1.v
      rw [superB_0] at this
      rw [hE1]
      exact this
    have ov1 : OthV E1 r (view t1) := OthV.congr (v := (E1, E1)) (fun m _ => .inr ⟨rfl, rfl⟩) hv1
    have hlen1 : ∀ m, m < 4096 → (secE t1 m).length = 64 := fun m hm => secE_len w1.on hm
    rcases clean_out ((1 - r) * 2048) 2047 t1 1 false w1.on (by omega) with ⟨t2, a2, w2⟩ | ⟨t2, a2, b2⟩
    · have a2' : cleanS t1 (1 - r) 1 = (0, t2) := a2
      rw [a2']
      simp only [not_true_eq_false, if_false]
      have gd2 := planF_good2 (d := false || !(planC (secE t1) ((1 - r) * 2048) 2047 1).isEmpty) (hgood (E := secE t1) (f := 2047) (n := 1) (by omega) (by omega))
      have gd3 := planW_goodO (r := r) (bs := flatL cb l2) (n := 1) (by omega) (by have := flatL_len (cb := cb) l2 1; omega)
      rcases puts_out (cb := cb) (1 - r) hr' l2 t2 1 w2.on (by omega) with ⟨t3, a3, w3⟩ | ⟨t3, a3, b3⟩
      · rw [a3]
        simp only [not_true_eq_false, if_false]
        rcases fl_out w3.on with ⟨t4, a4, w4, _⟩ | ⟨t4, a4, b4⟩
        · rw [a4]
          simp only [not_true_eq_false, if_false]
          have w24 := (w2.trans w3).trans w4
          have hN : (flatL cb l2).length ≤ 1058 := by have := flatL_len (cb := cb) l2 1; omega
          obtain ⟨pc, hpc⟩ : ∃ p, planF (planC (secE t1) ((1 - r) * 2048) 2047 1) (false || !(planC (secE t1) ((1 - r) * 2048) 2047 1).isEmpty) = p := ⟨_, rfl⟩
          rw [hpc] at w24 gd2
          obtain ⟨E4, hE4⟩ : ∃ E, (runV (view t1) (pc ++ planW ((1 - r) * 2048 + 1) (flatL cb l2))).2 = E := ⟨_, rfl⟩
          have hv4 : EqV (view t4) (E4, E4) := by
            have := w24.v
            rw [runV_app] at this
            rw [← hE4]
            exact this
          have ov4 : OthV E1 r (E4, E4) := by
            have h1 := ov1.run (p := pc ++ planW ((1 - r) * 2048 + 1) (flatL cb l2) ++ [.fl]) (fun x hx => by
              rcases List.mem_append.1 hx with hx | hx
              · rcases List.mem_append.1 hx with hx | hx
                · exact gd2 x hx
                · exact gd3 x hx
              · simp only [List.mem_singleton] at hx; subst hx; trivial)
            rw [runV_app] at h1
            rw [← hE4]
            exact h1
          have hbody : ∀ k, 1 ≤ k → k < 2048 → E4 ((1 - r) * 2048 + k) = if k < endA 1 l2 then (flatL cb l2)[k - 1]?.getD [] else zero64 := by
            intro k hk1 hk2
            have hfl := flatL_len (cb := cb) l2 1
            rw [← hE4, runV_app, planW_2, ← hpc, planF_2, planC_2 (E := secE t1) (base := (1 - r) * 2048) (f := 2047) (n := 1) (v := view t1) (fun m h1 h2 => ⟨rfl, hlen1 m (by omega)⟩)]
            by_cases hk : k < endA 1 l2
            · rw [if_pos (by omega), if_pos hk, show (1 - r) * 2048 + k - ((1 - r) * 2048 + 1) = k - 1 by omega]
            · rw [if_neg (by omega), if_neg hk, if_pos (by omega)]
          have hoth : ∀ m, m < 4096 → (¬ ∃ k, m = (1 - r) * 2048 + k ∧ 1 ≤ k ∧ k < 2048) → E4 m = E1 m := fun m hm hn => by
            rcases ov4 m hm with h1 | ⟨h1, _⟩
            · exact absurd h1 hn
            · exact h1
          have hsupr : E4 (r * 2048) = E1 (r * 2048) := hoth _ (by omega) (fun ⟨k, e, h1, h2⟩ => by
            rcases ho with ⟨e1, e2⟩ | ⟨e1, e2⟩
            · rw [e1, e2] at e; omega
            · rw [e1, e2] at e; omega)
          have hgr : genV (E1 (r * 2048)) = g := oE1.hg.symm
          have new : ∀ C : Secs, C ((1 - r) * 2048) = superB (g + 1) → (∀ m, m < 4096 → m ≠ (1 - r) * 2048 → C m = E4 m) → Same cb (1 - r) (g + 1) l2 C := by
            intro C c1 c2
            have hCr : C (r * 2048) = E1 (r * 2048) := by
              rw [c2 _ (by omega) (by rcases ho with ⟨e1, e2⟩ | ⟨e1, e2⟩ <;> rw [e1, e2] <;> decide), hsupr]
            have gC : genV (C ((1 - r) * 2048)) = g + 1 := by rw [c1, hgn', gv]
            have gCo : genOk (C ((1 - r) * 2048)) := by rw [c1, hgn']; exact gk
            have hb : ∀ k, 1 ≤ k → k < 2048 → C ((1 - r) * 2048 + k) = if k < endA 1 l2 then (flatL cb l2)[k - 1]?.getD [] else zero64 := fun k h1 h2 => by
              rw [c2 _ (by omega) (by omega)]; exact hbody k h1 h2
            refine ⟨⟨?_, gC.symm, lies_flat l2 1 (fun j b hb' => ?_), rec_none ?_, h2, hw2⟩, ?_, ?_⟩
            · rcases ho with ⟨e1, e2⟩ | ⟨e1, e2⟩
              · rw [e1] at gC
                rw [e2, Nat.zero_mul] at hCr hgr
                rw [gC, hCr, hgr, if_pos (by omega), e2]
              · rw [e1] at gC
                rw [e2, Nat.one_mul] at hCr hgr
                rw [gC, hCr, hgr, if_neg (by omega), e2]
            · have hj := (List.getElem?_eq_some_iff.1 hb').1
              have hfl := flatL_len (cb := cb) l2 1
              show C ((1 - r) * 2048 + (1 + j)) = b
              rw [hb (1 + j) (by omega) (by omega), if_pos (by omega), show 1 + j - 1 = j by omega, hb']
              rfl
            · show okSec 1 (C ((1 - r) * 2048 + endA 1 l2)) = false
              rw [hb _ hge2 (by omega), if_neg (by omega)]
              exact not_zero64 1
            · rcases ho with ⟨e1, e2⟩ | ⟨e1, e2⟩
              · rw [e2, Nat.zero_mul] at hCr; rw [hCr]; exact gE0
              · rw [← e1]; exact gCo
            · rcases ho with ⟨e1, e2⟩ | ⟨e1, e2⟩
              · rw [← e1]; exact gCo
              · rw [e2, Nat.one_mul] at hCr; rw [hCr]; exact gE1
          rcases super_out w4.on (1 - r) hr' (g + 1) with ⟨t5, a5, w5, _⟩ | ⟨t5, a5, b5⟩
          · left
            rw [a5]
            have wt := (w1.trans w24).trans w5
            refine ⟨t5, rfl, w5.on, wt.armed, ⟨wt.last.1, by have := wt.last.2; omega⟩, ?_⟩
            obtain ⟨E5, hE5⟩ : ∃ E : Secs, E = fun m => if m = (1 - r) * 2048 then superB (g + 1) else E4 m := ⟨_, rfl⟩
            have hv5 : EqV (view t5) (E5, E5) := by
              have := w5.v.trans (hv4.run _)
              rw [hE5]
              exact this
            have h5o : E5 ((1 - r) * 2048) = superB (g + 1) := by rw [hE5]; simp
            have h5n : ∀ m, m < 4096 → m ≠ (1 - r) * 2048 → E5 m = E4 m := fun m _ hm => by rw [hE5]; simp [hm]
            obtain ⟨n1, n2, n3⟩ := new E5 h5o h5n
            refine Live.congr (v := (E5, E5)) ⟨n1, fun k k1 k2 => ?_, fun _ _ => .inl rfl, List.prefix_refl _, fun m hm => ?_, n2, n3⟩ hv5
            · show E5 ((1 - r) * 2048 + k) = zero64
              rw [h5n _ (by omega) (by omega), hbody k (by omega) k2, if_neg (by omega)]
            · rw [← (hv5 m hm).2]
              exact secE_len w5.on hm
          · right
            rw [a5]
            refine ⟨t5, endA 1 l2, rfl, ((b5.fell (P := Either cb r g ls l l2) (fun p hp C hC => ?_)).after2' (w1.trans w24)).more (by omega) (fun _ h => h)⟩
            have hE4o : E4 ((1 - r) * 2048) = zero64 := by
              rw [hoth _ hlt (fun ⟨k, e, h1, h2⟩ => by omega), hE1o]
            rcases prefix_two hp with rfl | rfl | rfl
            · exact .inl (same1 C ((OthV.congr ov4 hv4).img hC))
            · have hC' : Img (stepV (E4, E4) (.wr ((1 - r) * 2048) (superB (g + 1)))) C := hC.congr (fun m hm => by
                have := (hv4.step (.wr ((1 - r) * 2048) (superB (g + 1)))) m hm
                exact ⟨this.1.symm, this.2.symm⟩)
              have hsame : ∀ m, m < 4096 → m ≠ (1 - r) * 2048 → C m = E4 m := fun m hm hne => by
                have := hC'.same hm (by show E4 m = if m = (1 - r) * 2048 then _ else E4 m; rw [if_neg hne])
                rw [this]
                show (if m = (1 - r) * 2048 then _ else E4 m) = E4 m
                rw [if_neg hne]
              have h2s : (stepV (E4, E4) (.wr ((1 - r) * 2048) (superB (g + 1)))).2 ((1 - r) * 2048) = superB (g + 1) := by show (if _ then _ else _) = _; rw [if_pos rfl]
              obtain ⟨q, hq, eq⟩ := hC' ((1 - r) * 2048) hlt
              rw [h2s] at eq
              have eq' : C ((1 - r) * 2048) = (superB (g + 1)).take q ++ zero64.drop q := by rw [eq, ← hE4o]; rfl
              rcases hC'.over hlt hE4o (by rw [h2s]; exact superB_len _) with e | e
              · exact .inr (new C (by rw [e, h2s]) hsame)
              · left
                obtain ⟨D, hD⟩ : ∃ D : Secs, D = fun m => if m = (1 - r) * 2048 then zero64 else C m := ⟨_, rfl⟩
                have hDo : D ((1 - r) * 2048) = zero64 := by rw [hD]; simp
                have hDn : ∀ m, m ≠ (1 - r) * 2048 → C m = D m := fun m hm => by rw [hD]; simp [hm]
                have hDoth : Oth E1 r D := by
                  intro m hm
                  by_cases hne : m = (1 - r) * 2048
                  · right; rw [hne, hDo, hE1o]
                  · rcases ov4 m hm with h1 | ⟨h1, _⟩
                    · exact .inl h1
                    · right; rw [← hDn m hne, hsame m hm hne]; exact h1
                obtain ⟨q1, q2, q3⟩ := oE1.oth hDoth
                have gCo : genOk (C ((1 - r) * 2048)) := by rw [eq', hgn']; exact genOk_pre gk hq
                refine ⟨⟨l, h.pre, List.prefix_refl _, q1.other (fun m _ hm => hDn m hm) (by rw [hDo, genV_zero64]; exact Int.le_refl _) (by rw [hDo, genV_zero64, genV_not e]; exact Int.le_refl _)⟩, ?_, ?_⟩
                · rcases ho with ⟨e1, _⟩ | ⟨e1, _⟩
                  · rw [hDn 0 (by omega), q2]; exact gE0
                  · rw [← e1]; exact gCo
                · rcases ho with ⟨e1, _⟩ | ⟨e1, _⟩
                  · rw [← e1]; exact gCo
                  · rw [hDn 2048 (by omega), q3]; exact gE1
            · right
              have hC' : Img (runV (E4, E4) [.wr ((1 - r) * 2048) (superB (g + 1)), .fl]) C := hC.congr (fun m hm => by
                have := (hv4.run [.wr ((1 - r) * 2048) (superB (g + 1)), .fl]) m hm
                exact ⟨this.1.symm, this.2.symm⟩)
              have hs : ∀ m, m < 4096 → C m = if m = (1 - r) * 2048 then superB (g + 1) else E4 m := fun m hm => hC'.same hm rfl
              exact new C (by rw [hs _ hlt, if_pos rfl]) (fun m hm hne => by rw [hs m hm, if_neg hne])
        · rw [a4]
          right
          simp only [show ¬ ((10 : Int) = 0) by omega, not_false_eq_true, if_true]
          refine ⟨t4, 0, rfl, ((oth_fell ov1 (fun C hC => .inl (same1 C hC)) (Broke.after (w2.trans w3) (b4 [])) ?_).after2' w1).more ?_ (fun _ h => h)⟩
          · intro x hx
            simp only [List.append_nil] at hx
            rcases List.mem_append.1 hx with hx | hx
            · exact gd2 x hx
            · exact gd3 x hx
          · have := flatL_len (cb := cb) l2 1; omega
      · rw [a3]
        right
        simp only [show ¬ ((10 : Int) = 0) by omega, not_false_eq_true, if_true]
        refine ⟨t3, 0, rfl, ((oth_fell ov1 (fun C hC => .inl (same1 C hC)) (Broke.after w2 b3) ?_).after2' w1).more ?_ (fun _ h => h)⟩
        · intro x hx
          rcases List.mem_append.1 hx with hx | hx
          · exact gd2 x hx
          · exact gd3 x hx
        · have := flatL_len (cb := cb) l2 1; omega
    · have a2' : cleanS t1 (1 - r) 1 = (10, t2) := a2
      rw [a2']
      right
      simp only [show ¬ ((10 : Int) = 0) by omega, not_false_eq_true, if_true]
      exact ⟨t2, 0, rfl, ((oth_fell ov1 (fun C hC => .inl (same1 C hC)) b2 (planF_good2 (hgood (by omega) (by omega)))).after2' w1).more (by omega) (fun _ h => h)⟩
  · rw [a1]
    right
    simp only [show ¬ ((10 : Int) = 0) by omega, ne_eq, not_false_eq_true, if_true]
    refine ⟨t1, 0, rfl, (b1.fell (P := Either cb r g ls l l2) (fun p hp C hC => .inl ?_)).more (by omega) (fun _ h => h)⟩
    rw [superB_0] at hp
    rcases prefix_two hp with rfl | rfl | rfl
    · exact live_found h4 h hC
    · exact blot_found h4 h hC
    · refine same1 C (OthV.img (E := E1) (r := r) (v := (E1, E1)) (fun m _ => .inr ⟨rfl, rfl⟩) ?_)
      rw [hE1]
      exact hC
end
end
section
/-! The log's calls, law by law. -/
section
variable {cb : List UInt8 → List UInt8} {L : LS} {ls l l2 : List (List UInt8)} {x : List UInt8}
/-- A log that lives, and tells l; what is synced: ls. -/
structure LOk (cb : List UInt8 → List UInt8) (L : LS) (ls l : List (List UInt8)) : Prop where
  el : L.l = l
  es : L.size = wtL l
  ea : L.at_ = endA 1 l
  ed : L.dead = false
  on : On L.d
  live : Live cb (view L.d) L.region L.gen ls l
/-- What may be found: one of S. -/
def Finds (cb : List UInt8 → List UInt8) (S : List (List UInt8) → Prop) (C : Secs) : Prop := ∃ l' r' g', S l' ∧ Same cb r' g' l' C
/-- The power went. -/
structure LDead (cb : List UInt8 → List UInt8) (L L' : LS) (N : Nat) (S : List (List UInt8) → Prop) : Prop where
  l : L'.l = L.l
  dead : L'.dead = true
  fell : Fell L.d L'.d N (Finds cb S)
theorem found_finds {r : Nat} {g : Int} {C : Secs} (h : Found cb r g ls l C) : Finds cb (fun l' => ls <+: l' ∧ l' <+: l) C := by
  obtain ⟨⟨l', h1, h2, h3⟩, h4, h5⟩ := h
  exact ⟨l', r, g, ⟨h1, h2⟩, h3, h4, h5⟩
theorem append_law (h4 : ∀ s, (cb s).length = 4) (h : LOk cb L ls l) (x : List UInt8) :
    if 16384 < x.length then appendS cb L x = (1, L) else if 65536 < x.length + 128 + wtL l then appendS cb L x = (5, L)
    else (∃ L', appendS cb L x = (0, L') ∧ LOk cb L' ls (l ++ [x]) ∧ L'.gen = L.gen ∧ L'.d.armed = L.d.armed ∧ L.d.last ≤ L'.d.last ∧ L'.d.last ≤ L.d.last + 1000) ∨ ∃ L', appendS cb L x = (10, L') ∧ LDead cb L L' 1000 (fun l' => ls <+: l' ∧ l' <+: l ++ [x]) := by
  have hu : appendS cb L x = if 16384 < x.length then (1, L) else if 65536 < x.length + 128 + L.size then (5, L) else (if (putS cb L.d L.region L.at_ x).2.1 ≠ 0 then ((putS cb L.d L.region L.at_ x).2.1, { L with d := (putS cb L.d L.region L.at_ x).2.2, dead := true }) else (0, { L with d := (putS cb L.d L.region L.at_ x).2.2, l := L.l ++ [x], size := L.size + x.length + 128, at_ := (putS cb L.d L.region L.at_ x).1 })) := by
    unfold appendS
    rw [h.ed]
    rfl
  by_cases h1 : 16384 < x.length
  · rw [if_pos h1, hu, if_pos h1]
  · rw [if_neg h1]
    by_cases h2 : 65536 < x.length + 128 + wtL l
    · rw [if_pos h2, hu, if_neg h1, h.es, if_pos h2]
    · rw [if_neg h2]
      rw [if_neg h1, h.es, if_neg h2, h.ea] at hu
      rcases append_out h4 h.on h.live (x := x) (by omega) (by omega) with ⟨s', e, on', ar, la, lv⟩ | ⟨s', k, e, hf⟩
      · left
        rw [e] at hu
        simp only [ne_eq, not_true_eq_false, if_false] at hu
        refine ⟨_, hu, ⟨by simp only [h.el], by simp only [wtL_app, wtL]; omega, rfl, h.ed, on', lv⟩, rfl, ar, la.1, la.2⟩
      · right
        rw [e] at hu
        simp only [show ¬ ((10 : Int) = 0) by omega, ne_eq, not_false_eq_true, if_true] at hu
        exact ⟨_, hu, rfl, rfl, hf.more (Nat.le_refl _) (fun C hC => found_finds hC)⟩
theorem sync_law (h4 : ∀ s, (cb s).length = 4) (h : LOk cb L ls l) :
    (∃ L', syncS L = (0, L') ∧ LOk cb L' l l ∧ L'.gen = L.gen ∧ L'.d.armed = L.d.armed ∧ L.d.last ≤ L'.d.last ∧ L'.d.last ≤ L.d.last + 1 ∧ L'.d.W = []) ∨ ∃ L', syncS L = (10, L') ∧ LDead cb L L' 1 (fun l' => ls <+: l' ∧ l' <+: l) := by
  unfold syncS
  rw [h.ed]
  simp only [Bool.false_eq_true, if_false]
  rcases sync_out h4 h.on h.live with ⟨s', e, on', ar, la, lv, hW⟩ | ⟨s', e, hf⟩
  · left
    rw [e]
    exact ⟨_, rfl, ⟨h.el, h.es, h.ea, by simp, on', lv⟩, rfl, ar, la.1, la.2, hW⟩
  · right
    rw [e]
    exact ⟨_, rfl, rfl, by simp, hf.more (Nat.le_refl _) (fun C hC => found_finds hC)⟩
/-- How much records are. -/
theorem count_eq : ∀ (l : List (List UInt8)) (n : Nat) (full : Bool), countD l n full = if ∃ x ∈ l, 16384 < x.length then (0, 1) else if full = true ∨ 65536 < n + wtL l ∧ l ≠ [] then (0, 5) else (n + wtL l, 0)
  | [], n, full => by
    rw [countD]
    cases full <;> simp [wtL]
  | x :: r, n, full => by
    rw [countD]
    by_cases h1 : 16384 < x.length
    · rw [if_pos h1, if_pos ⟨x, by simp, h1⟩]
    · rw [if_neg h1]
      have hex : (∃ y ∈ x :: r, 16384 < y.length) ↔ ∃ y ∈ r, 16384 < y.length := by simp [h1]
      rw [count_eq r n true, count_eq r (n + x.length + 128) false]
      by_cases h2 : ∃ y ∈ r, 16384 < y.length
      · rw [if_pos h2, if_pos h2, if_pos (hex.2 h2)]
        split <;> rfl
      · rw [if_neg h2, if_neg h2, if_neg (fun h => h2 (hex.1 h))]
        have hw : wtL (x :: r) = x.length + 128 + wtL r := rfl
        by_cases hf : full = true
        · subst hf
          simp
        · have hf' : full = false := by simpa using hf
          subst hf'
          simp only [Bool.false_or, decide_eq_true_eq, true_or, if_true, Bool.false_eq_true, false_or]
          by_cases h3 : 65536 < x.length + 128 + n
          · rw [if_pos h3, if_pos ⟨by omega, by simp⟩]
          · rw [if_neg h3]
            cases r with
            | nil =>
              rw [if_neg (by simp), if_neg (by simp [wtL]; omega)]
              simp only [wtL]
              congr 1
            | cons y t =>
              by_cases h4 : 65536 < n + wtL (x :: y :: t)
              · rw [if_pos ⟨by omega, by simp⟩, if_pos ⟨h4, by simp⟩]
              · rw [if_neg (fun h => h4 (by omega)), if_neg (fun h => h4 h.1), hw]
                congr 1
                omega
theorem reset_law (h4 : ∀ s, (cb s).length = 4) (h : LOk cb L ls l) (hg : L.gen < 4611686018427387900) (l2 : List (List UInt8)) :
    if ∃ x ∈ l2, 16384 < x.length then resetS cb L l2 = (1, L) else if 65536 < wtL l2 then resetS cb L l2 = (5, L)
    else (∃ L', resetS cb L l2 = (0, L') ∧ LOk cb L' l2 l2 ∧ L'.gen = L.gen + 1 ∧ L'.d.armed = L.d.armed ∧ L.d.last ≤ L'.d.last ∧ L'.d.last ≤ L.d.last + 10000) ∨ ∃ L', resetS cb L l2 = (10, L') ∧ LDead cb L L' 10000 (fun l' => (ls <+: l' ∧ l' <+: l) ∨ l' = l2) := by
  have hu : resetS cb L l2 = if (countD l2 0 false).2 ≠ 0 then ((countD l2 0 false).2, L) else (if (renewS cb L l2).2.1 ≠ 0 then ((renewS cb L l2).2.1, { L with d := (renewS cb L l2).2.2, dead := true }) else (0, ⟨(renewS cb L l2).2.2, l2, (countD l2 0 false).1, 1 - L.region, L.gen + 1, (renewS cb L l2).1, L.dead⟩)) := by
    unfold resetS
    rw [h.ed]
    rfl
  have hc := count_eq l2 0 false
  simp only [Bool.false_eq_true, false_or, Nat.zero_add] at hc
  by_cases h1 : ∃ x ∈ l2, 16384 < x.length
  · rw [if_pos h1] at hc
    rw [if_pos h1, hu, hc]
    simp
  · rw [if_neg h1] at hc
    rw [if_neg h1]
    by_cases h2 : 65536 < wtL l2
    · rw [if_pos ⟨h2, by intro e; subst e; simp [wtL] at h2⟩] at hc
      rw [if_pos h2, hu, hc]
      simp
    · rw [if_neg (fun h => h2 h.1)] at hc
      rw [if_neg h2]
      rw [hc] at hu
      simp only [ne_eq, not_true_eq_false, if_false] at hu
      rcases reset_out (l2 := l2) h4 h.on h.live hg (fun x hx => by
        rcases Nat.lt_or_ge 16384 x.length with h | h
        · exact absurd ⟨x, hx, h⟩ h1
        · exact h) (by omega) L ⟨rfl, rfl, rfl⟩ with ⟨s', e, on', ar, la, lv⟩ | ⟨s', k, e, hf⟩
      · left
        rw [e] at hu
        simp only [not_true_eq_false, if_false] at hu
        exact ⟨_, hu, ⟨rfl, rfl, rfl, h.ed, on', lv⟩, rfl, ar, la.1, la.2⟩
      · right
        rw [e] at hu
        simp only [show ¬ ((10 : Int) = 0) by omega, not_false_eq_true, if_true] at hu
        refine ⟨_, hu, rfl, rfl, hf.more (Nat.le_refl _) (fun C hC => ?_)⟩
        rcases hC with hC | hC
        · obtain ⟨l', r', g', hs, h'⟩ := found_finds hC
          exact ⟨l', r', g', .inl hs, h'⟩
        · exact ⟨l2, _, _, .inr rfl, hC⟩
end
end
end Go.Proofs.Ytcgdlmlolmfinaa
