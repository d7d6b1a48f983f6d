/- A region whose order is drawn comes to the same in any order: pass by pass. -/
import Derived.Test.YtimjbojoeacaeaaDoorKxDraw3
namespace Go.Proofs.YtimjbojoeacaeaaDoor.Kx
section
variable {P : Program} {ops : Array Oper}

/-- What the evaluator has still to do. -/
structure Rest (ops : Array Oper) (L : Nat) (l : List OX) : Prop where
  mem : ∀ x ∈ l, XOk ops x ∧ L.testBit x.i = false
  nd : (l.map OX.i).Nodup
  cov : ∀ i o, ops[i]? = some o → L.testBit i = true ∨ ∃ x ∈ l, x.i = i
theorem Rest.perm {L : Nat} {l l' : List OX} (h : Rest ops L l) (p : l.Perm l') : Rest ops L l' :=
  ⟨fun x hx => h.mem x (p.mem_iff.2 hx), (p.map OX.i).nodup_iff.1 h.nd, fun i o ho => (h.cov i o ho).imp id fun ⟨x, hx, e⟩ => ⟨x, p.mem_iff.1 hx, e⟩⟩
theorem Rest.next {L : Nat} {x : OX} {l : List OX} (h : Rest ops L (x :: l)) : Rest ops (Nat.lor L x.bit) l := by
  have hx := (h.mem x (.head _)).1
  have hnd := h.nd
  rw [List.map_cons, List.nodup_cons] at hnd
  refine ⟨fun y hy => ⟨(h.mem y (.tail _ hy)).1, ?_⟩, hnd.2, fun i o ho => ?_⟩
  · have hne : x.i ≠ y.i := fun e => hnd.1 (List.mem_map.2 ⟨y, hy, e.symm⟩)
    rw [hx.bit, lor_test, bit_test, (h.mem y (.tail _ hy)).2]
    simp [hne]
  · rcases h.cov i o ho with h1 | ⟨y, hy, e⟩
    · left; rw [lor_test, h1]; rfl
    · cases hy with
      | head => left; exact (lor_of hx.bit).2 (.inr e.symm)
      | tail _ hy => exact .inr ⟨y, hy, e⟩

theorem pVal_mk {x : OX} {g : PG} {kept : List OX} {L : Nat} {a : Tm} {pd : List RdE} {r : XR} {e : XE} {a' : Tm} {h' : H} (h : pVal x g kept L a pd r = .mk e a' h') : ∃ v k, r = .val v k ∧ g kept (Nat.lor L x.bit) (putD x.o.dst v a) k pd = .mk e a' h' := by
  cases r with
  | no => cases h
  | call _ _ _ => cases h
  | val v k =>
    refine ⟨v, k, rfl, ?_⟩
    replace h : nF (Nat.lor L x.bit) (fun L => g kept L (putD x.o.dst v a) k pd) = .mk e a' h' := h
    rwa [nF_eq] at h
theorem pRead_mk {x : OX} {g : PG} {kept : List OX} {L : Nat} {a : Tm} {pd : List RdE} {r : XR} {e : XE} {a' : Tm} {h' : H} (h : pRead x g kept L a pd r = .mk e a' h') : ∃ v k, r = .val v k ∧ g kept (Nat.lor L x.bit) (putD x.o.dst v a) k (RdE.mk x.i x.bit x.o a v :: pd) = .mk e a' h' := by
  cases r with
  | no => cases h
  | call _ _ _ => cases h
  | val v k =>
    refine ⟨v, k, rfl, ?_⟩
    replace h : nF (Nat.lor L x.bit) (fun L => g kept L (putD x.o.dst v a) k (RdE.mk x.i x.bit x.o a v :: pd)) = .mk e a' h' := h
    rwa [nF_eq] at h
/-- One step of a pass: what it leads on to. -/
inductive Step1 (P : Program) (ops : Array Oper) (x : OX) (kept : List OX) (L : Nat) (a : Tm) (h : H) (pd : List RdE) : List OX → Nat → Tm → H → List RdE → Prop
  | keep : Step1 P ops x kept L a h pd (x :: kept) L a h pd
  | skip (hr : ∀ e ∈ x.o.after, Region.binds .any e = true → L.testBit e.on = true) (hw : wants x.o.guard ops a = some false) : Step1 P ops x kept L a h pd kept (Nat.lor L x.bit) (putD x.o.dst (.tup []) a) h pd
  | pure (hr : ∀ e ∈ x.o.after, Region.binds .any e = true → L.testBit e.on = true) (hw : wants x.o.guard ops a = some true) (v : AV) (hx : ∀ k, xop x.o.op (mkTI P) a k = .val v k) : Step1 P ops x kept L a h pd kept (Nat.lor L x.bit) (putD x.o.dst v a) h pd
  | read (hr : ∀ e ∈ x.o.after, Region.binds .any e = true → L.testBit e.on = true) (hw : wants x.o.guard ops a = some true) (hk : kd x.o.op = .read) (v : AV) (hx : xop x.o.op (mkTI P) a h = .val v h) : Step1 P ops x kept L a h pd kept (Nat.lor L x.bit) (putD x.o.dst v a) h (RdE.mk x.i x.bit x.o a v :: pd)
  | alloc (hr : ∀ e ∈ x.o.after, Region.binds .any e = true → L.testBit e.on = true) (hw : wants x.o.guard ops a = some true) (hk : kd x.o.op = .alloc) (v : AV) (ob : AObj) (hx : ∀ m, xop x.o.op (mkTI P) a ⟨m, h.next⟩ = .val v ⟨m.set h.next ob, h.next + 1⟩) : Step1 P ops x kept L a h pd kept (Nat.lor L x.bit) (putD x.o.dst v a) ⟨h.m.set h.next ob, h.next + 1⟩ pd
theorem pass1_mk {x : OX} (hx : XOk ops x) {g : PG} {kept : List OX} {L : Nat} {a : Tm} {h : H} {pd : List RdE} {e : XE} {a' : Tm} {h' : H} (hp : pass1 x (mkTI P) ops g kept L a h pd = .mk e a' h') :
    ∃ kept1 L1 a1 h1 pd1, Step1 P ops x kept L a h pd kept1 L1 a1 h1 pd1 ∧ g kept1 L1 a1 h1 pd1 = .mk e a' h' := by
  unfold pass1 at hp
  cases hr : Nat.beq (Nat.land x.m L) x.m
  · rw [hr, bi_false] at hp
    exact ⟨_, _, _, _, _, .keep, hp⟩
  · rw [hr, bi_true] at hp
    have hr : ∀ e ∈ x.o.after, Region.binds .any e = true → L.testBit e.on = true := fun e he hb => land_sub hr ((hx.m _).2 ⟨e, he, hb, rfl⟩)
    cases hw : wants x.o.guard ops a with
    | none => rw [hw] at hp; cases hp
    | some b =>
      rw [hw, oc_some] at hp
      cases b
      · rw [bi_false, nF_eq] at hp
        exact ⟨_, _, _, _, _, .skip hr hw, hp⟩
      · rw [bi_true] at hp
        cases hk : kd x.o.op with
        | eff =>
          rw [hk] at hp
          exact ⟨_, _, _, _, _, .keep, hp⟩
        | pure =>
          rw [hk] at hp
          obtain ⟨v, k, h1, h2⟩ := pVal_mk hp
          obtain ⟨rfl, h3⟩ := xop_pure hk h1
          exact ⟨_, _, _, _, _, .pure hr hw v h3, h2⟩
        | read =>
          rw [hk] at hp
          obtain ⟨v, k, h1, h2⟩ := pRead_mk hp
          have := xop_read hk h1
          subst this
          exact ⟨_, _, _, _, _, .read hr hw hk v h1, h2⟩
        | alloc =>
          rw [hk] at hp
          obtain ⟨v, k, h1, h2⟩ := pVal_mk hp
          obtain ⟨ob, h3⟩ := xop_alloc hk h1
          have h4 := h3 h.m
          rw [show (⟨h.m, h.next⟩ : H) = h from rfl, h1] at h4
          injection h4 with h5 h6
          subst h6
          exact ⟨_, _, _, _, _, .alloc hr hw hk v ob h3, h2⟩
theorem pass_fin {fin : PG} {e : XE} {a' : Tm} {h' : H} : ∀ (l : List OX) (kept : List OX) (L : Nat) (a : Tm) (h : H) (pd : List RdE), (∀ x ∈ l, XOk ops x) → passF l (mkTI P) ops fin kept L a h pd = .mk e a' h' → ∃ kept1 L1 a1 h1 pd1, fin kept1 L1 a1 h1 pd1 = .mk e a' h' ∧ ∀ x ∈ kept1, x ∈ l ∨ x ∈ kept
  | [], kept, L, a, h, pd, _, hp => ⟨kept, L, a, h, pd, hp, fun _ hx => .inr hx⟩
  | x :: r, kept, L, a, h, pd, hl, hp => by
    obtain ⟨kept1, L1, a1, h1, pd1, hs, hg⟩ := pass1_mk (hl x (.head _)) (show pass1 x (mkTI P) ops (passF r (mkTI P) ops fin) kept L a h pd = .mk e a' h' from hp)
    obtain ⟨k2, L2, a2, h2, pd2, h3, h4⟩ := pass_fin r kept1 L1 a1 h1 pd1 (fun y hy => hl y (.tail _ hy)) hg
    refine ⟨k2, L2, a2, h2, pd2, h3, fun y hy => ?_⟩
    rcases h4 y hy with h5 | h5
    · exact .inl (.tail _ h5)
    · cases hs <;> first | exact .inr h5 | skip
      cases h5 with
      | head => exact .inl (.head _)
      | tail _ h5 => exact .inr h5
variable {B0 : Nat} {g0 g : G} {h0 : H} {w0 w : World} {a0 : Tm} {n : Nat} {D : Nat → Prop} {A : Act}
theorem pass_ok (hO : Once ops) {fin : PG} {e : XE} {a' : Tm} {h' : H} : ∀ (l : List OX) (kept : List OX) (L : Nat) (a : Tm) (h : H) (pd : List RdE) (E : Nat → Tm × AV) (nb : Nat → Option Nat), Rest ops L (kept ++ l) → DInv P ops B0 g0 h0 w0 a0 n L h a pd E nb D g A w →
    passF l (mkTI P) ops fin kept L a h pd = .mk e a' h' →
    ∃ kept1 L1 a1 h1 pd1 E1 nb1, fin kept1 L1 a1 h1 pd1 = .mk e a' h' ∧ Rest ops L1 kept1 ∧ DInv P ops B0 g0 h0 w0 a0 n L1 h1 a1 pd1 E1 nb1 D g A w
  | [], kept, L, a, h, pd, E, nb, hR, hI, hp => ⟨kept, L, a, h, pd, E, nb, hp, by simpa using hR, hI⟩
  | x :: r, kept, L, a, h, pd, E, nb, hR, hI, hp => by
    have hR := hR.perm List.perm_middle
    obtain ⟨hx, hxL⟩ := hR.mem x (.head _)
    obtain ⟨kept1, L1, a1, h1, pd1, hs, hg⟩ := pass1_mk hx (show pass1 x (mkTI P) ops (passF r (mkTI P) ops fin) kept L a h pd = .mk e a' h' from hp)
    cases hs with
    | keep => exact pass_ok hO r _ _ _ _ _ E nb hR hI hg
    | skip hr hw => exact pass_ok hO r _ _ _ _ _ _ _ hR.next (hI.add hO hx.op hxL hr hx.bit (nbi := none) hI.tr hI.fr (fun _ _ h => h) (Nat.le_refl _) (fun _ h => h) (fun b h => by cases h) (.skip hw rfl)) hg
    | pure hr hw v hv => exact pass_ok hO r _ _ _ _ _ _ _ hR.next (hI.add hO hx.op hxL hr hx.bit (nbi := none) hI.tr hI.fr (fun _ _ h => h) (Nat.le_refl _) (fun _ h => h) (fun b h => by cases h) (.pure hw hv)) hg
    | read hr hw hk v hv => exact pass_ok hO r _ _ _ _ _ _ _ hR.next (hI.add hO hx.op hxL hr hx.bit (nbi := none) hI.tr hI.fr (fun _ _ h => h) (Nat.le_refl _) (fun _ h => .tail _ h) (fun b h => by cases h) (.read hw hk hv (by rw [← hx.bit]; exact .head _))) hg
    | alloc hr hw hk v ob hv =>
      refine pass_ok hO r _ _ _ _ _ _ _ hR.next (hI.add hO hx.op hxL hr hx.bit (nbi := some h.next) (hI.tr.ahead hI.fr ob) (hI.fr.ahead ob) (ext_ahead hI.fr ob _) (Nat.le_succ _) (fun _ h => h) (fun b h => by injection h with h; subst h; exact ⟨rfl, Nat.lt_succ_self _⟩) ?_) hg
      refine .alloc hw hk h.next ob rfl ?_ (hI.fr.pos _ (Nat.le_refl _)) (hI.fr.grow _ (Nat.le_refl _)) hv
      show (h.m.set h.next ob).get h.next = some ob
      rw [get_set, if_pos rfl]

/-! All orders. -/
def DL (listed : Array Bool) (i : Nat) : Prop := listed.getD i false = true
theorem DL_set {listed : Array Bool} {i : Nat} (h : i < listed.size) : DL (listed.setIfInBounds i true) = fun x => DL listed x ∨ x = i := by
  funext x
  apply propext
  unfold DL
  by_cases e : i = x
  · subst e
    simp [h, Array.getD]
  · simp only [Array.getD_eq_getD_getElem?, Array.getElem?_setIfInBounds_ne e]
    constructor
    · exact .inl
    · rintro (h | h)
      · exact h
      · exact absurd h.symm e
def unl (ops : Array Oper) (listed : Array Bool) : Nat := ((List.range ops.size).filter fun i => !listed.getD i false).length
theorem filter_lt {α : Type} {p q : α → Bool} (hpq : ∀ x, q x = true → p x = true) {x : α} (hx : p x = true) (hx' : q x = false) : ∀ {l : List α}, x ∈ l → (l.filter q).length < (l.filter p).length
  | y :: r, hm => by
    have hle : ∀ l : List α, (l.filter q).length ≤ (l.filter p).length := fun l => by
      induction l with
      | nil => simp
      | cons a r ih =>
        by_cases h1 : q a = true
        · simp only [List.filter_cons, h1, hpq a h1, if_true, List.length_cons]; omega
        · by_cases h2 : p a = true
          · simp only [List.filter_cons, h1, h2, if_true, List.length_cons]; simp; omega
          · simp only [List.filter_cons, h1, h2]; exact ih
    by_cases e : x = y
    · subst e
      simp only [List.filter_cons, hx, hx', if_true, List.length_cons]
      have := hle r
      simp
      omega
    · have hm : x ∈ r := by cases hm with | head => exact absurd rfl e | tail _ h => exact h
      have ih := filter_lt hpq hx hx' hm
      by_cases h1 : q y = true
      · simp only [List.filter_cons, h1, hpq y h1, if_true, List.length_cons]; omega
      · by_cases h2 : p y = true
        · simp only [List.filter_cons, h1, h2, if_true, List.length_cons]; simp; omega
        · simp only [List.filter_cons, h1, h2]; exact ih
theorem unl_set {listed : Array Bool} {i : Nat} (hs : listed.size = ops.size) (hi : i < ops.size) (hn : ¬ DL listed i) : unl ops (listed.setIfInBounds i true) < unl ops listed := by
  have hD := DL_set (listed := listed) (i := i) (by omega)
  have key : ∀ x, (listed.setIfInBounds i true).getD x false = true ↔ (listed.getD x false = true ∨ x = i) := fun x => by
    have := congrFun hD x
    exact Iff.of_eq this
  refine filter_lt (fun x hx => ?_) (x := i) ?_ ?_ (by simpa using hi)
  · cases h1 : listed.getD x false
    · rfl
    · rw [(key x).2 (.inl h1)] at hx; cases hx
  · cases h1 : listed.getD i false
    · rfl
    · exact absurd h1 hn
  · rw [(key i).2 (.inr rfl)]; rfl
theorem unl_zero {listed : Array Bool} (h : unl ops listed = 0) : ∀ i o, ops[i]? = some o → DL listed i := fun i o ho => by
  have hi : i < ops.size := (Array.getElem?_eq_some_iff.1 ho).1
  unfold unl at h
  have := List.eq_nil_of_length_eq_zero h
  rw [List.filter_eq_nil_iff] at this
  have := this i (by simpa using hi)
  unfold DL
  simpa using this
theorem listed_iff {listed : Array Bool} {i : Nat} (hi : i < listed.size) : listed.getD i true = false ↔ ¬ DL listed i := by
  unfold DL
  simp [Array.getD, hi]
theorem ready_of {listed : Array Bool} {i : Nat} {o : Oper} (ho : ops[i]? = some o) (hs : listed.size = ops.size) (hn : ¬ DL listed i) (hr : ∀ e ∈ o.after, Region.binds .any e = true → DL listed e.on) : i ∈ Region.ready .any ops listed := by
  have hi : i < ops.size := (Array.getElem?_eq_some_iff.1 ho).1
  exact mem_ready.2 ⟨(listed_iff (by omega)).2 hn, o, ho, hr⟩
theorem all_done (hO : Once ops) {listed : Array Bool} (hs : listed.size = ops.size) (h : Region.ready .any ops listed = []) : ∀ i o, ops[i]? = some o → DL listed i := by
  intro i
  induction i using Nat.strongRecOn with
  | _ i ih =>
    intro o ho
    by_cases hn : DL listed i
    · exact hn
    · exfalso
      have : i ∈ Region.ready .any ops listed := by
        refine ready_of ho hs hn fun e he hb => ?_
        have hlt := hO.back i o ho e he hb
        have hi : i < ops.size := (Array.getElem?_eq_some_iff.1 ho).1
        exact ih e.on hlt ops[e.on] (Array.getElem?_eq_getElem (by omega))
      rw [h] at this
      cases this
theorem wants_ok' {g : G} {a : Tm} {A : Act} {ops : Array Oper} {o : Oper} {b : Bool} (hT : ∀ t, Looks ops o t → VR g (tmD (a.get t)) (A.tmps.getD t undef)) (h : wants o.guard ops a = some b) : Region.wanted o (yielded ops A.tmps) = b := by
  unfold wants at h
  unfold Region.wanted
  cases hg : o.guard with
  | none => rw [hg] at h; injection h
  | some p =>
    obtain ⟨j, want⟩ := p
    rw [hg] at h
    simp only [oc_some, idx_eq] at h
    unfold wantD at h
    cases ho : ops.toList[j]? with
    | none => rw [ho] at h; cases h
    | some o' =>
      rw [ho] at h
      simp only [oc_some] at h
      cases hd : o'.dst with
      | none => rw [hd] at h; cases h
      | some d =>
        rw [hd] at h
        simp only [oc_some] at h
        have ho' : ops[j]? = some o' := by simpa using ho
        have hv := hT d (.inr ⟨(j, want), o', hg, ho', hd⟩)
        simp only [yielded, ho', hd, Option.bind_some]
        generalize tmD (a.get d) = x at h hv
        cases x <;> first | (cases h; done) | skip
        · rename_i c
          have hvv : A.tmps.getD d undef = .bool c := by
            generalize A.tmps.getD d undef = y at hv ⊢
            cases hv; rfl
          have hlt : d < A.tmps.size := by
            rcases Nat.lt_or_ge d A.tmps.size with h1 | h1
            · exact h1
            · simp [Array.getD, Nat.not_lt.2 h1, undef] at hvv
          have hc : A.tmps[d]? = some (.bool c) := by
            rw [Array.getElem?_eq_getElem hlt]
            simp [Array.getD, hlt] at hvv
            rw [hvv]
          rw [hc]
          have h : some (bi want c (bi c false true)) = some b := h
          injection h with h
          rw [← h]
          cases want <;> cases c <;> rfl
        · rename_i l
          have h : some false = some b := h
          injection h with h
          subst h
          obtain ⟨l', hl', _⟩ := hv.tup_inv
          cases hc : A.tmps[d]? with
          | none => rfl
          | some y =>
            have : y = .tuple l'.toArray := by
              rw [← hl', Array.getD_eq_getD_getElem?, hc]
              rfl
            subst this
            rfl
theorem ev_of {g : G} {a : Tm} {A : Act} {o : Oper} (hT : ∀ t, Looks ops o t → VR g (tmD (a.get t)) (A.tmps.getD t undef)) : ∀ x ∈ o.op.operands, VR g (ev x a) (A.eval x) := fun x hx => by
  cases x with
  | tmp t => exact hT t (.inl hx)
  | const v => exact ofV_VR g v
  | global i => exact .any _
  | func f => exact .fn (.func f) [] [] [] [] .nil .nil
theorem opsOk_mem {n : Nat} {l : List Oper} (h : opsOk n l = true) : ∀ o ∈ l, dstOk n o.dst = true := by
  induction l with
  | nil => intro o ho; cases ho
  | cons a r ih =>
    intro o ho
    replace h : bi (dstOk n a.dst) (opsOk n r) false = true := h
    obtain ⟨h1, h2⟩ := bi3 h
    cases ho with
    | head => exact h1
    | tail _ ho => exact ih h2 o ho
variable {L : Nat} {K : H} {aK : Tm} {pd : List RdE} {E : Nat → Tm × AV} {nb : Nat → Option Nat} {Q : Exit → Act → World → Prop}
/-- The model does one that the evaluator has done. -/
theorem exec_wp (hI : DInv P ops B0 g0 h0 w0 a0 n L K aK pd E nb D g A w) (hO : Once ops) {i : Nat} {o : Oper} (ho : ops[i]? = some o) (hL : L.testBit i = true) (hD : ¬ D i) (hr : ∀ e ∈ o.after, Region.binds .any e = true → D e.on) (hok : dstOk n o.dst = true) {R : Act → World → Prop}
    (hR : ∀ g1 A1 w1, DInv P ops B0 g0 h0 w0 a0 n L K aK pd E nb (fun x => D x ∨ x = i) g1 A1 w1 → R A1 w1) : wpOp P ops Q i R A w := by
  have hT := hI.he ho hL hD hr
  have hev := ev_of hT
  unfold wpOp
  simp only [ho]
  have same : ∀ (hw : wants o.guard ops (E i).1 = some true), xop o.op (mkTI P) (E i).1 K = .val (E i).2 K → (if Region.wanted o (yielded ops A.tmps) = true then o.wp P A w R Q ∨ (o.asks P A w ∧ LetsOut Q) else R (A.put o.dst undef) w) := fun hw hx => by
    rw [if_pos (wants_ok' hT hw)]
    left
    have hog := xop_good (P := P) hI.tr.hr hI.lo (fun b o hb => by
      rcases Nat.lt_or_ge b K.next with h1 | h1
      · exact h1
      · rw [hI.fr.m b h1] at hb; cases hb) (hI.fr.pos _ (Nat.le_refl _)) (hI.fr.grow _ (Nat.le_refl _)) o (E i).1 A.eval hev
    rw [hx] at hog
    obtain ⟨nx, w1, g1, v', hr1, hnx, hv, ht⟩ := hog
    have key := hR g1 (A.put o.dst v') w1 (hI.exec hO ho hL hr hok (hI.tr.trans ht) (hI.fr.tr ht) ht.le (Nat.le_trans hI.lo ht.size) (fun x hx _ => ht.old x (.inl hx)) hv)
    unfold Oper.wp
    rw [hr1]
    rcases hnx with rfl | ⟨rfl, rfl⟩
    · exact key
    · exact key
  cases hI.pend i o ho hL hD with
  | skip h1 h2 =>
    have := wants_ok' hT h1
    rw [this]
    simp only [Bool.false_eq_true, if_false]
    exact hR g _ w (hI.exec hO ho hL hr hok hI.tr hI.fr (.refl g) hI.lo (fun _ _ _ => ⟨rfl, rfl⟩) (by rw [h2]; exact .tup [] [] .nil))
  | pure h1 h2 => exact same h1 (h2 K)
  | read h1 h2 h3 h4 => exact same h1 h3
  | alloc h1 h2 b ob h3 h4 h5 h6 h7 =>
    rw [if_pos (wants_ok' hT h1)]
    left
    have hog := xop_late (P := P) (h := ⟨K.m, b⟩) (hI.tr.hr.ext fun _ => rfl) hI.lo h5 h6 o h2 (E i).1 A.eval hev
    rw [h7 K.m] at hog
    obtain ⟨nx, w1, g1, v', hr1, hnx, hv, ht⟩ := hog
    obtain ⟨_, hlo, hhi⟩ := hI.nbL i b h3
    have hfr : Fresh g1 K := ⟨hI.fr.m, fun x hx => by rw [(ht.old x (show x < b ∨ b + 1 ≤ x by omega)).1]; exact hI.fr.pos x hx, fun x hx => by rw [(ht.old x (show x < b ∨ b + 1 ≤ x by omega)).2]; exact hI.fr.grow x hx⟩
    have key := hR g1 (A.put o.dst v') w1 (hI.exec hO ho hL hr hok (hI.tr.late ht h4 hlo hhi) hfr ht.le (Nat.le_trans hI.lo ht.size) (fun x _ hne => ht.old x (by
      have : b ≠ x := fun e => hne (by rw [h3, e])
      show x < b ∨ b + 1 ≤ x
      omega)) hv)
    unfold Oper.wp
    rw [hr1]
    rcases hnx with rfl | ⟨rfl, rfl⟩
    · exact key
    · exact key
/-- From a pass's end on, in any order. -/
theorem any_stage (hO : Once ops) (hok : opsOk n ops.toList = true)
    (hend : ∀ listed g A w, listed.size = ops.size → DInv P ops B0 g0 h0 w0 a0 n L K aK pd E nb (DL listed) g A w → (∀ i o, ops[i]? = some o → DL listed i) → Q .normal A w)
    (hnext : ∀ listed g A w, listed.size = ops.size → DInv P ops B0 g0 h0 w0 a0 n L K aK pd E nb (DL listed) g A w → ∀ i o, ops[i]? = some o → ¬ DL listed i → (∀ e ∈ o.after, Region.binds .any e = true → DL listed e.on) → L.testBit i = false →
      ∀ fuel, unl ops (listed.setIfInBounds i true) ≤ fuel → wpOp P ops Q i (wpAny P .any ops Q fuel (listed.setIfInBounds i true)) A w) :
    ∀ fuel listed g A w, listed.size = ops.size → DInv P ops B0 g0 h0 w0 a0 n L K aK pd E nb (DL listed) g A w → unl ops listed ≤ fuel → wpAny P .any ops Q fuel listed A w := by
  intro fuel
  induction fuel with
  | zero =>
    intro listed g A w hs hI hf
    have hall := unl_zero (show unl ops listed = 0 by omega)
    refine ⟨?_, hend listed g A w hs hI hall⟩
    cases hr : Region.ready .any ops listed with
    | nil => rfl
    | cons i r =>
      exfalso
      obtain ⟨h1, o, ho, _⟩ := mem_ready.1 (show i ∈ Region.ready .any ops listed by rw [hr]; exact .head _)
      have hi : i < ops.size := (Array.getElem?_eq_some_iff.1 ho).1
      exact (listed_iff (by omega)).1 h1 (hall i o ho)
  | succ fuel ih =>
    intro listed g A w hs hI hf
    refine ⟨fun h => hend listed g A w hs hI (all_done hO hs h), fun i hi => ?_⟩
    obtain ⟨h1, o, ho, hr⟩ := mem_ready.1 hi
    have hi : i < ops.size := (Array.getElem?_eq_some_iff.1 ho).1
    have hn := (listed_iff (by omega)).1 h1
    have hu := unl_set hs hi hn
    cases hL : L.testBit i with
    | false => exact hnext listed g A w hs hI i o ho hn hr hL fuel (by omega)
    | true =>
      refine exec_wp hI hO ho hL hn hr (opsOk_mem hok o (by simpa using Array.mem_of_getElem? ho)) fun g1 A1 w1 hI1 => ?_
      rw [← DL_set (by omega)] at hI1
      exact ih _ g1 A1 w1 (by simpa using hs) hI1 (by omega)
theorem chk_some {b : Nat} {h : H} : ∀ {l l' : List RdE}, chk (mkTI P) b h l = some l' → ∀ p ∈ l, hasB b p.bit = true ∨ (p ∈ l' ∧ ∃ k, xop p.o.op (mkTI P) p.a h = .val p.v k)
  | [], _, _, p, hp => by cases hp
  | q :: r, l', e, p, hp => by
    replace e : bi (hasB b q.bit) (chk (mkTI P) b h r) (oc none (fun l => chk1 (xop q.o.op (mkTI P) q.a h) q l) (chk (mkTI P) b h r)) = some l' := e
    cases hq : hasB b q.bit
    · rw [hq, bi_false] at e
      cases hr : chk (mkTI P) b h r with
      | none => rw [hr] at e; cases e
      | some l =>
        rw [hr, oc_some] at e
        cases hx : xop q.o.op (mkTI P) q.a h with
        | no => rw [hx] at e; cases e
        | call _ _ _ => rw [hx] at e; cases e
        | val v k =>
          rw [hx] at e
          replace e : bi (avEq v q.v) (some (q :: l)) none = some l' := e
          cases ha : avEq v q.v
          · rw [ha] at e; cases e
          · rw [ha, bi_true] at e
            injection e with e
            subst e
            have hv := avEq_true v _ ha
            subst hv
            cases hp with
            | head => exact .inr ⟨.head _, k, hx⟩
            | tail _ hp => exact (chk_some hr p hp).imp id fun ⟨h1, h2⟩ => ⟨.tail _ h1, h2⟩
    · rw [hq, bi_true] at e
      cases hp with
      | head => exact .inl hq
      | tail _ hp => exact chk_some e p hp
theorem DInv.he_next (hI : DInv P ops B0 g0 h0 w0 a0 n L K aK pd E nb D g A w) (hO : Once ops) {i : Nat} {o : Oper} (ho : ops[i]? = some o) (hL : L.testBit i = false) (hr : ∀ e ∈ o.after, Region.binds .any e = true → D e.on) :
    ∀ t, Looks ops o t → VR g (tmD (aK.get t)) (A.tmps.getD t undef) := fun t ht => by
  have hD : ¬ D i := fun h => by have := hI.sub i h; rw [hL] at this; cases this
  rcases hI.opr_next hO ho hL (fun e he hb => hI.sub _ (hr e he hb)) t ht with ⟨k, ok, h1, h2, _, h3, h4, h5⟩ | ⟨h1, h2⟩
  · have := h4 _ (hI.cl.add ho hr) (.inr rfl)
    rw [h5]
    exact hI.done k ok t h1 (this.resolve_right h3) h2
  · rw [h2]
    refine hI.tmpA t fun k ok hk hd hDk => ?_
    by_cases e : k = i
    · subst e; exact hD hDk
    · exact hD (h1 k ok hk hd e D hI.cl hDk)
theorem DInv.tr_all (hI : DInv P ops B0 g0 h0 w0 a0 n L K aK pd E nb D g A w) (hall : ∀ i o, ops[i]? = some o → D i) : TR g aK n A := by
  refine ⟨hI.size, fun t => ?_, hI.dn⟩
  rcases hI.tmpK t with ⟨k, ok, h1, h2, h3, h4⟩ | ⟨h1, h2⟩
  · rw [h4]
    exact hI.done k ok t h1 (hall k ok h1) h2
  · rw [h2]
    refine hI.tmpA t fun k ok hk hd hDk => ?_
    have := hI.sub k hDk
    rw [h1 k ok hk hd] at this
    cases this
theorem DInv.start {B0 : Nat} {g : G} {h : H} {w : World} {a : Tm} {n : Nat} {A : Act} (hr : HR B0 g h w) (hf : Fresh g h) (hB : B0 ≤ w.heap.size) (hT : TR g a n A) (d : Nat) : DInv P ops B0 g h w a n 0 h a [] (fun _ => (.e, .any)) (fun _ => none) (DL (Array.replicate ops.size false)) g A { w with drawn := d } := by
  have hD : ∀ i, ¬ DL (Array.replicate ops.size false) i := fun i h => by
    unfold DL at h
    simp [Array.getD] at h
  have hz : ∀ i, (0 : Nat).testBit i = false := fun i => by simp
  refine ⟨fun i h => absurd h (hD i), fun i o _ h => absurd h (hD i), fun i o _ h => ?_, Tr.drew hr d, hf, hB, fun i o t _ h => ?_, fun i o d _ h => absurd h (hD i), fun i o _ h => ?_, fun t => .inr ⟨fun k _ _ _ => hz k, rfl⟩, fun t _ => hT.val t, hT.size, hT.dn, fun i b h => (by cases h), fun i j b h => (by cases h)⟩
  all_goals (simp only [hz] at h; cases h)
end
end Go.Proofs.YtimjbojoeacaeaaDoor.Kx
