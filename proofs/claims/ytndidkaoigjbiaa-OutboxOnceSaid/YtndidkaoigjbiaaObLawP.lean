/- Plain law of OutboxOnce: what holds between the acts, and what each act does to it. -/
import Derived.Test.YtndidkaoigjbiaaObRes
namespace Go.Proofs.Ytndidkaoigjbiaa
def pl (n : Nat) : ByteArray := ⟨#[UInt8.ofNat (33 + n)]⟩
def tT : ByteArray := ⟨#[116]⟩
/-- A message of that number. -/
def MN (m : Msg) (n : Nat) : Prop := m.t = tT ∧ m.p = pl n ∧ m.r = false ∧ (m.q = 1 ∨ m.q = 2)
theorem MN.ok {m : Msg} {n : Nat} (h : MN m n) : okM m = true := by
  obtain ⟨h1, h2, _, h4⟩ := h
  unfold okM
  rw [h1, h2]
  rcases h4 with h | h <;> rw [h] <;> rfl
structure Core (last : Int) (F : List Fl) (Q : List Msg) (taken came : Nat) (seen : List Int) (recd : List Bool) : Prop where
  l : 0 ≤ last ∧ last ≤ 65535
  f4 : F.length ≤ 4
  q8 : Q.length ≤ 8
  nd : (ids F).Nodup
  idr : ∀ f ∈ F, 1 ≤ f.id ∧ f.id ≤ 65535
  fm : ∀ f ∈ F, ∃ n, n < came ∧ MN f.m n ∧ seen[n]? = some f.id ∧ recd[n]? = some f.rc ∧ (f.rc = true → f.m.q = 2)
  qm : ∀ j m, Q[j]? = some m → MN m (came + j)
  cq : came + Q.length = taken
  t : taken ≤ 64
  s65 : seen.length = 65
  r65 : recd.length = 65
  s0 : ∀ n, came ≤ n → n < 65 → seen[n]? = some 0
  r0 : ∀ n, came ≤ n → n < 65 → recd[n]? = some false
section
variable {last : Int} {F : List Fl} {Q : List Msg} {taken came : Nat} {seen : List Int} {recd : List Bool}
theorem Core.ok (h : Core last F Q taken came seen recd) : okO ⟨last, F, Q⟩ := by
  refine ⟨h.l.1, h.l.2, h.f4, h.q8, fun f hf => ?_, h.nd, fun m hm => ?_⟩
  · obtain ⟨n, _, hm, _, _, hr⟩ := h.fm f hf
    have := h.idr f hf
    unfold okF
    rw [hm.ok]
    cases hc : f.rc
    · simp [this]
    · simp [this, hr hc]
  · obtain ⟨j, hj⟩ := List.getElem?_of_mem hm
    exact (h.qm j m hj).ok
/-- The packets are as they should be, one after the other: what was seen and how many came, before and behind. -/
def okL (taken : Nat) (recd : List Bool) : List Pk → List Int × Nat → List Int × Nat → Prop
  | [], x, y => y = x
  | k :: r, x, y => (k.kind ≠ 3 ∧ okL taken recd r x y) ∨ (k.kind = 3 ∧ ∃ n sn, k.p = pl n ∧ n < taken ∧ recd[n]? = some false ∧ x.1[n]? = some sn ∧ k.dup = (sn != 0) ∧ (sn ≠ 0 → sn = k.id) ∧ n ≤ x.2 ∧ 1 ≤ k.id ∧
      okL taken recd r (x.1.set n k.id, if sn = 0 then n + 1 else x.2) y)
theorem okL_app {taken : Nat} {recd : List Bool} : ∀ {A B : List Pk} {x y z : List Int × Nat}, okL taken recd A x y → okL taken recd B y z → okL taken recd (A ++ B) x z
  | [], _, _, _, _, h, h2 => by cases h; exact h2
  | _ :: _, _, _, _, _, h, h2 => by
    rcases h with ⟨h0, h⟩ | ⟨h0, n, sn, a1, a2, a3, a4, a5, a6, a7, a8, h⟩
    · exact .inl ⟨h0, okL_app h h2⟩
    · exact .inr ⟨h0, n, sn, a1, a2, a3, a4, a5, a6, a7, a8, okL_app h h2⟩
theorem fill_core : ∀ (Q : List Msg) {last : Int} {F : List Fl} {came : Nat} {seen : List Int}, Core last F Q taken came seen recd → ∃ seen',
    okL taken recd (pub0 (fillO last F Q).2) (seen, came) (seen', came + (fillO last F Q).2.length) ∧
    Core (fillO last F Q).1.last (fillO last F Q).1.F (fillO last F Q).1.Q taken (came + (fillO last F Q).2.length) seen' recd ∧
    (fillO last F Q).1.F = F ++ (fillO last F Q).2 ∧ ((fillO last F Q).1.Q = [] ∨ (fillO last F Q).1.F.length = 4) ∧ ∀ f ∈ (fillO last F Q).2, f.rc = false
  | [], last, F, came, seen, h => ⟨seen, rfl, h, by simp [fillO], .inl rfl, by simp [fillO]⟩
  | m :: Q, last, F, came, seen, h => by
    by_cases h4 : F.length < 4
    · obtain ⟨id, hid⟩ : ∃ id, nid (ids F) (F.length + 1) last = id := ⟨_, rfl⟩
      have hn := nid_new (I := ids F) h.l.1 (by rw [ids_len]; omega)
      rw [ids_len, hid] at hn
      have hm := h.qm 0 m rfl
      rw [Nat.add_zero] at hm
      have hcq := h.cq
      have ht := h.t
      simp only [List.length_cons] at hcq
      have hs0 := h.s0 came (Nat.le_refl _) (by omega)
      have hr0 := h.r0 came (Nat.le_refl _) (by omega)
      have hidsF : ids (F ++ [⟨id, m, false⟩]) = ids F ++ [id] := by simp [ids]
      have hc : Core id (F ++ [⟨id, m, false⟩]) Q taken (came + 1) (seen.set came id) recd := by
        refine ⟨by omega, by simp; omega, by have := h.q8; simp at this; omega, ?_, ?_, ?_, ?_, by omega, ht, by simp [h.s65], h.r65, ?_, fun n hn1 hn2 => h.r0 n (by omega) hn2⟩
        · rw [hidsF, List.nodup_append]
          refine ⟨h.nd, by simp, fun a ha b hb => ?_⟩
          simp only [List.mem_singleton] at hb
          subst hb
          exact fun e => hn.1 (e ▸ ha)
        · intro f hf
          rcases List.mem_append.1 hf with hf | hf
          · exact h.idr f hf
          · simp only [List.mem_singleton] at hf
            subst hf
            exact hn.2
        · intro f hf
          rcases List.mem_append.1 hf with hf | hf
          · obtain ⟨n, a1, a2, a3, a4⟩ := h.fm f hf
            exact ⟨n, by omega, a2, by rw [List.getElem?_set_ne (by omega)]; exact a3, a4⟩
          · simp only [List.mem_singleton] at hf
            subst hf
            exact ⟨came, by omega, hm, List.getElem?_set_self (by rw [h.s65]; omega), hr0, fun e => by cases e⟩
        · intro j m' hj
          have := h.qm (j + 1) m' (by simpa using hj)
          rw [show came + 1 + j = came + (j + 1) by omega]
          exact this
        · intro n hn1 hn2
          rw [List.getElem?_set_ne (by omega)]
          exact h.s0 n (by omega) hn2
      obtain ⟨seen', b1, b2, b3, b4, b5⟩ := fill_core Q hc
      have hfo : fillO last F (m :: Q) = ((fillO id (F ++ [⟨id, m, false⟩]) Q).1, ⟨id, m, false⟩ :: (fillO id (F ++ [⟨id, m, false⟩]) Q).2) := by
        rw [fillO, if_pos h4]
        simp only [hid]
      rw [hfo]
      simp only [List.length_cons]
      rw [show came + ((fillO id (F ++ [⟨id, m, false⟩]) Q).2.length + 1) = came + 1 + (fillO id (F ++ [⟨id, m, false⟩]) Q).2.length by omega]
      refine ⟨seen', .inr ⟨rfl, came, 0, hm.2.1, by omega, hr0, hs0, rfl, fun e => absurd rfl e, Nat.le_refl _, hn.2.1, ?_⟩, b2, by rw [b3, List.append_assoc]; rfl, b4, ?_⟩
      · simp only [if_true]
        exact b1
      · intro f hf
        rcases List.mem_cons.1 hf with rfl | hf
        · rfl
        · exact b5 f hf
    · have hfo : fillO last F (m :: Q) = (⟨last, F, m :: Q⟩, []) := by rw [fillO, if_neg h4]
      rw [hfo]
      exact ⟨seen, rfl, h, by simp, .inr (by have := h.f4; show F.length = 4; omega), by simp⟩
/-- What waits to be answered: one packet for each message on its way. -/
def WK (F : List Fl) (wait : List Pk) : Prop := (wait.map (·.id)).Perm (ids F) ∧ ∀ k ∈ wait, ∀ f ∈ F, k.id = f.id → (f.rc = true ∧ k = rel f.id) ∨ (f.rc = false ∧ ∃ d, k = pub f d)
theorem WK.app {S : List Fl} {wait : List Pk} (h : WK F wait) (hn : (ids (F ++ S)).Nodup) (hS : ∀ f ∈ S, f.rc = false) {d : Bool} (e : d = false) : WK (F ++ S) (wait ++ pub0 S) := by
  have hidS : (pub0 S).map (·.id) = ids S := by simp [pub0, ids, pub]
  have hids : ids (F ++ S) = ids F ++ ids S := by simp [ids]
  rw [hids, List.nodup_append] at hn
  refine ⟨by rw [List.map_append, hidS, hids]; exact h.1.append_right _, fun k hk f hf he => ?_⟩
  rcases List.mem_append.1 hk with hk | hk
  · have hkF : k.id ∈ ids F := h.1.mem_iff.1 (List.mem_map.2 ⟨k, hk, rfl⟩)
    rcases List.mem_append.1 hf with hf | hf
    · exact h.2 k hk f hf he
    · exact absurd he (hn.2.2 _ hkF _ (List.mem_map.2 ⟨f, hf, rfl⟩))
  · obtain ⟨g, hg, rfl⟩ := List.mem_map.1 hk
    have hgS : g.id ∈ ids S := List.mem_map.2 ⟨g, hg, rfl⟩
    rcases List.mem_append.1 hf with hf | hf
    · exact absurd he.symm (hn.2.2 _ (List.mem_map.2 ⟨f, hf, rfl⟩) _ hgS)
    · have : g = f := nodup_inj hn.2.1 hg hf he
      subst this
      exact .inr ⟨hS _ hg, false, rfl⟩
structure Inv (o : OB) (taken came : Nat) (seen : List Int) (recd : List Bool) (up : Bool) (wait : List Pk) : Prop where
  core : Core o.last o.F o.Q taken came seen recd
  upw : up = true → WK o.F wait ∧ (o.Q = [] ∨ o.F.length = 4)
  dnw : up = false → wait = []
end
section
variable {o : OB} {taken came : Nat} {seen : List Int} {recd : List Bool} {up : Bool} {wait : List Pk}
theorem Core.more {last : Int} {F : List Fl} {Q : List Msg} (h : Core last F Q taken came seen recd) {m : Msg} (hm : MN m taken) (h8 : Q.length < 8) (ht : taken < 64) : Core last F (Q ++ [m]) (taken + 1) came seen recd := by
  refine ⟨h.l, h.f4, by simp; omega, h.nd, h.idr, h.fm, fun j m' hj => ?_, by have := h.cq; simp; omega, by omega, h.s65, h.r65, h.s0, h.r0⟩
  by_cases e : j < Q.length
  · rw [List.getElem?_append_left e] at hj
    exact h.qm j m' hj
  · rw [List.getElem?_append_right (by omega)] at hj
    have e0 : j - Q.length = 0 := by
      have := (List.getElem?_eq_some_iff.1 hj).1
      simp at this
      omega
    rw [e0] at hj
    injection hj with hj
    subst hj
    have := h.cq
    rw [show came + j = taken by omega]
    exact hm
/-- What an act gives: what is sent, and what holds then. -/
def After (R : OB) (l : List Pk) (taken came : Nat) (seen : List Int) (recd : List Bool) (up : Bool) (wait : List Pk) : Prop :=
  ∃ seen' came', okL taken recd l (seen, came) (seen', came') ∧ Inv R taken came' seen' recd up (wait ++ l)
theorem Inv.offer_up (h : Inv o taken came seen recd true wait) {m : Msg} (hm : MN m taken) (h8 : o.Q.length < 8) (ht : taken < 64) :
    After (fillO o.last o.F (o.Q ++ [m])).1 (pub0 (fillO o.last o.F (o.Q ++ [m])).2) (taken + 1) came seen recd true wait := by
  obtain ⟨seen', a1, a2, a3, a4, a5⟩ := fill_core _ (h.core.more hm h8 ht)
  refine ⟨seen', _, a1, a2, fun _ => ⟨?_, a4⟩, fun e => by cases e⟩
  rw [a3]
  refine (h.upw rfl).1.app ?_ a5 rfl
  rw [← a3]
  exact a2.nd
theorem Inv.offer_full (h : Inv o taken came seen recd true wait) (h8 : o.Q.length = 8) : o.F.length = 4 := by
  rcases (h.upw rfl).2 with e | e
  · rw [e] at h8; cases h8
  · exact e
theorem Inv.offer_down (h : Inv o taken came seen recd false wait) {m : Msg} (hm : MN m taken) (h8 : o.Q.length < 8) (ht : taken < 64) :
    After ⟨o.last, o.F, o.Q ++ [m]⟩ [] (taken + 1) came seen recd false wait :=
  ⟨seen, came, rfl, h.core.more hm h8 ht, fun e => (by cases e), fun _ => by rw [h.dnw rfl]; rfl⟩
theorem Inv.down (h : Inv o taken came seen recd up wait) : Inv o taken came seen recd false [] := ⟨h.core, fun e => (by cases e), fun _ => rfl⟩
theorem again_ok {last : Int} {F : List Fl} {Q : List Msg} (h : Core last F Q taken came seen recd) : ∀ (G : List Fl), (∀ f ∈ G, f ∈ F) → okL taken recd (agL G) (seen, came) (seen, came)
  | [], _ => rfl
  | f :: G, hG => by
    have ih := again_ok h G (fun g hg => hG g (by simp [hg]))
    obtain ⟨n, b1, b2, b3, b4, b5⟩ := h.fm f (hG f (by simp))
    have hid := h.idr f (hG f (by simp))
    have hcq := h.cq
    cases hc : f.rc
    · have e : again f = pub f true := by unfold again; rw [hc]; rfl
      rw [hc] at b4
      refine .inr ⟨by rw [e]; rfl, n, f.id, by rw [e]; exact b2.2.1, by omega, b4, b3, ?_, fun _ => by rw [e]; rfl, by simp only; omega, by rw [e]; exact hid.1, ?_⟩
      · rw [e]
        exact (bne_iff_ne.2 (by omega)).symm
      · rw [if_neg (by omega)]
        have hset : seen.set n (again f).id = seen := by
          rw [e]
          apply List.ext_getElem?
          intro j
          by_cases ej : n = j
          · subst ej
            rw [List.getElem?_set_self (List.getElem?_eq_some_iff.1 b3).1, b3]
            rfl
          · rw [List.getElem?_set_ne ej]
        simp only [hset]
        exact ih
    · have e : again f = rel f.id := by unfold again; rw [hc]; rfl
      exact .inl ⟨by rw [e]; simp [rel], ih⟩
theorem WK.again {F : List Fl} (hn : (ids F).Nodup) : WK F (agL F) := by
  refine ⟨?_, fun k hk f hf he => ?_⟩
  · have : (agL F).map (·.id) = ids F := by
      unfold agL ids
      rw [List.map_map]
      refine List.map_congr_left fun f _ => ?_
      simp only [Function.comp, Go.Proofs.Ytndidkaoigjbiaa.again]
      split <;> rfl
    rw [this]
  · obtain ⟨g, hg, rfl⟩ := List.mem_map.1 hk
    have hgi : (Go.Proofs.Ytndidkaoigjbiaa.again g).id = g.id := by unfold Go.Proofs.Ytndidkaoigjbiaa.again; split <;> rfl
    rw [hgi] at he
    have : g = f := nodup_inj hn hg hf he
    subst this
    cases hc : g.rc
    · exact .inr ⟨rfl, true, by unfold Go.Proofs.Ytndidkaoigjbiaa.again; rw [hc]; rfl⟩
    · exact .inl ⟨rfl, by unfold Go.Proofs.Ytndidkaoigjbiaa.again; rw [hc]; rfl⟩
theorem Inv.resume (h : Inv o taken came seen recd false wait) :
    ∃ seen', okL taken recd (agL o.F ++ pub0 (fillO o.last o.F o.Q).2) (seen, came) (seen', came + (fillO o.last o.F o.Q).2.length) ∧ Inv (fillO o.last o.F o.Q).1 taken (came + (fillO o.last o.F o.Q).2.length) seen' recd true (agL o.F ++ pub0 (fillO o.last o.F o.Q).2) := by
  obtain ⟨seen', a1, a2, a3, a4, a5⟩ := fill_core _ h.core
  refine ⟨seen', okL_app (again_ok h.core o.F (fun f hf => hf)) a1, a2, fun _ => ⟨?_, a4⟩, fun e => by cases e⟩
  rw [a3]
  refine (WK.again h.core.nd).app ?_ a5 rfl
  rw [← a3]
  exact a2.nd
theorem Inv.pop {k : Pk} {r : List Pk} (h : Inv o taken came seen recd true (k :: r)) : ∃ (i : Nat) (f : Fl), o.F[i]? = some f ∧ k.id = f.id ∧ ((f.rc = true ∧ k = rel f.id) ∨ (f.rc = false ∧ ∃ d, k = pub f d)) := by
  obtain ⟨hp, hw⟩ := (h.upw rfl).1
  have hk : k.id ∈ ids o.F := hp.mem_iff.1 (by simp)
  obtain ⟨f, hf, he⟩ := List.mem_map.1 hk
  obtain ⟨i, hi⟩ := List.getElem?_of_mem hf
  exact ⟨i, f, hi, he.symm, hw k (by simp) f hf he.symm⟩
/-- How many answers are still wanted, at most. -/
def wF (F : List Fl) : Nat := (F.map fun f => if f.rc then 1 else 2).sum
def wt (o : OB) : Nat := 2 * o.Q.length + wF o.F
theorem wF_app (A B : List Fl) : wF (A ++ B) = wF A + wF B := by simp [wF]
theorem wF_new : ∀ {S : List Fl}, (∀ f ∈ S, f.rc = false) → wF S = 2 * S.length
  | [], _ => rfl
  | f :: S, h => by
    have ih := wF_new (S := S) (fun g hg => h g (by simp [hg]))
    have := h f (by simp)
    simp only [wF, List.map_cons, List.sum_cons, this, List.length_cons] at ih ⊢
    simp only [Bool.false_eq_true, if_false]
    omega
theorem split_at {F : List Fl} {i : Nat} {f : Fl} (hf : F[i]? = some f) : F = F.take i ++ f :: F.drop (i + 1) := by
  have hil := (List.getElem?_eq_some_iff.1 hf).1
  have := List.drop_eq_getElem_cons hil
  rw [(List.getElem?_eq_some_iff.1 hf).2] at this
  rw [← this, List.take_append_drop]
theorem Inv.gone {k : Pk} {r : List Pk} (h : Inv o taken came seen recd true (k :: r)) {i : Nat} {f : Fl} (hf : o.F[i]? = some f) (hk : k.id = f.id) :
    After (goneO o i).1 (pub0 (goneO o i).2) taken came seen recd true r ∧ wt (goneO o i).1 < wt o ∧
    ∃ seen', okL taken recd (pub0 (goneO o i).2) (seen, came) (seen', came + (goneO o i).2.length) ∧ Inv (goneO o i).1 taken (came + (goneO o i).2.length) seen' recd true (r ++ pub0 (goneO o i).2) := by
  have hF := split_at hf
  obtain ⟨A, hA⟩ : ∃ A, o.F.take i = A := ⟨_, rfl⟩
  obtain ⟨B, hB⟩ : ∃ B, o.F.drop (i + 1) = B := ⟨_, rfl⟩
  rw [hA, hB] at hF
  have hg : goneO o i = fillO o.last (A ++ B) o.Q := by unfold goneO; rw [hA, hB]
  obtain ⟨hp, hw⟩ := (h.upw rfl).1
  have hidF : ids o.F = ids A ++ f.id :: ids B := by rw [hF]; simp [ids]
  have hidAB : ids (A ++ B) = ids A ++ ids B := by simp [ids]
  have hmem : ∀ x ∈ A ++ B, x ∈ o.F := fun x hx => by
    rw [hF]
    rcases List.mem_append.1 hx with hx | hx
    · simp [hx]
    · simp [hx]
  have hnd := h.core.nd
  rw [hidF] at hnd
  have hperm : (ids A ++ f.id :: ids B).Perm (f.id :: (ids A ++ ids B)) := List.perm_middle
  have hnd2 := hperm.nodup_iff.1 hnd
  have hc : Core o.last (A ++ B) o.Q taken came seen recd := by
    refine ⟨h.core.l, ?_, h.core.q8, ?_, fun x hx => h.core.idr x (hmem x hx), fun x hx => h.core.fm x (hmem x hx), h.core.qm, h.core.cq, h.core.t, h.core.s65, h.core.r65, h.core.s0, h.core.r0⟩
    · have := h.core.f4
      rw [hF] at this
      simp at this ⊢
      omega
    · rw [hidAB]
      exact (List.nodup_cons.1 hnd2).2
  obtain ⟨seen', a1, a2, a3, a4, a5⟩ := fill_core _ hc
  rw [← hg] at a1 a2 a3 a4 a5
  have hpr : (r.map (·.id)).Perm (ids (A ++ B)) := by
    rw [hidF] at hp
    have := hp.trans hperm
    rw [List.map_cons, hk] at this
    rw [hidAB]
    exact this.cons_inv
  have hwr : WK (A ++ B) r := ⟨hpr, fun k' hk' g hg' he => hw k' (by simp [hk']) g (hmem g hg') he⟩
  have hI : Inv (goneO o i).1 taken (came + (goneO o i).2.length) seen' recd true (r ++ pub0 (goneO o i).2) := by
    refine ⟨a2, fun _ => ⟨?_, a4⟩, fun e => by cases e⟩
    rw [a3]
    refine hwr.app ?_ a5 rfl
    rw [← a3]
    exact a2.nd
  refine ⟨⟨seen', _, a1, hI⟩, ?_, seen', a1, hI⟩
  unfold wt
  have e1 := a2.cq
  have e2 := h.core.cq
  have e3 : wF o.F = wF A + ((if f.rc then 1 else 2) + wF B) := by rw [hF, wF_app]; simp [wF]
  have e4 : 1 ≤ (if f.rc then 1 else 2 : Nat) := by split <;> omega
  rw [a3, wF_app, wF_new a5, wF_app]
  omega
theorem Inv.rec_ {k : Pk} {r : List Pk} (h : Inv o taken came seen recd true (k :: r)) {i : Nat} {f : Fl} (hf : o.F[i]? = some f) (hk : k.id = f.id) (hr : f.rc = false) (hq : f.m.q = 2) :
    ∃ n, n < 64 ∧ f.m.p = pl n ∧ Inv ⟨o.last, setRc o.F i f, o.Q⟩ taken came seen (recd.set n true) true (r ++ [rel f.id]) ∧ wt ⟨o.last, setRc o.F i f, o.Q⟩ < wt o := by
  have hF := split_at hf
  have hil := (List.getElem?_eq_some_iff.1 hf).1
  have hFm := List.mem_of_getElem? hf
  obtain ⟨n, b1, b2, b3, b4, b5⟩ := h.core.fm f hFm
  obtain ⟨A, hA⟩ : ∃ A, o.F.take i = A := ⟨_, rfl⟩
  obtain ⟨B, hB⟩ : ∃ B, o.F.drop (i + 1) = B := ⟨_, rfl⟩
  have hS : setRc o.F i f = A ++ { f with rc := true } :: B := by
    unfold setRc
    rw [List.set_eq_take_append_cons_drop, if_pos hil, hA, hB]
  rw [hA, hB] at hF
  have hids : ids (setRc o.F i f) = ids o.F := by rw [hS, hF]; simp [ids]
  have hcq := h.core.cq
  have ht := h.core.t
  obtain ⟨hp, hw⟩ := (h.upw rfl).1
  have hmem : ∀ x ∈ setRc o.F i f, x = { f with rc := true } ∨ (x ∈ o.F ∧ x.id ≠ f.id) := fun x hx => by
    have hnd := h.core.nd
    rw [hF] at hnd
    simp only [ids, List.map_append, List.map_cons] at hnd
    have hnd2 := List.perm_middle.nodup_iff.1 hnd
    rw [List.nodup_cons] at hnd2
    rw [hS] at hx
    rcases List.mem_append.1 hx with hx | hx
    · exact .inr ⟨by rw [hF]; simp [hx], fun e => hnd2.1 (by rw [← e]; simp; exact .inl ⟨x, hx, rfl⟩)⟩
    · rcases List.mem_cons.1 hx with rfl | hx
      · exact .inl rfl
      · exact .inr ⟨by rw [hF]; simp [hx], fun e => hnd2.1 (by rw [← e]; simp; exact .inr ⟨x, hx, rfl⟩)⟩
  refine ⟨n, by omega, b2.2.1, ⟨?_, fun _ => ⟨⟨?_, fun k' hk' g hg he => ?_⟩, ?_⟩, fun e => by cases e⟩, ?_⟩
  · refine ⟨h.core.l, by simp [setRc]; exact h.core.f4, h.core.q8, by rw [hids]; exact h.core.nd, fun x hx => ?_, fun x hx => ?_, h.core.qm, hcq, ht, h.core.s65, by simp [h.core.r65], h.core.s0, fun n' h1 h2 => ?_⟩
    · rcases hmem x hx with rfl | ⟨hx, _⟩
      · exact h.core.idr f hFm
      · exact h.core.idr x hx
    · rcases hmem x hx with rfl | ⟨hx, hne⟩
      · exact ⟨n, b1, b2, b3, List.getElem?_set_self (by rw [h.core.r65]; omega), fun _ => hq⟩
      · obtain ⟨n', c1, c2, c3, c4, c5⟩ := h.core.fm x hx
        refine ⟨n', c1, c2, c3, ?_, c5⟩
        rw [List.getElem?_set_ne (fun e => ?_)]
        · exact c4
        · subst e
          rw [b3] at c3
          exact hne (Option.some.inj c3).symm
    · rw [List.getElem?_set_ne (by omega)]
      exact h.core.r0 n' h1 h2
  · rw [hids]
    rw [List.map_cons, hk] at hp
    rw [List.map_append]
    exact List.Perm.trans (List.perm_append_comm (l₁ := r.map (·.id)) (l₂ := [f.id])) hp
  · have hndw : (f.id :: r.map (·.id)).Nodup := by
      rw [List.map_cons, hk] at hp
      exact hp.nodup_iff.2 h.core.nd
    rw [List.nodup_cons] at hndw
    rcases List.mem_append.1 hk' with hk' | hk'
    · have hne : k'.id ≠ f.id := fun e => hndw.1 (e ▸ List.mem_map.2 ⟨k', hk', rfl⟩)
      rcases hmem g hg with rfl | ⟨hg, _⟩
      · exact absurd he hne
      · exact hw k' (by simp [hk']) g hg he
    · simp only [List.mem_singleton] at hk'
      subst hk'
      rcases hmem g hg with rfl | ⟨hg, hne⟩
      · exact .inl ⟨rfl, rfl⟩
      · exact absurd he.symm hne
  · have := (h.upw rfl).2
    simpa [setRc] using this
  · unfold wt
    simp only
    have e3 : wF o.F = wF A + ((if f.rc then 1 else 2) + wF B) := by rw [hF, wF_app]; simp [wF]
    have e4 : wF (setRc o.F i f) = wF A + (1 + wF B) := by rw [hS, wF_app]; simp [wF]
    rw [e3, e4, hr]
    simp only [Bool.false_eq_true, if_false]
    omega
theorem wF_le : ∀ F : List Fl, wF F ≤ 2 * F.length
  | [] => by simp [wF]
  | f :: F => by
    have := wF_le F
    simp only [wF, List.map_cons, List.sum_cons, List.length_cons] at this ⊢
    split <;> omega
theorem Inv.wt_le (h : Inv o taken came seen recd up wait) : wt o ≤ 24 := by
  have := wF_le o.F
  have := h.core.f4
  have := h.core.q8
  unfold wt
  omega
/-- None waits to be answered: all is through. -/
theorem Inv.done (h : Inv o taken came seen recd true []) : o.F = [] ∧ o.Q = [] ∧ came = taken := by
  obtain ⟨⟨hp, _⟩, hq⟩ := h.upw rfl
  have hF : o.F = [] := by
    have := hp.length_eq
    rw [ids_len] at this
    exact List.eq_nil_of_length_eq_zero (by simpa using this.symm)
  have hQ : o.Q = [] := by
    rcases hq with e | e
    · exact e
    · rw [hF] at e; cases e
  have := h.core.cq
  rw [hQ] at this
  exact ⟨hF, hQ, by simpa using this⟩
theorem Inv.start : Inv ⟨0, [], []⟩ 0 0 (List.replicate 65 0) (List.replicate 65 false) true [] := by
  refine ⟨⟨by simp, by simp, by simp, by simp [ids], by simp, by simp, by simp, by simp, by simp, by simp, by simp, fun n _ hn => ?_, fun n _ hn => ?_⟩, fun _ => ⟨⟨by simp [ids], by simp⟩, .inl rfl⟩, fun e => by cases e⟩
  · rw [List.getElem?_replicate, if_pos hn]
  · rw [List.getElem?_replicate, if_pos hn]
end
end Go.Proofs.Ytndidkaoigjbiaa
