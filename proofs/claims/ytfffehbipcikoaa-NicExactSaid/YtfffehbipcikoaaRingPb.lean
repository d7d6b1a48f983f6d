/- Plain laws of a driver's books: what is on its way. -/

import Derived.Test.YtfffehbipcikoaaRingPa
namespace Go.Proofs.Ytfffehbipcikoaa

/-- A chain on its way: its descriptors, its pieces. -/
structure Fl where
  own : List Nat
  L : List Buf
def Fl.h (f : Fl) : Nat := f.own.headD 0

theorem freeN_set {bz : List Bool} {x : Nat} (h : bz[x]? = some true) : freeN (bz.set x false) = freeN bz + 1 := by
  induction bz generalizing x with
  | nil => simp at h
  | cons b r ih =>
    cases x with
    | zero => simp at h; subst h; simp [freeN]
    | succ x =>
      have := ih (x := x) (by simpa using h)
      cases b <;> simp [freeN] at this ⊢ <;> omega
theorem freeN_all {bz : List Bool} (h : ∀ x : Nat, bz[x]? ≠ some true) : freeN bz = bz.length := by
  induction bz with
  | nil => rfl
  | cons b r ih =>
    have h0 := h 0
    simp at h0
    subst h0
    have := ih (fun x => by have := h (x + 1); simpa using this)
    simp [freeN] at this ⊢
    exact this
theorem freeN_flat : ∀ (F : List Nat) (bz : List Bool), F.Nodup → (∀ x, bz[x]? = some true ↔ x ∈ F) → freeN bz + F.length = bz.length
  | [], bz, _, h => by rw [freeN_all (fun x hx => by have := (h x).1 hx; simp at this)]; simp
  | y :: F, bz, hn, h => by
    have hy := (h y).2 (by simp)
    have hyl := (List.getElem?_eq_some_iff.1 hy).1
    have hn' := List.nodup_cons.1 hn
    have ih := freeN_flat F (bz.set y false) hn'.2 (fun x => by
      by_cases e : y = x
      · subst e
        rw [List.getElem?_set_self hyl]
        simp [hn'.1]
      · rw [List.getElem?_set_ne e, h x]
        simp [Ne.symm e])
    rw [freeN_set hy, List.length_set] at ih
    simp
    omega
theorem freeFrom_nodup (i : Nat) (bz : List Bool) : (freeFrom i bz).Nodup := by
  induction bz generalizing i with
  | nil => simp [freeFrom]
  | cons b r ih =>
    cases b
    · simp [freeFrom]
      refine ⟨fun h => ?_, ih (i + 1)⟩
      obtain ⟨k, hk, _⟩ := freeFrom_mem h
      omega
    · simp [freeFrom]
      exact ih (i + 1)
theorem takes_nodup (bz : List Bool) (n : Nat) : (takes bz n).Nodup := (freeFrom_nodup 0 bz).sublist (List.take_sublist _ _)
theorem setAll_at (own : List Nat) (v : Bool) : ∀ (bz : List Bool) (x : Nat), x < bz.length → (setAll bz own v)[x]? = if x ∈ own then some v else bz[x]? := by
  induction own with
  | nil => intro bz x _; simp [setAll]
  | cons y r ih =>
    intro bz x hx
    have := ih (bz.set y v) x (by simpa using hx)
    show (setAll (bz.set y v) r v)[x]? = _
    rw [this]
    by_cases hr : x ∈ r
    · simp [hr]
    · rw [if_neg hr]
      by_cases e : y = x
      · subst e
        rw [List.getElem?_set_self hx]
        simp
      · rw [List.getElem?_set_ne e]
        simp [hr, Ne.symm e]

theorem lookW_app {wy : List (Int × List Nat)} {k : Int} {own : List Nat} (p : Int × List Nat) (h : lookW wy k = some own) : lookW (wy ++ [p]) k = some own := by
  unfold lookW at h ⊢
  rw [List.find?_append]
  cases hf : wy.find? (·.1 == k) with
  | none => rw [hf] at h; cases h
  | some x => rw [hf] at h; simpa using h
theorem find_new {α : Type} {wy : List (Int × α)} {k : Int} {v : α} (h : ∀ x ∈ wy.map (·.1), x ≠ k) : (wy ++ [(k, v)]).find? (·.1 == k) = some (k, v) := by
  rw [List.find?_append, List.find?_eq_none.2 (fun x hx => by have := h x.1 (List.mem_map_of_mem hx); simpa using this)]
  simp
theorem lookW_new {wy : List (Int × List Nat)} {k : Int} {own : List Nat} (h : ∀ x ∈ wy.map (·.1), x ≠ k) : lookW (wy ++ [(k, own)]) k = some own := by
  unfold lookW; rw [find_new h]; rfl
theorem lookL_new {ls : List (Int × Int)} {k v : Int} (h : ∀ x ∈ ls.map (·.1), x ≠ k) : lookL (ls ++ [(k, v)]) k = v := by
  unfold lookL; rw [find_new h]; rfl
theorem lookL_app {ls : List (Int × Int)} {k : Int} (p : Int × Int) (h : k ∈ ls.map (·.1)) : lookL (ls ++ [p]) k = lookL ls k := by
  unfold lookL
  rw [List.find?_append]
  cases hf : ls.find? (·.1 == k) with
  | none =>
    obtain ⟨x, hx, rfl⟩ := List.mem_map.1 h
    exact absurd (List.find?_eq_none.1 hf x hx) (by simp)
  | some x => simp
theorem find_del {α : Type} (l : List (Int × α)) {k j : Int} (h : j ≠ k) : (l.eraseP (·.1 == k)).find? (·.1 == j) = l.find? (·.1 == j) := by
  induction l with
  | nil => rfl
  | cons p r ih =>
    by_cases e : p.1 = k
    · have hj : (p.1 == j) = false := by simp [e]; exact fun e' => h e'.symm
      rw [List.eraseP_cons_of_pos (by simpa using e), List.find?_cons, hj]
    · rw [List.eraseP_cons_of_neg (by simpa using e), List.find?_cons, List.find?_cons, ih]
theorem keys_del {α : Type} (l : List (Int × α)) (k : Int) (hn : (l.map (·.1)).Nodup) : ((l.eraseP (·.1 == k)).map (·.1)).Nodup ∧ ∀ x ∈ (l.eraseP (·.1 == k)).map (·.1), x ∈ l.map (·.1) ∧ x ≠ k := by
  induction l with
  | nil => simp
  | cons p r ih =>
    simp only [List.map_cons, List.nodup_cons] at hn
    obtain ⟨i1, i2⟩ := ih hn.2
    by_cases e : p.1 = k
    · rw [List.eraseP_cons_of_pos (by simpa using e)]
      exact ⟨hn.2, fun x hx => ⟨by simp only [List.map_cons, List.mem_cons]; exact .inr hx, fun e' => hn.1 (by rw [e, ← e']; exact hx)⟩⟩
    · rw [List.eraseP_cons_of_neg (by simpa using e)]
      simp only [List.map_cons, List.nodup_cons, List.mem_cons]
      refine ⟨⟨fun hx => hn.1 (i2 _ hx).1, i1⟩, fun x hx => ?_⟩
      rcases hx with rfl | hx
      · exact ⟨.inl rfl, e⟩
      · exact ⟨.inr (i2 x hx).1, (i2 x hx).2⟩

/-- The books of a driver: just the chains A are on their way. -/
structure Held (bz : List Bool) (wy : List (Int × List Nat)) (ls : List (Int × Int)) (A : List Fl) : Prop where
  ok : ∀ f ∈ A, bufsB f.L = true ∧ f.own.length = f.L.length ∧ lookW wy (f.h : Nat) = some f.own ∧ lookL ls (f.h : Nat) = wsum f.L
  nd : (A.flatMap Fl.own).Nodup
  bt : ∀ x, bz[x]? = some true ↔ x ∈ A.flatMap Fl.own
  kw : (wy.map (·.1)).Nodup
  kw2 : ∀ k : Int, k ∈ wy.map (·.1) → ∃ f ∈ A, k = ((f.h : Nat) : Int)
  kl : (ls.map (·.1)).Nodup
  kl2 : ∀ k : Int, k ∈ ls.map (·.1) → ∃ f ∈ A, k = ((f.h : Nat) : Int)
  kl3 : ∀ f ∈ A, ((f.h : Nat) : Int) ∈ ls.map (·.1)
  wl : wy.length = A.length

theorem Held.perm {bz : List Bool} {wy : List (Int × List Nat)} {ls : List (Int × Int)} {A A' : List Fl} (h : Held bz wy ls A) (hp : A.Perm A') : Held bz wy ls A' := by
  have hm : ∀ f, f ∈ A' ↔ f ∈ A := fun f => (hp.mem_iff).symm
  have hf : (A.flatMap Fl.own).Perm (A'.flatMap Fl.own) := List.Perm.flatMap_right _ hp
  refine ⟨fun f hf => h.ok f ((hm f).1 hf), hf.nodup_iff.1 h.nd, fun x => (h.bt x).trans hf.mem_iff, h.kw, ?_, h.kl, ?_, fun f hf => h.kl3 f ((hm f).1 hf), h.wl.trans hp.length_eq⟩
  · intro k hk
    obtain ⟨f, h1, h2⟩ := h.kw2 k hk
    exact ⟨f, (hm f).2 h1, h2⟩
  · intro k hk
    obtain ⟨f, h1, h2⟩ := h.kl2 k hk
    exact ⟨f, (hm f).2 h1, h2⟩
theorem Fl.h_mem {f : Fl} (h : 0 < f.own.length) : f.h ∈ f.own := by
  unfold Fl.h
  cases hf : f.own with
  | nil => rw [hf] at h; simp at h
  | cons x r => simp
theorem bufsB_pos {L : List Buf} (h : bufsB L = true) : 1 ≤ L.length ∧ L.length ≤ 16 := by simp [bufsB] at h; omega
theorem Held.h_flat {bz : List Bool} {wy : List (Int × List Nat)} {ls : List (Int × Int)} {A : List Fl} (h : Held bz wy ls A) {f : Fl} (hf : f ∈ A) : f.h ∈ A.flatMap Fl.own := by
  obtain ⟨h1, h2, _⟩ := h.ok f hf
  exact List.mem_flatMap.2 ⟨f, hf, Fl.h_mem (by have := bufsB_pos h1; omega)⟩
/-- What Add asks. -/
theorem Held.free_key {bz : List Bool} {wy : List (Int × List Nat)} {ls : List (Int × Int)} {A : List Fl} (h : Held bz wy ls A) (x : Nat) (hx : bz[x]? = some false) : (∀ p ∈ wy, p.1 ≠ (x : Int)) ∧ ∀ p ∈ ls, p.1 ≠ (x : Int) := by
  have hno : ∀ f ∈ A, f.h ≠ x := fun f hf e => by
    have := (h.bt x).2 (e ▸ h.h_flat hf)
    rw [hx] at this
    cases this
  refine ⟨fun p hp e => ?_, fun p hp e => ?_⟩
  · obtain ⟨f, hf, he⟩ := h.kw2 p.1 (List.mem_map_of_mem hp)
    exact hno f hf (by omega)
  · obtain ⟨f, hf, he⟩ := h.kl2 p.1 (List.mem_map_of_mem hp)
    exact hno f hf (by omega)
theorem Held.free {bz : List Bool} {wy : List (Int × List Nat)} {ls : List (Int × Int)} {A : List Fl} (h : Held bz wy ls A) : freeN bz + (A.flatMap Fl.own).length = bz.length := freeN_flat _ _ h.nd h.bt

theorem Held.add {bz : List Bool} {wy : List (Int × List Nat)} {ls : List (Int × Int)} {A : List Fl} (h : Held bz wy ls A) {L : List Buf} (hL : bufsB L = true) (hf : L.length ≤ freeN bz) {o0 : Nat} (ho : (takes bz L.length)[0]? = some o0) :
    Held (setAll bz (takes bz L.length) true) (wy ++ [((o0 : Int), takes bz L.length)]) (ls ++ [((o0 : Int), wsum L)]) (⟨takes bz L.length, L⟩ :: A) := by
  obtain ⟨own, hown⟩ : ∃ own, takes bz L.length = own := ⟨_, rfl⟩
  have hlen : own.length = L.length := by rw [← hown, takes_length]; omega
  have hnd : own.Nodup := hown ▸ takes_nodup _ _
  have hmem : ∀ x ∈ own, bz[x]? = some false := fun x hx => takes_mem (n := L.length) (by rw [hown]; exact hx)
  rw [hown] at ho ⊢
  have hh : (⟨own, L⟩ : Fl).h = o0 := by
    unfold Fl.h
    cases hc : own with
    | nil => rw [hc] at ho; simp at ho
    | cons y r => rw [hc] at ho; simpa using ho
  have ho0 : o0 ∈ own := List.mem_of_getElem? ho
  obtain ⟨k1, k2⟩ := h.free_key o0 (hmem o0 ho0)
  have k1' : ∀ x ∈ wy.map (·.1), x ≠ (o0 : Int) := fun x hx => by obtain ⟨p, hp, rfl⟩ := List.mem_map.1 hx; exact k1 p hp
  have k2' : ∀ x ∈ ls.map (·.1), x ≠ (o0 : Int) := fun x hx => by obtain ⟨p, hp, rfl⟩ := List.mem_map.1 hx; exact k2 p hp
  have hno : ∀ x ∈ own, x ∉ A.flatMap Fl.own := fun x hx hm => by
    have := (h.bt x).2 hm
    rw [hmem x hx] at this
    cases this
  have hne : ∀ f ∈ A, ((f.h : Nat) : Int) ≠ (o0 : Int) := fun f hf e => hno o0 ho0 (by have := h.h_flat hf; rwa [show f.h = o0 by omega] at this)
  refine ⟨?_, ?_, ?_, ?_, ?_, ?_, ?_, ?_, ?_⟩
  · intro f hfm
    rcases List.mem_cons.1 hfm with rfl | hfm
    · refine ⟨hL, hlen, ?_, ?_⟩
      · rw [hh]; exact lookW_new k1'
      · rw [hh]; exact lookL_new k2'
    · obtain ⟨a1, a2, a3, a4⟩ := h.ok f hfm
      exact ⟨a1, a2, lookW_app _ a3, by rw [lookL_app _ (h.kl3 f hfm)]; exact a4⟩
  · rw [List.flatMap_cons, List.nodup_append]
    exact ⟨hnd, h.nd, fun x hx y hy e => hno x hx (e ▸ hy)⟩
  · intro x
    rw [List.flatMap_cons, List.mem_append]
    by_cases hx : x < bz.length
    · rw [setAll_at _ _ _ _ hx]
      by_cases hm : x ∈ own
      · simp [hm]
      · rw [if_neg hm, h.bt x]
        simp [hm]
    · have hn1 : (setAll bz own true)[x]? = none := by rw [List.getElem?_eq_none_iff, setAll_length]; omega
      rw [hn1]
      refine ⟨fun e => (by cases e), fun e => ?_⟩
      rcases e with e | e
      · have := (List.getElem?_eq_some_iff.1 (hmem x e)).1; omega
      · have := (List.getElem?_eq_some_iff.1 ((h.bt x).2 e)).1; omega
  · rw [List.map_append, List.nodup_append]
    exact ⟨h.kw, by simp, fun x hx y hy e => k1' x hx (by simp at hy; rw [e, hy])⟩
  · intro k hk
    rw [List.map_append, List.mem_append] at hk
    rcases hk with hk | hk
    · obtain ⟨f, a, b⟩ := h.kw2 k hk
      exact ⟨f, by simp [a], b⟩
    · simp at hk
      exact ⟨⟨own, L⟩, by simp, by rw [hh, hk]⟩
  · rw [List.map_append, List.nodup_append]
    exact ⟨h.kl, by simp, fun x hx y hy e => k2' x hx (by simp at hy; rw [e, hy])⟩
  · intro k hk
    rw [List.map_append, List.mem_append] at hk
    rcases hk with hk | hk
    · obtain ⟨f, a, b⟩ := h.kl2 k hk
      exact ⟨f, by simp [a], b⟩
    · simp at hk
      exact ⟨⟨own, L⟩, by simp, by rw [hh, hk]⟩
  · intro f hfm
    rw [List.map_append, List.mem_append]
    rcases List.mem_cons.1 hfm with rfl | hfm
    · right; rw [hh]; simp
    · left; exact h.kl3 f hfm
  · simp [h.wl]

theorem length_del {wy : List (Int × List Nat)} {k : Int} {own : List Nat} (h : lookW wy k = some own) : (delW wy k).length + 1 = wy.length := by
  induction wy with
  | nil => simp [lookW] at h
  | cons p r ih =>
    by_cases e : p.1 = k
    · simp [delW, e]
    · have e' : (p.1 == k) = false := by simpa using e
      have : lookW r k = some own := by simpa [lookW, e'] using h
      have := ih this
      simp [delW, List.eraseP_cons, e'] at this ⊢
      exact this
theorem Held.del {bz : List Bool} {wy : List (Int × List Nat)} {ls : List (Int × Int)} {A : List Fl} {f : Fl} (h : Held bz wy ls (f :: A)) :
    Held (setAll bz f.own false) (delW wy (f.h : Nat)) (delL ls (f.h : Nat)) A := by
  obtain ⟨f1, f2, f3, f4⟩ := h.ok f (by simp)
  have hfm := Fl.h_mem (f := f) (by have := bufsB_pos f1; omega)
  have hnd := h.nd
  rw [List.flatMap_cons, List.nodup_append] at hnd
  obtain ⟨n1, n2, n3⟩ := hnd
  have hne : ∀ g ∈ A, ((g.h : Nat) : Int) ≠ ((f.h : Nat) : Int) := fun g hg e => by
    obtain ⟨g1, g2, _⟩ := h.ok g (by simp [hg])
    exact n3 _ hfm _ (List.mem_flatMap.2 ⟨g, hg, Fl.h_mem (by have := bufsB_pos g1; omega)⟩) (by omega)
  obtain ⟨d1, d2⟩ := keys_del wy ((f.h : Nat) : Int) h.kw
  obtain ⟨d3, d4⟩ := keys_del ls ((f.h : Nat) : Int) h.kl
  refine ⟨?_, n2, ?_, d1, ?_, d3, ?_, ?_, ?_⟩
  · intro g hg
    obtain ⟨a1, a2, a3, a4⟩ := h.ok g (by simp [hg])
    refine ⟨a1, a2, ?_, ?_⟩
    · rw [← a3]; unfold lookW delW; rw [find_del _ (hne g hg)]
    · rw [← a4]; unfold lookL delL; rw [find_del _ (hne g hg)]
  · intro x
    have hb := h.bt x
    rw [List.flatMap_cons, List.mem_append] at hb
    by_cases hx : x < bz.length
    · rw [setAll_at _ _ _ _ hx]
      by_cases hm : x ∈ f.own
      · rw [if_pos hm]
        exact ⟨fun e => (by cases e), fun e => absurd rfl (n3 x hm x e)⟩
      · rw [if_neg hm, hb]
        simp [hm]
    · have hn1 : (setAll bz f.own false)[x]? = none := by rw [List.getElem?_eq_none_iff, setAll_length]; omega
      rw [hn1]
      refine ⟨fun e => (by cases e), fun e => ?_⟩
      have := (List.getElem?_eq_some_iff.1 (hb.2 (.inr e))).1
      omega
  · intro k hk
    obtain ⟨a, b⟩ := d2 k hk
    obtain ⟨g, hg, e⟩ := h.kw2 k a
    rcases List.mem_cons.1 hg with rfl | hg
    · exact absurd e b
    · exact ⟨g, hg, e⟩
  · intro k hk
    obtain ⟨a, b⟩ := d4 k hk
    obtain ⟨g, hg, e⟩ := h.kl2 k a
    rcases List.mem_cons.1 hg with rfl | hg
    · exact absurd e b
    · exact ⟨g, hg, e⟩
  · intro g hg
    have := h.kl3 g (by simp [hg])
    obtain ⟨p, hp, e⟩ := List.mem_map.1 this
    refine List.mem_map.2 ⟨p, ?_, e⟩
    exact (List.mem_eraseP_of_neg (by rw [e]; simpa using hne g hg)).2 hp
  · have := length_del f3
    have := h.wl
    simp at this
    omega
end Go.Proofs.Ytfffehbipcikoaa
