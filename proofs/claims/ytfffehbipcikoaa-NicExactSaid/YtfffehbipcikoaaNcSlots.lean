/- Plain law: which slot each frame has. -/

import Derived.Test.YtfffehbipcikoaaNcNic
namespace Go.Proofs.Ytfffehbipcikoaa

section
variable {own : List Int} {used : List Bool} {Bk : Nat → List UInt8} {W : List (Fl × Nat)} {O G : List (Fl × Nat × List UInt8)} {f f' : Fl} {k : Nat} {b : List UInt8}
def RxS (own : List Int) (A : List (Fl × Nat)) : Prop := ∀ p ∈ A, own[p.1.h]? = some (p.2 : Int) ∧ p.2 < 16 ∧ p.1.L = [⟨((p.2 * 2048 : Nat) : Int), 2048, true⟩]
def Fr (Bk : Nat → List UInt8) (O : List (Fl × Nat × List UInt8)) : Prop := ∀ p ∈ O, slotR Bk p.2.1 p.2.2.length = p.2.2 ∧ p.2.2.length ≤ 1514
theorem rx_perm : (rxSlots W (O ++ [(f, k, b)])).Perm (rxSlots ((f, k) :: W) O) := by
  unfold rxSlots
  rw [List.map_append, ← List.append_assoc, List.cons_append]
  exact List.perm_append_singleton _ _
theorem rx_recv (h1 : RxS own (rxSlots ((f, k) :: W) O)) (h2 : ((rxSlots ((f, k) :: W) O).map (·.2)).Nodup) (h3 : Fr Bk O) (hB : (Bk (k / 32)).length = 65536) (hb : b.length ≤ 1514) :
    RxS own (rxSlots W (O ++ [(f, k, b)])) ∧ ((rxSlots W (O ++ [(f, k, b)])).map (·.2)).Nodup ∧ Fr (slotW Bk k b) (O ++ [(f, k, b)]) := by
  refine ⟨fun p hp => h1 p (rx_perm.mem_iff.1 hp), (rx_perm.map _).nodup_iff.2 h2, fun p hp => ?_⟩
  rcases List.mem_append.1 hp with hp | hp
  · obtain ⟨a, c⟩ := h3 p hp
    have hne : p.2.1 ≠ k := by
      intro e
      rw [rxSlots, List.cons_append, List.map_cons, List.nodup_cons] at h2
      exact h2.1 (by simp only [List.map_append, List.map_map, List.mem_append, List.mem_map]; exact .inr ⟨p, hp, e⟩)
    exact ⟨(slot_other hB (by omega) (by omega) hne).trans a, c⟩
  · simp only [List.mem_singleton] at hp
    subst hp
    exact ⟨slot_same hB (by omega), hb⟩
theorem rx_poll (h1 : RxS own (rxSlots W ((f, k, b) :: O))) (h2 : ((rxSlots W ((f, k, b) :: O)).map (·.2)).Nodup) (h3 : Fr Bk ((f, k, b) :: O)) (hf : f'.L = [⟨((k * 2048 : Nat) : Int), 2048, true⟩]) (hh : f'.h < own.length)
    (hd : ((W.map (·.1) ++ [f'] ++ O.map (·.1)).map Fl.h).Nodup) :
    RxS (own.set f'.h k) (rxSlots (W ++ [(f', k)]) O) ∧ ((rxSlots (W ++ [(f', k)]) O).map (·.2)).Nodup ∧ Fr Bk O := by
  have hmem : ∀ p, p ∈ rxSlots (W ++ [(f', k)]) O → p = (f', k) ∨ p ∈ W ∨ p ∈ O.map (fun p => (p.1, p.2.1)) := by
    intro p hp
    simp only [rxSlots, List.mem_append, List.mem_singleton] at hp
    rcases hp with (hp | hp) | hp
    · exact .inr (.inl hp)
    · exact .inl hp
    · exact .inr (.inr hp)
  have hk : k < 16 := (h1 (f, k) (by simp [rxSlots])).2.1
  have hd' : ∀ g, g ∈ W.map (·.1) ∨ g ∈ O.map (·.1) → f'.h ≠ g.h := by
    intro g hg e
    rw [List.map_append, List.map_append, List.nodup_append] at hd
    obtain ⟨d1, d2, d3⟩ := hd
    rw [List.nodup_append] at d1
    rcases hg with hg | hg
    · exact d1.2.2 _ (List.mem_map_of_mem hg) _ (by simp) e.symm
    · exact d3 _ (by simp) _ (List.mem_map_of_mem hg) e
  refine ⟨fun p hp => ?_, ?_, fun p hp => h3 p (by simp [hp])⟩
  · rcases hmem p hp with rfl | hp | hp
    · exact ⟨List.getElem?_set_self hh, hk, hf⟩
    · obtain ⟨a, c, d⟩ := h1 p (by simp [rxSlots, hp])
      refine ⟨?_, c, d⟩
      rw [List.getElem?_set_ne (hd' p.1 (.inl (List.mem_map_of_mem hp)))]
      exact a
    · obtain ⟨a, c, d⟩ := h1 p (by simp only [rxSlots, List.map_cons, List.mem_append, List.mem_cons]; exact .inr (.inr hp))
      refine ⟨?_, c, d⟩
      obtain ⟨x, hx, rfl⟩ := List.mem_map.1 hp
      rw [List.getElem?_set_ne (hd' x.1 (.inr (List.mem_map_of_mem hx)))]
      exact a
  · have hpm : ((rxSlots (W ++ [(f', k)]) O).map (·.2)) = ((rxSlots W ((f, k, b) :: O)).map (·.2)) := by simp [rxSlots]
    rw [hpm]
    exact h2
def TxS (own : List Int) (used : List Bool) (G : List (Fl × Nat × List UInt8)) : Prop := ∀ p ∈ G, own[p.1.h]? = some (p.2.1 : Int) ∧ p.2.1 < 64 ∧ p.1.L = [⟨((p.2.1 * 2048 : Nat) : Int), p.2.2.length, false⟩] ∧ used[p.2.1]? = some true
def Fr2 (Bk : Nat → List UInt8) (O : List (Fl × Nat × List UInt8)) : Prop := ∀ p ∈ O, slotR Bk p.2.1 p.2.2.length = p.2.2 ∧ 14 ≤ p.2.2.length ∧ p.2.2.length ≤ 1514
theorem freeN_set_true {bz : List Bool} {x : Nat} (h : bz[x]? = some false) : freeN (bz.set x true) + 1 = freeN bz := by
  have hx := (List.getElem?_eq_some_iff.1 h).1
  have h2 := freeN_set (bz := bz.set x true) (x := x) (List.getElem?_set_self hx)
  rw [List.set_set] at h2
  have : bz.set x false = bz := by
    apply List.ext_getElem?
    intro i
    by_cases e : x = i
    · subst e
      rw [List.getElem?_set_self hx, h]
    · rw [List.getElem?_set_ne e]
  rw [this] at h2
  omega
theorem tx_send (h1 : TxS own used G) (h2 : (G.map (·.2.1)).Nodup) (h3 : Fr2 Bk G) (hB : (Bk (k / 32)).length = 65536) (hb : 14 ≤ b.length ∧ b.length ≤ 1514) (hk : k < 64) (hu : used[k]? = some false) (hf : f.L = [⟨((k * 2048 : Nat) : Int), b.length, false⟩]) (hh : f.h < own.length)
    (hd : ((G.map (·.1) ++ [f]).map Fl.h).Nodup) : TxS (own.set f.h k) (used.set k true) (G ++ [(f, k, b)]) ∧ ((G ++ [(f, k, b)]).map (·.2.1)).Nodup ∧ Fr2 (slotW Bk k b) (G ++ [(f, k, b)]) := by
  have hne : ∀ p ∈ G, p.2.1 ≠ k := fun p hp e => by
    have := (h1 p hp).2.2.2
    rw [e, hu] at this
    cases this
  have hd' : ∀ p ∈ G, f.h ≠ p.1.h := fun p hp e => by
    rw [List.map_append, List.nodup_append] at hd
    exact hd.2.2 _ (List.mem_map_of_mem (List.mem_map_of_mem hp)) _ (by simp) e.symm
  refine ⟨fun p hp => ?_, ?_, fun p hp => ?_⟩
  · rcases List.mem_append.1 hp with hp | hp
    · obtain ⟨a, c, d, e⟩ := h1 p hp
      exact ⟨by rw [List.getElem?_set_ne (hd' p hp)]; exact a, c, d, by rw [List.getElem?_set_ne (fun e => hne p hp e.symm)]; exact e⟩
    · simp only [List.mem_singleton] at hp
      subst hp
      exact ⟨List.getElem?_set_self hh, hk, hf, List.getElem?_set_self (List.getElem?_eq_some_iff.1 hu).1⟩
  · rw [List.map_append, List.nodup_append]
    refine ⟨h2, by simp, fun x hx y hy => ?_⟩
    obtain ⟨p, hp, rfl⟩ := List.mem_map.1 hx
    simp only [List.map_cons, List.map_nil, List.mem_singleton] at hy
    subst hy
    exact hne p hp
  · rcases List.mem_append.1 hp with hp | hp
    · obtain ⟨a, c, d⟩ := h3 p hp
      exact ⟨(slot_other hB (by omega) (by omega) (hne p hp)).trans a, c, d⟩
    · simp only [List.mem_singleton] at hp
      subst hp
      exact ⟨slot_same hB (by omega), hb⟩
theorem tx_out (h1 : TxS own used ((f, k, b) :: G)) (h2 : (((f, k, b) :: G).map (·.2.1)).Nodup) (h3 : Fr2 Bk ((f, k, b) :: G)) : TxS own (used.set k false) G ∧ (G.map (·.2.1)).Nodup ∧ Fr2 Bk G ∧ freeN (used.set k false) = freeN used + 1 := by
  rw [List.map_cons, List.nodup_cons] at h2
  refine ⟨fun p hp => ?_, h2.2, fun p hp => h3 p (by simp [hp]), freeN_set (h1 (f, k, b) (by simp)).2.2.2⟩
  obtain ⟨a, c, d, e⟩ := h1 p (by simp [hp])
  have hne : k ≠ p.2.1 := fun e => h2.1 (List.mem_map.2 ⟨p, hp, e.symm⟩)
  exact ⟨a, c, d, by rw [List.getElem?_set_ne hne]; exact e⟩
theorem first_free : ∀ {l : List Bool}, 0 < freeN l → ∃ k : Nat, l[k]? = some false ∧ ∀ j : Nat, j < k → l[j]? = some true
  | [], h => by simp [freeN] at h
  | false :: l, _ => ⟨0, rfl, fun j hj => by omega⟩
  | true :: l, h => by
    have h' : 0 < freeN l := by simpa [freeN] using h
    obtain ⟨k, h1, h2⟩ := first_free h'
    refine ⟨k + 1, by simpa using h1, fun j hj => ?_⟩
    cases j with
    | zero => rfl
    | succ j => simpa using h2 j (by omega)
end
end Go.Proofs.Ytfffehbipcikoaa
