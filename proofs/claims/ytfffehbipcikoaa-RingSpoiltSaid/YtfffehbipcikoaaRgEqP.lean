/- Plain law: the program's driver and device, and the page's rings, keep the same books. -/

import Derived.Test.YtfffehbipcikoaaRgRef6
import Derived.Test.YtfffehbipcikoaaRgRef8
import Derived.Test.YtfffehbipcikoaaRingPc
namespace Go.Proofs.Ytfffehbipcikoaa
open Go.RowKit

/-! A chain that is popped. -/
theorem walkV_form {B : List UInt8} {q : Nat} : ∀ (f : Nat) (i : Int) (L M : List Buf), walkV B q f i L = some M → L.length < 16 ∧ M.length ≤ 16 ∧ ∃ t, M = L ++ rdescAt B i :: t
  | 0, i, L, M, h => by simp [walkV] at h
  | f + 1, i, L, M, h => by
    rw [walkV] at h
    split at h
    · cases h
    · rename_i h0
      split at h
      · cases h
      · split at h
        · obtain ⟨a, b, t, ht⟩ := walkV_form f _ _ _ h
          refine ⟨by omega, b, rdescAt B (nextAt B i) :: t, ?_⟩
          rw [ht]
          simp
        · injection h with h
          subst h
          refine ⟨by omega, by simp; omega, [], rfl⟩
theorem getV_lt8 (B : List UInt8) (p : Int) : getV B p 8 < 18446744073709551616 := by
  unfold getV
  split
  · have h1 := le_take_lt (B.drop p.toNat) (8 : Int).toNat
    have h256 : (256 : Nat) ^ (8 : Int).toNat = 18446744073709551616 := by decide
    omega
  · omega
theorem wrap_big {x : Int} (h1 : 4294967296 < x) (h2 : x < 18446744073709551616) : wrap64 x < 0 ∨ 4294967296 < wrap64 x := by
  unfold wrap64
  omega
theorem chain_walk {B : List UInt8} {q : Nat} : ∀ (f : Nat) (i : Int) (after : Bool) (L : List Buf), L.length ≤ q → L.length ≤ 16 →
    chainV B q f i after L = match walkV B q f i L with
      | some M => if chainOk after (M.drop L.length) then some M else none
      | none => none
  | 0, i, after, L, _, _ => rfl
  | f + 1, i, after, L, hq, h16 => by
    by_cases h0 : (q : Int) ≤ i ∨ L.length = q ∨ L.length = 16
    · rw [chainV_c1 h0, walkV_c1 (by rcases h0 with h | h | h; exact Or.inl h; exact Or.inr (Or.inr (by omega)); exact Or.inr (Or.inl (by omega)))]
    · have h0' : ¬ ((q : Int) ≤ i ∨ 16 ≤ L.length ∨ q ≤ L.length) := by omega
      by_cases h3 : 3 < flagsAt B i
      · rw [chainV_c2 h0 (Or.inr h3), walkV_c2 h0' h3]
      · by_cases ha : 4294967296 < (descAt B i).addr
        · rw [chainV_c2 h0 (Or.inl ha)]
          cases hw : walkV B q (f + 1) i L with
          | none => rfl
          | some M =>
            obtain ⟨_, _, t, ht⟩ := walkV_form _ _ _ _ hw
            have hg := getV_lt B (16 * i) 8
            have hx : pieceB (rdescAt B i) after = false := by
              have h1 := wrap_big (x := getV B (16 * i) 8) ha (getV_lt8 _ _)
              unfold pieceB bufB rdescAt
              simp
              omega
            simp only [ht]
            rw [List.drop_left]
            simp [chainOk, hx]
        · have hd : rdescAt B i = descAt B i := by
            have hg := getV_lt B (16 * i) 8
            have ha' : getV B (16 * i) 8 ≤ 4294967296 := by
              have : (descAt B i).addr = getV B (16 * i) 8 := rfl
              omega
            unfold rdescAt descAt
            rw [show wrap64 (getV B (16 * i) 8) = getV B (16 * i) 8 from IntWalk.wrap64_in _ ⟨by omega, by omega⟩]
          have h1 : ¬ (4294967296 < (descAt B i).addr ∨ 3 < flagsAt B i) := by omega
          cases hp : pieceB (descAt B i) after
          · rw [chainV_c3 h0 h1 hp]
            cases hw : walkV B q (f + 1) i L with
            | none => rfl
            | some M =>
              obtain ⟨_, _, t, ht⟩ := walkV_form _ _ _ _ hw
              rw [hd] at ht
              simp only [ht]
              rw [List.drop_left]
              simp [chainOk, hp]
          · by_cases hf : flagsAt B i = 1 ∨ flagsAt B i = 3
            · rw [chainV_c4 h0 h1 hp hf, walkV_c4 h0' (by omega) hf, hd, chain_walk f _ _ _ (by simp; omega) (by simp; omega)]
              cases hw : walkV B q f (nextAt B i) (L ++ [descAt B i]) with
              | none => rfl
              | some M =>
                obtain ⟨_, _, t, ht⟩ := walkV_form _ _ _ _ hw
                simp only [ht]
                rw [List.drop_left]
                have e : (L ++ [descAt B i] ++ rdescAt B (nextAt B i) :: t).drop L.length = descAt B i :: rdescAt B (nextAt B i) :: t := by
                  rw [List.append_assoc, List.drop_left]
                  rfl
                rw [e]
                simp [chainOk, hp]
            · rw [chainV_c5 h0 h1 hp hf, walkV_c5 h0' (by omega) hf, hd]
              simp [chainOk, hp]
theorem pop_some {B : List UInt8} {q : Nat} {i : Int} {l : List Buf} (h : chainV B q 17 i false [] = some l) : walkV B q 17 i [] = some l ∧ bufsB l = true := by
  rw [chain_walk 17 i false [] (by simp) (by simp)] at h
  cases hw : walkV B q 17 i [] with
  | none => rw [hw] at h; cases h
  | some M =>
    rw [hw] at h
    simp only [List.length_nil, List.drop_zero] at h
    split at h
    · rename_i hc
      injection h with h
      subst h
      obtain ⟨_, h2, t, ht⟩ := walkV_form _ _ _ _ hw
      refine ⟨rfl, ?_⟩
      unfold bufsB
      rw [hc]
      simp
      exact ⟨by rw [ht]; simp, h2⟩
    · cases h
theorem pop_none {B : List UInt8} {q : Nat} {i : Int} (h : chainV B q 17 i false [] = none) : walkV B q 17 i [] = none ∨ ∃ l, walkV B q 17 i [] = some l ∧ bufsB l = false := by
  rw [chain_walk 17 i false [] (by simp) (by simp)] at h
  cases hw : walkV B q 17 i [] with
  | none => exact .inl rfl
  | some M =>
    rw [hw] at h
    simp only [List.length_nil, List.drop_zero] at h
    split at h
    · cases h
    · rename_i hc
      refine .inr ⟨M, rfl, ?_⟩
      unfold bufsB
      simp only [Bool.not_eq_true] at hc
      rw [hc]
      simp

/-! The books. -/
theorem outN_set {ch : List (List Nat)} {i : Nat} {l l' : List Nat} (h : ch[i]? = some l) : outN (ch.set i l') + (if 0 < l.length then 1 else 0) = outN ch + (if 0 < l'.length then 1 else 0) := by
  induction ch generalizing i with
  | nil => simp at h
  | cons c r ih =>
    cases i with
    | zero =>
      simp at h
      subst h
      unfold outN
      simp only [List.set_cons_zero, List.filter_cons]
      by_cases h1 : 0 < c.length <;> by_cases h2 : 0 < l'.length <;> simp [h1, h2]
    | succ i =>
      have := ih (i := i) (by simpa using h)
      unfold outN at this ⊢
      simp only [List.set_cons_succ, List.filter_cons]
      by_cases h1 : 0 < c.length <;> simp [h1] <;> omega
structure Both (q : Nat) (bz : List Bool) (wy : List (Int × List Nat)) (ls : List (Int × Int)) (ch : List (List Nat)) (ws : List Int) (A : List Fl) : Prop where
  held : Held bz wy ls A
  ch1 : ∀ f ∈ A, ch[f.h]? = some f.own ∧ ws[f.h]? = some (wsum f.L)
  ch0 : ∀ h, h < q → (∀ f ∈ A, f.h ≠ h) → ch[h]? = some []
  out : outN ch = A.length
  len : bz.length = q ∧ ch.length = q ∧ ws.length = q
theorem Both.start {q : Nat} : Both q (List.replicate q false) [] [] (List.replicate q []) (List.replicate q 0) [] := by
  refine ⟨⟨by simp, by simp, ?_, by simp, by simp, by simp, by simp, by simp, rfl⟩, by simp, ?_, ?_, ⟨by simp, by simp, by simp⟩⟩
  · intro x
    simp [List.getElem?_replicate]
  · intro h hh _
    simp [hh]
  · unfold outN
    rw [List.filter_eq_nil_iff.2 (by intro a ha; rw [List.eq_of_mem_replicate ha]; simp)]
    rfl
section
variable {q : Nat} {bz : List Bool} {wy : List (Int × List Nat)} {ls : List (Int × Int)} {ch : List (List Nat)} {ws : List Int} {A : List Fl}
theorem Both.h_lt (h : Both q bz wy ls ch ws A) {f : Fl} (hf : f ∈ A) : f.h < q := by
  have := (h.held.bt f.h).2 (h.held.h_flat hf)
  have := (List.getElem?_eq_some_iff.1 this).1
  have := h.len.1
  omega
theorem Both.add (h : Both q bz wy ls ch ws A) {L : List Buf} (hL : bufsB L = true) (hf : L.length ≤ freeN bz) {o0 : Nat} (ho : (takes bz L.length)[0]? = some o0) :
    Both q (setAll bz (takes bz L.length) true) (wy ++ [((o0 : Int), takes bz L.length)]) (ls ++ [((o0 : Int), wsum L)]) (ch.set o0 (takes bz L.length)) (ws.set o0 (wsum L)) (⟨takes bz L.length, L⟩ :: A) := by
  have hH := h.held.add hL hf ho
  have hh : (⟨takes bz L.length, L⟩ : Fl).h = o0 := by
    unfold Fl.h
    cases hc : takes bz L.length with
    | nil => rw [hc] at ho; simp at ho
    | cons y r => rw [hc] at ho; simpa using ho
  have hfr : bz[o0]? = some false := takes_mem (List.mem_of_getElem? ho)
  have hq : o0 < q := by rw [← h.len.1]; exact (List.getElem?_eq_some_iff.1 hfr).1
  have hno : ∀ f ∈ A, f.h ≠ o0 := fun f hf e => by
    have := (h.held.bt f.h).2 (h.held.h_flat hf)
    rw [e, hfr] at this
    cases this
  have hlen : (takes bz L.length).length = L.length := by rw [takes_length]; omega
  have hpos := bufsB_pos hL
  have hc0 := h.ch0 o0 hq hno
  refine ⟨hH, ?_, ?_, ?_, ?_⟩
  · intro f hfm
    rcases List.mem_cons.1 hfm with rfl | hfm
    · rw [hh]
      exact ⟨List.getElem?_set_self (by rw [h.len.2.1]; exact hq), List.getElem?_set_self (by rw [h.len.2.2]; exact hq)⟩
    · have hne : o0 ≠ f.h := fun e => hno f hfm e.symm
      rw [List.getElem?_set_ne hne, List.getElem?_set_ne hne]
      exact h.ch1 f hfm
  · intro x hx hn
    have hne : o0 ≠ x := fun e => hn _ (List.mem_cons_self) (by rw [hh]; exact e)
    rw [List.getElem?_set_ne hne]
    exact h.ch0 x hx (fun f hf => hn f (List.mem_cons_of_mem _ hf))
  · have := outN_set (l' := takes bz L.length) hc0
    rw [h.out] at this
    simp at this ⊢
    rw [if_pos (by omega)] at this
    exact this
  · rw [setAll_length, List.length_set, List.length_set]
    exact h.len
theorem Both.del {f : Fl} (h : Both q bz wy ls ch ws (f :: A)) :
    Both q (setAll bz f.own false) (delW wy (f.h : Nat)) (delL ls (f.h : Nat)) (ch.set f.h []) ws A := by
  have hH := h.held.del
  have hq := h.h_lt (f := f) (by simp)
  obtain ⟨f1, f2, _, _⟩ := h.held.ok f (by simp)
  have hpos := bufsB_pos f1
  have hc := (h.ch1 f (by simp)).1
  have hnd := h.held.nd
  rw [List.flatMap_cons, List.nodup_append] at hnd
  have hne : ∀ g ∈ A, g.h ≠ f.h := fun g hg e => by
    obtain ⟨g1, g2, _⟩ := h.held.ok g (by simp [hg])
    exact hnd.2.2 _ (Fl.h_mem (f := f) (by omega)) _ (List.mem_flatMap.2 ⟨g, hg, Fl.h_mem (by have := bufsB_pos g1; omega)⟩) e.symm
  refine ⟨hH, ?_, ?_, ?_, ?_⟩
  · intro g hg
    rw [List.getElem?_set_ne (fun e => hne g hg e.symm)]
    exact h.ch1 g (by simp [hg])
  · intro x hx hn
    by_cases e : f.h = x
    · subst e
      exact List.getElem?_set_self (by rw [h.len.2.1]; exact hq)
    · rw [List.getElem?_set_ne e]
      refine h.ch0 x hx (fun g hg => ?_)
      rcases List.mem_cons.1 hg with rfl | hg
      · exact e
      · exact hn g hg
  · have := outN_set (l' := []) hc
    rw [h.out] at this
    simp at this ⊢
    rw [if_pos (by omega)] at this
    omega
  · rw [setAll_length, List.length_set]
    exact h.len
/-- What came back is refused by both, or taken by both. -/
theorem Both.used (h : Both q bz wy ls ch ws A) (hd nn : Nat) (k : Int) :
    (((wy.length : Int) < k ∨ lookW wy (hd : Nat) = none ∨ lookL ls (hd : Nat) < nn) ∧ ((outN ch : Int) < k ∨ q ≤ hd ∨ ch[hd]? = some [] ∨ ∃ x, ws[hd]? = some x ∧ x < nn)) ∨
    (∃ own x A', k ≤ (wy.length : Int) ∧ lookW wy (hd : Nat) = some own ∧ (nn : Int) ≤ lookL ls (hd : Nat) ∧ (∀ y ∈ own, y < bz.length) ∧
      k ≤ (outN ch : Int) ∧ hd < q ∧ ch[hd]? = some own ∧ 0 < own.length ∧ ws[hd]? = some x ∧ (nn : Int) ≤ x ∧
      Both q (setAll bz own false) (delW wy (hd : Nat)) (delL ls (hd : Nat)) (ch.set hd []) ws A') := by
  have hw := h.held.wl
  have ho := h.out
  by_cases h1 : (wy.length : Int) < k
  · exact .inl ⟨.inl h1, .inl (by omega)⟩
  · by_cases hA : ∃ f ∈ A, f.h = hd
    · obtain ⟨f, hf, rfl⟩ := hA
      obtain ⟨a1, a2, a3, a4⟩ := h.held.ok f hf
      obtain ⟨b1, b2⟩ := h.ch1 f hf
      have hpos := bufsB_pos a1
      by_cases hn : wsum f.L < (nn : Int)
      · exact .inl ⟨.inr (.inr (by rw [a4]; exact hn)), .inr (.inr (.inr ⟨_, b2, hn⟩))⟩
      · obtain ⟨A', hp⟩ : ∃ A', A.Perm (f :: A') := by
          obtain ⟨s, t, rfl⟩ := List.append_of_mem hf
          exact ⟨s ++ t, List.perm_middle⟩
        have hB : Both q bz wy ls ch ws (f :: A') := ⟨h.held.perm hp, fun g hg => h.ch1 g (hp.mem_iff.2 hg), fun x hx hn => h.ch0 x hx (fun g hg => hn g (hp.mem_iff.1 hg)), h.out.trans hp.length_eq, h.len⟩
        refine .inr ⟨f.own, wsum f.L, A', by omega, a3, by rw [a4]; omega, ?_, by omega, h.h_lt hf, b1, by omega, b2, by omega, hB.del⟩
        intro y hy
        have := (h.held.bt y).2 (List.mem_flatMap.2 ⟨f, hf, hy⟩)
        exact (List.getElem?_eq_some_iff.1 this).1
    · have hno : lookW wy (hd : Nat) = none := by
        unfold lookW
        rw [List.find?_eq_none.2 (fun p hp => ?_)]
        · rfl
        · intro e
          obtain ⟨f, hf, he⟩ := h.held.kw2 p.1 (List.mem_map_of_mem hp)
          have e' : p.1 = (hd : Int) := by simpa using e
          exact hA ⟨f, hf, by omega⟩
      refine .inl ⟨.inr (.inl hno), ?_⟩
      by_cases hq : q ≤ hd
      · exact .inr (.inl hq)
      · exact .inr (.inr (.inl (h.ch0 hd (by omega) (fun f hf e => hA ⟨f, hf, e⟩))))
end
end Go.Proofs.Ytfffehbipcikoaa
