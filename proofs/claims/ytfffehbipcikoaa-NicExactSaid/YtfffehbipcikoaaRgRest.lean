/- The rows that RingGoes keeps beside the ring: chains that are wanted, their heads, what came out. -/

import Derived.Test.YtfffehbipcikoaaRgRig
import Derived.Test.YtfffehbipcikoaaRow
namespace Go.Proofs.Ytfffehbipcikoaa
open Go.RowKit

def Ty (w : World) (k : Nat) (t : TypeId) : Prop := ∃ cur fl, w.heap[k]? = some (.cells cur t fl)
theorem Ty.ne {w : World} {k j : Nat} {t u : TypeId} (h : Ty w k t) (h' : Ty w j u) (hn : t ≠ u) : k ≠ j := by
  obtain ⟨c, f, h⟩ := h
  obtain ⟨c', f', h'⟩ := h'
  intro e
  subst e
  rw [h] at h'
  injection h' with h'
  injection h' with _ h' _
  exact hn h'
theorem Row.ty {w : World} {base size n k : Nat} {e : TypeId} {v : Value} {xs : List Value} (h : Row w base e size v n xs) (hk : v.ownBlock = some k) : Ty w k e := by
  rcases h.2 with ⟨rfl, _⟩ | ⟨g, off, cap, cur, rfl, hb, hg, rest⟩
  · cases hk
  · simp only [Value.ownBlock] at hk
    injection hk with hk
    subst hk
    exact ⟨_, _, hg⟩
theorem own_ty {w : World} {base size n k : Nat} {e : TypeId} {v : Value} {xs : List Value} (h : w.ownsRow base e size v n xs) (hk : v.ownBlock = some k) : Ty w k e := (Row.of_own h).ty hk
theorem own_leftB {w w' : World} {base size n : Nat} {e : TypeId} {v : Value} {xs : List Value} {S : List Nat} (h : w.ownsRow base e size v n xs) (hl : Left S w w') (hS : ∀ k ∈ S, v.ownBlock ≠ some k) : w'.ownsRow base e size v n xs := by
  refine ⟨h.1, ?_⟩
  rcases h.2 with hn | ⟨g, cap, cur, rfl, hb, hgg, rest⟩
  · exact .inl hn
  · exact .inr ⟨g, cap, cur, rfl, hb, (hl.block g (h.lt g rfl).2 (fun hm => hS g hm rfl)).trans hgg, rest⟩
def Value.ownL (v : Value) : List Nat := v.ownBlock.toList
theorem mem_ownL {v : Value} {k : Nat} : k ∈ Value.ownL v ↔ v.ownBlock = some k := by simp [Value.ownL, Option.mem_toList]
theorem left_of_grown {w w' : World} {v : Value} (hg : w.grownBy w' v.ownBlock) : Left (Value.ownL v) w w' :=
  ⟨hg.os, hg.tape, hg.output, hg.size, fun k hk hn => hg.block k hk (fun e => hn (mem_ownL.2 e.symm))⟩

def Wants (w : World) (base : Nat) (wv : Value) (want : List Fl) : Prop :=
  ∃ ws : List Value, Row w base 75 1 wv want.length ws ∧ ∀ (j : Nat) (f : Fl) (x : Value), want[j]? = some f → ws[j]? = some x → w.ownsRow base 89 3 x f.L.length (bufCells f.L)
def headCells (want : List Fl) : List Value := want.map fun f => .int .i64 (f.h : Nat)
def Heads (w : World) (base : Nat) (hv : Value) (want : List Fl) : Prop := Row w base 3 1 hv want.length (headCells want)
def outCells (out : List (Fl × Nat)) : List Value := out.flatMap fun p => [.int .i64 (p.1.L.length : Nat), .int .i64 (p.1.h : Nat)]
def Outs (w : World) (base : Nat) (ov : Value) (out : List (Fl × Nat)) : Prop := Row w base 3 1 ov (2 * out.length) (outCells out)

section
variable {w w' : World} {base : Nat} {wv hv ov : Value} {want : List Fl} {out : List (Fl × Nat)} {S : List Nat}
theorem Wants.left (h : Wants w base wv want) (hl : Left S w w') (hS : ∀ k ∈ S, k < base ∨ Ty w k 3) : Wants w' base wv want := by
  obtain ⟨ws, h1, h2⟩ := h
  refine ⟨ws, h1.left hl (fun k hk e => ?_), fun j f x hj hx => own_leftB (h2 j f x hj hx) hl (fun k hk e => ?_)⟩
  · rcases hS k hk with h | h
    · have := (h1.lt e).1; omega
    · exact (h1.ty e).ne h (by decide) rfl
  · rcases hS k hk with h | h
    · have := ((h2 j f x hj hx).lt k e).1; omega
    · exact (own_ty (h2 j f x hj hx) e).ne h (by decide) rfl
theorem Heads.left (h : Heads w base hv want) (hl : Left S w w') (hS : ∀ k ∈ S, k < base ∨ hv.ownBlock ≠ some k) : Heads w' base hv want :=
  Row.left h hl (fun k hk e => by
    rcases hS k hk with h1 | h1
    · have := (Row.lt h e).1; omega
    · exact h1 e)
theorem Outs.left (h : Outs w base ov out) (hl : Left S w w') (hS : ∀ k ∈ S, k < base ∨ ov.ownBlock ≠ some k) : Outs w' base ov out :=
  Row.left h hl (fun k hk e => by
    rcases hS k hk with h1 | h1
    · have := (Row.lt h e).1; omega
    · exact h1 e)
theorem Wants.heads_ne {k : Nat} (h : Wants w base wv want) (hk : wv.ownBlock = some k) {v : Value} {n : Nat} {xs : List Value} (h' : Row w base 3 1 v n xs) : v.ownBlock ≠ some k := by
  obtain ⟨ws, h1, _⟩ := h
  intro e
  exact (h1.ty hk).ne (h'.ty e) (by decide) rfl
/-- A chain more is wanted. -/
theorem Wants.app {x v' : Value} {f : Fl} (h : Wants w base wv want) (hx : w.ownsRow base 89 3 x f.L.length (bufCells f.L)) {ws : List Value} (hws : Row w base 75 1 wv want.length ws) (hin : ∀ (j : Nat) (f : Fl) (x : Value), want[j]? = some f → ws[j]? = some x → w.ownsRow base 89 3 x f.L.length (bufCells f.L))
    (hr : Row w' base 75 1 v' (want.length + 1) (ws ++ [x])) (hg : Left (Value.ownL wv) w w') : Wants w' base v' (want ++ [f]) := by
  have hb : ∀ {y : Value} {n : Nat} {xs : List Value}, w.ownsRow base 89 3 y n xs → w'.ownsRow base 89 3 y n xs := fun hy => own_leftB hy hg (fun k hk e => (own_ty hy e).ne (hws.ty (mem_ownL.1 hk)) (by decide) rfl)
  refine ⟨ws ++ [x], by simpa using hr, fun j g y hj hy => ?_⟩
  have hwl : ws.length = want.length := by have := hws.1; omega
  rcases Nat.lt_or_ge j want.length with hl | hl
  · rw [List.getElem?_append_left hl] at hj
    rw [List.getElem?_append_left (by omega)] at hy
    exact hb (hin j g y hj hy)
  · have hjn := (List.getElem?_eq_some_iff.1 hj).1
    have hje : j = want.length := by simp at hjn; omega
    subst hje
    rw [List.getElem?_append_right (Nat.le_refl _), Nat.sub_self] at hj
    rw [List.getElem?_append_right (by omega), show want.length - ws.length = 0 by omega] at hy
    injection hj with hj
    injection hy with hy
    subst hj hy
    exact hb hx
/-- The first wanted one. -/
theorem Wants.first {f : Fl} (h : Wants w base wv (f :: want)) : ∃ g off cap x, wv = .slice (some ⟨g, off, none⟩) (want.length + 1) cap ∧ want.length + 1 ≤ cap ∧ cap ≤ maxLen ∧ w.cell? ⟨g, off, none⟩ = some x ∧ w.ownsRow base 89 3 x f.L.length (bufCells f.L) ∧
    (1 < cap → Wants w base (.slice (some ⟨g, off + 1, none⟩) want.length (cap - 1)) want) ∧ (cap = 1 → Wants w base (.slice (some ⟨g, off, none⟩) want.length 0) want) := by
  obtain ⟨ws, h1, h2⟩ := h
  obtain ⟨g, off, cap, rfl, hb, hgl, hc, hm, hcell⟩ := h1.at_ (by simp)
  have hwl : ws.length = want.length + 1 := by have := h1.1; simp at this; omega
  cases ws with
  | nil => simp at hwl
  | cons x ws =>
    have hx := hcell 0 x rfl
    rw [Nat.add_zero] at hx
    refine ⟨g, off, cap, x, rfl, by simpa using hc, hm, hx, h2 0 f x rfl rfl, fun hc1 => ?_, fun hc1 => ?_⟩
    · exact ⟨ws, Row.tail (x := [x]) h1 rfl hc1, fun j g y hj hy => h2 (j + 1) g y (by simpa using hj) (by simpa using hy)⟩
    · subst hc1
      obtain ⟨e1, e2, e3⟩ := Row.tail0 (x := [x]) h1 rfl
      have : want = [] := List.eq_nil_of_length_eq_zero e1
      subst this
      exact ⟨[], e3, fun j g y hj _ => by simp at hj⟩
theorem Heads.first {f : Fl} (h : Heads w base hv (f :: want)) : ∃ g off cap, hv = .slice (some ⟨g, off, none⟩) (want.length + 1) cap ∧ want.length + 1 ≤ cap ∧ cap ≤ maxLen ∧ w.cell? ⟨g, off, none⟩ = some (.int .i64 (f.h : Nat)) ∧
    (1 < cap → Heads w base (.slice (some ⟨g, off + 1, none⟩) want.length (cap - 1)) want) ∧ (cap = 1 → Heads w base (.slice (some ⟨g, off, none⟩) want.length 0) want) := by
  obtain ⟨g, off, cap, rfl, hb, hgl, hc, hm, hcell⟩ := Row.at_ h (by simp)
  have hx := hcell 0 _ rfl
  rw [Nat.add_zero] at hx
  refine ⟨g, off, cap, rfl, by simpa using hc, hm, hx, fun hc1 => Row.tail (x := [.int .i64 (f.h : Nat)]) h rfl hc1, fun hc1 => ?_⟩
  subst hc1
  obtain ⟨e1, e2, e3⟩ := Row.tail0 (x := [.int .i64 (f.h : Nat)]) h rfl
  have : want = [] := List.eq_nil_of_length_eq_zero e1
  subst this
  exact e3
theorem Outs.first {p : Fl × Nat} (h : Outs w base ov (p :: out)) : ∃ g off cap, ov = .slice (some ⟨g, off, none⟩) (2 * out.length + 2) cap ∧ 2 * out.length + 2 ≤ cap ∧ cap ≤ maxLen ∧ w.cell? ⟨g, off, none⟩ = some (.int .i64 (p.1.L.length : Nat)) ∧ w.cell? ⟨g, off + 1, none⟩ = some (.int .i64 (p.1.h : Nat)) ∧
    (2 < cap → Outs w base (.slice (some ⟨g, off + 2, none⟩) (2 * out.length) (cap - 2)) out) ∧ (cap = 2 → Outs w base (.slice (some ⟨g, off, none⟩) (2 * out.length) 0) out) := by
  have h0 : Row w base 3 1 ov (2 * out.length + 2) (outCells (p :: out)) := h
  obtain ⟨g, off, cap, rfl, hb, hgl, hc, hm, hcell⟩ := h0.at_ (by omega)
  have hx := hcell 0 _ rfl
  have hy := hcell 1 _ rfl
  rw [Nat.add_zero] at hx
  rcases h0.2 with ⟨hh, _⟩ | ⟨g', off', cap', cur, hv, hb', hg, h1, h2, h3, hcc⟩
  · cases hh
  · injection hv with hv1 _ hv3
    injection hv1 with hv1
    injection hv1 with e1 e2
    subst e1 e2 hv3
    have hol : (outCells out).length = 2 * out.length := by
      have := h0.1
      simp [outCells] at this ⊢
      omega
    refine ⟨g, off, cap, rfl, hc, hm, hx, hy, fun hc1 => ?_, fun hc1 => ?_⟩
    · refine ⟨by omega, .inr ⟨g, off + 2, cap - 2, cur, rfl, hb, hg, by omega, by omega, by omega, fun j u hu => ?_⟩⟩
      have := hcc (2 + j) u (by show ([_, _] ++ outCells out)[2 + j]? = _; rw [List.getElem?_append_right (by simp), show 2 + j - [(_ : Value), _].length = j by simp]; exact hu)
      rwa [Nat.add_assoc]
    · subst hc1
      have hz : out.length = 0 := by omega
      have : out = [] := List.eq_nil_of_length_eq_zero hz
      subst this
      exact ⟨by simp [outCells], .inr ⟨g, off, 0, cur, rfl, hb, hg, by simp, by omega, by omega, fun j u hu => by simp [outCells] at hu⟩⟩
end

/-- The blocks of v are none of those in which the ring keeps rows. -/
def NoR (w : World) (s : Spot) (v : Value) : Prop := ∀ k, v.ownBlock = some k → NoRow w s.bw k
theorem RigG.fresh {w : World} {s : Spot} {q : Nat} {want : List Fl} {out : List (Fl × Nat)} {free k : Nat} (h : RigG w s q want out free) (hk : w.heap.size ≤ k) : NoRow w s.bw k := by
  obtain ⟨B, bz, wy, ls, wrt, rdD, wrV, rdV, h1, h2⟩ := h
  obtain ⟨W, hW, hA⟩ := h1.drv.way
  intro W' hW' p hp e
  rw [imap_uniq hW' hW] at hp
  have : ∀ {W : List (Int × Value)} {wy : List (Int × List Nat)}, WayAt w W wy → ∀ p ∈ W, ∀ k, p.2.ownBlock = some k → k < w.heap.size := by
    intro W
    induction W with
    | nil => intro wy _ p hp; simp at hp
    | cons a W ih =>
      intro wy hA p hp k hk
      cases wy with
      | nil => exact absurd hA (by simp [WayAt])
      | cons b wy =>
        obtain ⟨_, h2, h3⟩ := hA
        rcases List.mem_cons.1 hp with rfl | hp
        · exact (World.ownsRow.lt h2 k hk).2
        · exact ih h3 p hp k hk
  have := this hA p hp k e
  omega
end Go.Proofs.Ytfffehbipcikoaa
