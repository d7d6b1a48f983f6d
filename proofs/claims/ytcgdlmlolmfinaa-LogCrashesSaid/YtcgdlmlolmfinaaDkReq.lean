/- Requests of the disk: a row of them; slices.Delete takes one out. -/


import Derived.Test.YtcgdlmlolmfinaaSli
import Derived.Test.YtcgdlmlolmfinaaDraw
import Derived.Deep.RegionLaw
import Derived.Lib.SliceRun
import Derived.Shelf.RegionOpenPlain
import Derived.Deep.AppendSrc
import Derived.Deep.DrawnRows
namespace Go.Proofs.Ytcgdlmlolmfinaa
open Go.RowKit Go.Shelf Go.Proofs
/-- A request; the slice value of its bytes beside it. -/
structure Rq where
  id : Int
  kind : Int
  n : Int
  b : List UInt8
abbrev RV := Rq × Value
def wC (x : RV) : List Value := [.int .i64 x.1.id, .int .i64 x.1.kind, .int .i64 x.1.n, x.2]
def wCells (L : List RV) : List Value := L.flatMap wC
def One (L : List RV) : Prop := ∀ x ∈ L, x.2.oneCell' = true
theorem wCells_length (L : List RV) : (wCells L).length = L.length * 4 := by
  induction L with
  | nil => rfl
  | cons x r ih =>
    show (wC x ++ wCells r).length = _
    rw [List.length_append, ih]
    simp [wC]; omega
theorem wCells_app (A B : List RV) : wCells (A ++ B) = wCells A ++ wCells B := by simp [wCells]
theorem wCells_at (L : List RV) : ∀ (i : Nat) (x : RV), L[i]? = some x → (wCells L)[i * 4]? = some (.int .i64 x.1.id) ∧ (wCells L)[i * 4 + 1]? = some (.int .i64 x.1.kind) ∧ (wCells L)[i * 4 + 2]? = some (.int .i64 x.1.n) ∧ (wCells L)[i * 4 + 3]? = some x.2 := by
  induction L with
  | nil => intro i x h; simp at h
  | cons y r ih =>
    intro i x h
    cases i with
    | zero =>
      simp at h
      subst h
      exact ⟨rfl, rfl, rfl, rfl⟩
    | succ i =>
      have := ih i x (by simpa using h)
      have e : wCells (y :: r) = .int .i64 y.1.id :: .int .i64 y.1.kind :: .int .i64 y.1.n :: y.2 :: wCells r := rfl
      rw [e, show (i + 1) * 4 = i * 4 + 4 by omega]
      exact this
def wZ : Value := .agg #[.int .i64 0, .int .i64 0, .int .i64 0, .slice none 0 0]
theorem inf_w : (Try.prog.info? 100).map (fun i => (i.zero, i.size, i.bytes)) = some (some wZ, 4, 48) := by kernel_rfl
theorem wC_one (x : RV) (h : x.2.oneCell' = true) : ∀ u ∈ wC x, u.oneCell' = true := by
  intro u hu
  simp only [wC, List.mem_cons, List.mem_nil_iff, or_false] at hu
  rcases hu with rfl | rfl | rfl | rfl
  · rfl
  · rfl
  · rfl
  · exact h
section
variable {w : World} {B n cap g size : Nat} {e : TypeId} {v : Value} {xs : List Value}
/-- Cells laid over a list. -/
def layL (xs : List Value) : Nat → List Value → List Value
  | _, [] => xs
  | o, v :: r => layL (xs.set o v) (o + 1) r
theorem layL_app : ∀ (V A C D : List Value), D.length = V.length → layL (A ++ D ++ C) A.length V = A ++ V ++ C
  | [], A, C, D, h => by
    have : D = [] := List.eq_nil_of_length_eq_zero (by simpa using h)
    subst this
    rfl
  | v :: r, A, C, D, h => by
    match D, h with
    | d :: D, h =>
      have e1 : (A ++ (d :: D) ++ C).set A.length v = (A ++ [v]) ++ D ++ C := by
        rw [List.append_assoc, List.set_append_right _ _ (Nat.le_refl _)]
        simp
      have e2 : A.length + 1 = (A ++ [v]).length := by simp
      rw [layL, e1, e2, layL_app r (A ++ [v]) C D (by simpa using h)]
      simp
theorem own_setCells : ∀ (vs : List Value) (o : Nat) (xs : List Value) (w : World), w.ownsRow B e size (.slice (some ⟨g, 0, none⟩) n cap) n xs →
    (w.setCells g o vs).ownsRow B e size (.slice (some ⟨g, 0, none⟩) n cap) n (layL xs o vs) ∧ w.grownBy (w.setCells g o vs) (some g)
  | [], _, _, w, h => ⟨h, World.grownBy.refl w _⟩
  | u :: r, o, xs, w, h => by
    obtain ⟨h1, h2⟩ := h.stored o u
    obtain ⟨h3, h4⟩ := own_setCells r (o + 1) (xs.set o u) _ h1
    exact ⟨h3, h2.trans h4⟩
theorem own_form (h : w.ownsRow B e size v n xs) (hn : 0 < n) : ∃ g cap, v = .slice (some ⟨g, 0, none⟩) n cap ∧ B ≤ g ∧ g < w.heap.size ∧ n ≤ cap ∧ cap ≤ maxLen := by
  obtain ⟨hl, h2⟩ := h
  rcases h2 with ⟨rfl, rfl⟩ | ⟨g, cap, cur, rfl, hb, hg, hnc, hcm, hcs, ht⟩
  · omega
  · exact ⟨g, cap, rfl, hb, (Array.getElem?_eq_some_iff.1 hg).1, hnc, hcm⟩
theorem own_cut {m : Nat} (h : w.ownsRow B e size (.slice (some ⟨g, 0, none⟩) n cap) n xs) (hm : m ≤ n) : w.ownsRow B e size (.slice (some ⟨g, 0, none⟩) m cap) m (xs.take (m * size)) := by
  rcases h.2 with ⟨h', _⟩ | ⟨g', cap', cur, h', hb, hg, hnc, hcm, hcs, htake⟩
  · simp at h'
  · simp only [Value.slice.injEq, Option.some.injEq, Addr.mk.injEq, and_true, true_and] at h'
    obtain ⟨rfl, rfl⟩ := h'
    have hle : m * size ≤ n * size := Nat.mul_le_mul_right _ hm
    refine ⟨by rw [List.length_take, h.1]; omega, .inr ⟨g, cap, cur, rfl, hb, hg, by omega, hcm, hcs, ?_⟩⟩
    rw [← htake, List.take_take, Nat.min_eq_left hle]
theorem own_ground (h : w.ownsRow B e size v n xs) {w' : World} (hg : w.grownBy w' v.ownBlock) (hB : B ≤ w.heap.size) : Below B w w' :=
  (Below.refl B w).grown hg hB fun k hk => (h.lt k hk).1
end


theorem wCells_one (L : List RV) (h : One L) : ∀ u ∈ wCells L, u.oneCell' = true := by
  intro u hu
  obtain ⟨x, hx, hu⟩ := List.mem_flatMap.1 hu
  exact wC_one x (h x hx) u hu
def wZs : List Value := [.int .i64 0, .int .i64 0, .int .i64 0, .slice none 0 0]
theorem zero_w (w : World) : (zeroValue 100).run Try.prog w = .ok wZ w := by kernel_rfl
theorem run_clear1 (w : World) (ty : TypeId) (b o c : Nat) (hc : ∀ j, j < 4 → (w.cell? ⟨b, o + j, none⟩).isSome = true) (hf : ∀ j, j < 4 → w.frozen? ⟨b, o + j, none⟩ = false) :
    (Builtin.clear_ #[66] ty #[.slice (some ⟨b, o, none⟩) 1 c]).run Try.prog w = .ok (.tuple #[]) (w.setCells b o wZs) := by
  have hzc : (Builtin.zeroCells (Value.agg #[.int .i64 0, .int .i64 0, .int .i64 0, .slice none 0 0]).cells 1).toList = wZs := by simp [Builtin.zeroCells, wZs, Value.cells]; rfl
  have hst := run_storeCells_cells (P := Try.prog) b o wZs 0 w (by simpa [wZs] using hc) (by simpa [wZs] using hf) (by simp [wZs, Value.oneCell'])
  simp only [Nat.add_zero] at hst
  simp [Builtin.clear_, run_underlying Try.underlying66, zero_w, hzc, hst]

set_option maxRecDepth 100000 in
set_option maxHeartbeats 1000000 in
theorem Delete_any (w : World) (B : Nat) (v : Value) (L : List RV) (i m : Nat) (h : w.ownsRow B 100 4 v L.length (wCells L)) (hone : One L) (hi : L.length = i + 1 + m) (hB : B ≤ w.heap.size) (hn : L.length ≤ 1000000000000) :
    Calls Try.prog 59 #[v, .int .i64 i, .int .i64 ((i : Int) + 1)] w fun e w' => ∃ v', e = .returned v' ∧ w'.ownsRow B 100 4 v' (i + m) (wCells (L.take i ++ L.drop (i + 1))) ∧ Below B w w' ∧ v'.ownBlock = v.ownBlock ∧ ∀ g, v.ownBlock = some g → Left [g] w w' := by
  obtain ⟨i0, hi0, hz0, hz1, hz2⟩ := info_parts inf_w
  obtain ⟨g, cap, rfl, hBg, hgl, hnc, hcm⟩ := own_form h (by omega)
  have hm' : cap ≤ 9223372036854775807 := by unfold maxLen at hcm; omega
  have hsp : wCells L = wCells (L.take (i + 1)) ++ wCells (L.drop (i + 1)) := by rw [← wCells_app, List.take_append_drop]
  have hsp2 : wCells L = wCells (L.take i) ++ wCells (L.drop i) := by rw [← wCells_app, List.take_append_drop]
  have l1 : (wCells (L.take (i + 1))).length = (i + 1) * 4 := by rw [wCells_length, List.length_take]; omega
  have l2 : (wCells (L.take i)).length = i * 4 := by rw [wCells_length, List.length_take]; omega
  have l3 : (wCells (L.drop i)).length = (m + 1) * 4 := by rw [wCells_length, List.length_drop]; omega
  obtain ⟨news, hnews⟩ : ∃ news, news = wCells (L.drop (i + 1)) := ⟨_, rfl⟩
  have hlen : news.length = m * 4 := by rw [hnews, wCells_length, List.length_drop]; omega
  have hca := h.cellAt
  have hfr := h.frozenAt
  obtain ⟨A, hA, hsrc⟩ : ∃ A : Addr, (if cap = i + 1 then some (⟨g, 0, none⟩ : Addr) else some ⟨g, (i + 1) * 4, none⟩) = some A ∧ Hid (∀ t u, news[t]? = some u → w.drew.cell? (A.add t) = some u) := by
    by_cases hcp : cap = i + 1
    · refine ⟨⟨g, 0, none⟩, by simp [hcp], fun t u hu => ?_⟩
      have := (List.getElem?_eq_some_iff.1 hu).1
      omega
    · refine ⟨⟨g, (i + 1) * 4, none⟩, by simp [hcp], fun t u hu => ?_⟩
      have ht := (List.getElem?_eq_some_iff.1 hu).1
      rw [add_flat]
      show w.cell? _ = _
      rw [hca _ (by omega), hsp, List.getElem?_append_right (by omega), l1, ← hnews]
      rw [show (i + 1) * 4 + t - (i + 1) * 4 = t by omega]
      exact hu
  have s1 : Hid (news.length = m * 4) := hlen
  have s2 : Hid (∀ u ∈ news, u.oneCell' = true) := by rw [hnews]; exact wCells_one _ (fun x hx => hone x (List.mem_of_mem_drop hx))
  have s3 : Hid (∀ t, t < news.length → (w.drew.cell? ⟨g, 0 + i * 4 + t, none⟩).isSome = true ∧ w.drew.frozen? ⟨g, 0 + i * 4 + t, none⟩ = false) := by
    intro t ht
    refine ⟨?_, hfr _⟩
    show (w.cell? _).isSome = true
    rw [hca _ (by omega), List.getElem?_eq_getElem (by rw [h.1]; omega)]
    rfl
  obtain ⟨W1, hW1⟩ : ∃ W1, W1 = w.drew.setCells g (0 + i * 4) news := ⟨_, rfl⟩
  have o1 := own_setCells news (i * 4) (wCells L) w.drew h.drew
  rw [show i * 4 = 0 + i * 4 by omega, ← hW1] at o1
  have e1 : layL (wCells L) (0 + i * 4) news = wCells (L.take i) ++ news ++ (wCells (L.drop i)).drop (m * 4) := by
    have := layL_app news (wCells (L.take i)) ((wCells (L.drop i)).drop (m * 4)) ((wCells (L.drop i)).take (m * 4)) (by rw [List.length_take]; omega)
    rw [List.append_assoc, List.take_append_drop, ← hsp2, l2] at this
    rw [Nat.zero_add]
    exact this
  rw [e1] at o1
  obtain ⟨o1, g1⟩ := o1
  have hca1 := o1.cellAt
  have hfr1 := o1.frozenAt
  have hcl : ∀ ty c, (Builtin.clear_ #[66] ty #[.slice (some ⟨g, (i + m) * 4, none⟩) 1 c]).run Try.prog W1 = .ok (.tuple #[]) (W1.setCells g ((i + m) * 4) wZs) := fun ty c => run_clear1 W1 ty g _ c (fun j hj => by
    rw [hca1 _ (by omega), List.getElem?_eq_getElem (by rw [o1.1]; omega)]
    rfl) (fun j hj => hfr1 _)
  have o2 := own_setCells wZs ((i + m) * 4) _ W1 o1
  have e2 : layL (wCells (L.take i) ++ news ++ (wCells (L.drop i)).drop (m * 4)) ((i + m) * 4) wZs = wCells (L.take i) ++ news ++ wZs := by
    have := layL_app wZs (wCells (L.take i) ++ news) [] ((wCells (L.drop i)).drop (m * 4)) (by rw [List.length_drop, l3]; simp [wZs]; omega)
    rw [List.length_append, l2, hlen, List.append_nil, List.append_nil, show i * 4 + m * 4 = (i + m) * 4 by omega] at this
    exact this
  rw [e2] at o2
  obtain ⟨o2, g2⟩ := o2
  have o3 := own_cut (m := i + m) o2 (by omega)
  rw [List.take_append_of_le_length (by rw [List.length_append, l2, hlen]; omega), List.take_of_length_le (by rw [List.length_append, l2, hlen]; omega), hnews, ← wCells_app] at o3
  have hbb : Below B w (W1.setCells g ((i + m) * 4) wZs) := (((Below.refl B w).drew).grown g1 (by simpa using hB) (fun k hk => by injection hk with hk; omega)).grown g2 (by have := g1.size; simp at this; omega) (fun k hk => by injection hk with hk; omega)
  have hLL : Left [g] w (W1.setCells g ((i + m) * 4) wZs) := by
    have t1 : Left [g] w W1 := (Left.refl [g] w).drew.trans (T := [g]) ⟨g1.os, g1.tape, g1.output, g1.size, fun k hk hn => g1.block k hk (fun e => hn (by injection e with e; simp [e]))⟩ (by simp)
    exact t1.trans (T := [g]) ⟨g2.os, g2.tape, g2.output, g2.size, fun k hk hn => g2.block k hk (fun e => hn (by injection e with e; simp [e]))⟩ (by simp)
  have HLL := Lib.hid hLL
  clear hLL
  have HO := Lib.hid o3
  have HB := Lib.hid hbb
  have hW : Hid (W1 = w.drew.setCells g (0 + i * 4) news) := hW1
  have hic : i ≤ cap := by omega
  have hic1 : i + 1 ≤ cap := by omega
  have q1 : i + 1 + m - (i + 1) = m := by omega
  have q2 : i + 1 + m - (i + m) = 1 := by omega
  have mixed : Try.prog.follows Departure.mixedOrders = true := by kernel_rfl
  have b1 : (0 : Int) ≤ (i : Int) + 1 := by omega
  have b2 : (i : Int) + 1 ≤ (i : Int) + 1 + (m : Int) := by omega
  rw [hi] at *
  clear hca hfr hca1 hfr1 o1 o2 o3 g1 g2 e1 e2 hbb hsp hsp2 l1 l2 l3 hW1 h hcm hlen hnews
  go_enter Try.func59, Try.ntmps59
  go_wp2_with fail
  go_region_law_o (refine step_append_room rfl (.tmp 22) (.tmp 25) 66 rfl 100 i0 4 Try.underlying66 hi0 hz1 g 0 i cap (by simp [Act.eval, Act.put]) A m (cap - (i + 1)) news (by simp [Act.eval, Act.put]) s1.out hsrc.out s2.out (by omega) s3.out ?_; rw [← hW.out])
  go_wp2
  go_ret
  exact ⟨_, rfl, HO.out, HB.out, rfl, fun g' e => by simp only [Value.ownBlock] at e; injection e with e; subst e; exact HLL.out⟩
end Go.Proofs.Ytcgdlmlolmfinaa
