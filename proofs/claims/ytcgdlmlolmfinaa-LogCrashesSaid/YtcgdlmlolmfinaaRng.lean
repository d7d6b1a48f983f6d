/- Ranging over a map with int keys whose entries are known: whichever comes next; a store at a key that is there; clear. Over any program. -/
import Derived.Test.YtcgdlmlolmfinaaMap
import Derived.Maps.RangeRun
namespace Go.Proofs.Ytcgdlmlolmfinaa
open Go.RowKit Go.MapKept
open Go.ChangeMaps (setBlock)

/-- Block r is an iterator over the map of entries L in block b, of which these are still to come. -/
def RIt (w : World) (r b : Nat) (L lft : List (Int × Value)) : Prop :=
  ∃ es clock since seen c0, IM w b es clock L ∧ w.heap[r]? = some (.mapIter (some b) since seen c0) ∧ (∀ x ∈ es.toList, x.born < since) ∧ (since ≤ c0 ∧ since ≤ clock) ∧ (leftOf es seen).toList.map entryOf = lft.map pairOf

theorem filter_pairs {e : MapEntry} {p : Int × Value} (hp : entryOf e = pairOf p) : ∀ (l : List MapEntry) (lft : List (Int × Value)), l.map entryOf = lft.map pairOf → (∀ x ∈ l, (x.born = e.born ↔ x.key = e.key)) →
    (l.filter (fun x => !(x.born == e.born))).map entryOf = (lft.filter (fun q => q.1 != p.1)).map pairOf
  | [], [], _, _ => rfl
  | [], _ :: _, h, _ => by cases h
  | _ :: _, [], h, _ => by cases h
  | x :: l, q :: lft, h, hb => by
    simp only [List.map_cons, List.cons.injEq] at h
    obtain ⟨h1, h2⟩ := h
    have ih := filter_pairs hp l lft h2 (fun y hy => hb y (by simp [hy]))
    have hk : x.key = .int .i64 q.1 := congrArg Prod.fst h1
    have he : e.key = .int .i64 p.1 := congrArg Prod.fst hp
    by_cases hq : q.1 = p.1
    · have hx : x.born = e.born := (hb x (by simp)).2 (by rw [hk, he, hq])
      rw [List.filter_cons_of_neg (by simp [hx]), List.filter_cons_of_neg (by simp [hq])]
      exact ih
    · have hx : x.born ≠ e.born := fun e' => hq (by
        have := (hb x (by simp)).1 e'
        rw [hk, he] at this
        injection this)
      rw [List.filter_cons_of_pos (by simp [hx]), List.filter_cons_of_pos (by simp [hq]), List.map_cons, List.map_cons, h1, ih]
theorem nodup_inj {α β : Type} {f : α → β} : ∀ {l : List α}, (l.map f).Nodup → ∀ {x y : α}, x ∈ l → y ∈ l → f x = f y → x = y
  | [], _, _, _, hx, _, _ => by simp at hx
  | a :: l, h, x, y, hx0, hy0, e => by
    rw [List.map_cons, List.nodup_cons] at h
    rcases List.mem_cons.1 hx0 with hxa | hx
    · rcases List.mem_cons.1 hy0 with hya | hy
      · rw [hxa, hya]
      · exact absurd (List.mem_map.2 ⟨y, hy, by rw [← e, hxa]⟩) h.1
    · rcases List.mem_cons.1 hy0 with hya | hy
      · exact absurd (List.mem_map.2 ⟨x, hx, by rw [e, hya]⟩) h.1
      · exact nodup_inj h.2 hx hy e
section
variable {P : Program} {w w' : World} {t kt et r b : Nat} {L lft : List (Int × Value)} {S : List Nat}
theorem run_range_imap (h : IMap w b L) (ht : P.underlying t = some (.map kt et)) :
    ∃ w', (Instr.range t (.map (some b))).run P w = .ok (.pointer (some ⟨w.heap.size, 0, none⟩)) w' ∧ RIt w' w.heap.size b L L ∧ Left [] w w' := by
  obtain ⟨es, clock, hb, hs, hL⟩ := h
  have hlt : b < w.heap.size := by
    rcases Nat.lt_or_ge b w.heap.size with hl | hl
    · exact hl
    · rw [Array.getElem?_eq_none hl] at hb; cases hb
  refine ⟨_, run_range_map w t kt et b es clock ht hb, ⟨es, clock, clock, #[], clock, ⟨(heap_alloc_old w _ hlt).trans hb, hs, hL⟩, heap_alloc_new w _, hs.1, ⟨Nat.le_refl _, Nat.le_refl _⟩, ?_⟩, (Left.refl [] w).alloc _⟩
  have : leftOf es #[] = es := Array.filter_eq_self.2 (fun x _ => by simp)
  rw [this]
  exact hL
theorem RIt.map (h : RIt w r b L lft) : IMap w b L := by
  obtain ⟨es, clock, since, seen, c0, h1, _⟩ := h
  exact ⟨es, clock, h1⟩
theorem RIt.ne (h : RIt w r b L lft) : r ≠ b := by
  obtain ⟨es, clock, since, seen, c0, h1, h2, _⟩ := h
  intro e
  subst e
  rw [h1.1] at h2
  injection h2 with h2
  cases h2
theorem RIt.lt (h : RIt w r b L lft) : r < w.heap.size := by
  obtain ⟨es, clock, since, seen, c0, h1, h2, _⟩ := h
  exact (Array.getElem?_eq_some_iff.1 h2).1
theorem RIt.left (h : RIt w r b L lft) (hl : Left S w w') (h1 : b ∉ S) (h2 : r ∉ S) : RIt w' r b L lft := by
  have hr := h.lt
  have hb := h.map.lt
  obtain ⟨es, clock, since, seen, c0, g1, g2, g3⟩ := h
  exact ⟨es, clock, since, seen, c0, ⟨(hl.block b hb h1).trans g1.1, g1.2⟩, (hl.block r hr h2).trans g2, g3⟩
/-- The next one, whichever. -/
theorem RIt.next (h : RIt w r b L lft) (ty : TypeId) :
    (lft = [] ∧ (Instr.next (.pointer (some ⟨r, 0, none⟩)) false ty).run P w = .ok (.tuple #[.bool false]) w) ∨
    ∃ p ∈ lft, ∃ w1, (Instr.next (.pointer (some ⟨r, 0, none⟩)) false ty).run P w = .ok (.tuple #[.bool true, .int .i64 p.1, p.2]) w1 ∧ (Instr.entry (.pointer (some ⟨r, 0, none⟩))).run P w1 = .ok (.tuple #[.int .i64 p.1, p.2]) w1 ∧
      RIt w1 r b L (lft.filter (fun q => q.1 != p.1)) ∧ Left [r] w w1 ∧ (lft.filter (fun q => q.1 != p.1)).length < lft.length := by
  have hne := h.ne
  obtain ⟨es, clock, since, seen, c0, h1, h2, h3, h4, h5⟩ := h
  rcases run_next_at (P := P) w ty r b since c0 seen es clock h2 h1.1 h3 h4.1 with ⟨hz, hrun⟩ | ⟨e, he, w1, hw1, hrun⟩
  · refine .inl ⟨?_, hrun⟩
    have : (leftOf es seen).toList = [] := List.eq_nil_of_length_eq_zero (by simpa using hz)
    rw [this] at h5
    exact List.map_eq_nil_iff.1 h5.symm
  · have hee : e ∈ es.toList := by
      unfold leftOf at he
      simp at he
      simpa using he.1
    have hm : entryOf e ∈ lft.map pairOf := by rw [← h5]; exact List.mem_map_of_mem he
    obtain ⟨p, hp, hpe⟩ := List.mem_map.1 hm
    have hk : e.key = .int .i64 p.1 := (congrArg Prod.fst hpe).symm
    have hv : e.val = p.2 := (congrArg Prod.snd hpe).symm
    have hb1 : w1.heap = w.heap := by rcases hw1 with rfl | rfl <;> rfl
    have hr1 : w1.heap[r]? = some (.mapIter (some b) since seen c0) := by rw [hb1]; exact h2
    have hsb := heap_set (o' := .mapIter (some b) since (seen.push e.born) clock) hr1
    have hrb : (setBlock w1 r (.mapIter (some b) since (seen.push e.born) clock)).heap[r]? = some (.mapIter (some b) since (seen.push e.born) clock) := hsb.1
    have hbb : (setBlock w1 r (.mapIter (some b) since (seen.push e.born) clock)).heap[b]? = some (.map es clock) := (hsb.2 b hne.symm).trans (by rw [hb1]; exact h1.1)
    have hl : Left [r] w (setBlock w1 r (.mapIter (some b) since (seen.push e.born) clock)) := by
      have hl1 : Left [r] w w1 := by rcases hw1 with rfl | rfl; exact Left.refl _ _; exact (Left.refl _ _).drew
      refine hl1.trans (T := [r]) ⟨rfl, rfl, rfl, by simp [setBlock], fun k hk hn => hsb.2 k (by simpa using hn)⟩ (by simp)
    have hiff : ∀ x ∈ (leftOf es seen).toList, (x.born = e.born ↔ x.key = e.key) := fun x hx => by
      have hxe : x ∈ es.toList := by
        unfold leftOf at hx
        simp at hx
        simpa using hx.1
      exact ⟨fun g => by rw [nodup_inj h1.2.1.2.1 hxe hee g], fun g => by rw [nodup_inj h1.2.1.2.2 hxe hee g]⟩
    have hfl : (leftOf es (seen.push e.born)).toList = (leftOf es seen).toList.filter (fun x => !(x.born == e.born)) := by
      unfold leftOf
      rw [Array.toList_filter, Array.toList_filter, List.filter_filter]
      apply List.filter_congr
      intro x _
      simp [Array.contains_push, Bool.and_comm]
      cases decide (x.born ∈ seen) <;> by_cases hxe : x.born = e.born <;> simp [hxe]
    refine .inr ⟨p, hp, _, ?_, ?_, ⟨es, clock, since, seen.push e.born, clock, ⟨hbb, h1.2⟩, hrb, h3, ⟨h4.2, h4.2⟩, ?_⟩, hl, ?_⟩
    · rw [hrun, hk, hv]
    · rw [run_entry_at _ r b since seen es clock e hrb hbb hee h1.2.1.2.1, hk, hv]
    · rw [hfl]
      exact filter_pairs hpe.symm _ _ h5 hiff
    · exact List.length_filter_lt_length_iff_exists.2 ⟨p, hp, by simp⟩

theorem run_clear_imap (h : IMap w b L) (ht : P.underlying t = some (.map kt et)) (ty : TypeId) :
    ∃ w', (Builtin.clear_ #[t] ty #[.map (some b)]).run P w = .ok (.tuple #[]) w' ∧ IMap w' b [] ∧ Left [b] w w' := by
  obtain ⟨es, clock, hb, hs, hL⟩ := h
  refine ⟨{ w with heap := w.heap.setIfInBounds b (.map #[] clock) }, by simp [Builtin.clear_, run_underlying ht, MapKept.run_getObj_map hb, MapKept.run_setObj_map _ hb, Result.andThen], ⟨#[], clock, (heap_set hb).1, ⟨by simp, by simp, by simp⟩, rfl⟩, ⟨rfl, rfl, rfl, by simp, fun k _ hn => (heap_set hb).2 k (by simpa using hn)⟩⟩

theorem findNow_at (k : Int) : ∀ (L : List (Int × Value)) (es : List MapEntry) (i : Nat) (v : Value), es.map entryOf = L.map pairOf → look L k = some v →
    ∃ (j : Nat) (e : MapEntry), Instr.findNow (.int .i64) (.int .i64 k) es i = some (i + j, v) ∧ es[j]? = some e ∧ e.key = .int .i64 k ∧ L[j]? = some (k, v)
  | [], _, _, _, _, hl => by simp [look] at hl
  | _ :: _, [], _, _, h, _ => by cases h
  | p :: L, e :: es, i, v, h, hl => by
    simp only [List.map_cons, List.cons.injEq] at h
    obtain ⟨h1, h2⟩ := h
    have hk : e.key = .int .i64 p.1 := congrArg Prod.fst h1
    have hv : e.val = p.2 := congrArg Prod.snd h1
    by_cases hp : p.1 = k
    · have hpv : p.2 = v := by simpa [look, hp] using hl
      refine ⟨0, e, ?_, rfl, by rw [hk, hp], by obtain ⟨a, c⟩ := p; simp only at hp hpv; subst hp hpv; rfl⟩
      simp [Instr.findNow, Instr.sameNow, hk, hp, hv, hpv]
    · have hne : (p.1 == k) = false := by simpa using hp
      have hne' : (k == p.1) = false := by simpa using fun e => hp e.symm
      have hl' : look L k = some v := by simpa [look, List.find?_cons, hne] using hl
      obtain ⟨j, x, a, c, d, f⟩ := findNow_at k L es (i + 1) v h2 hl'
      refine ⟨j + 1, x, ?_, by simpa using c, d, by simpa using f⟩
      simp only [Instr.findNow, Instr.sameNow, hk, if_pos, hne']
      rw [a, Nat.add_assoc, Nat.add_comm 1 j]
/-- A key that is there: its entry is looked up, then the element is stored. -/
theorem run_entry_old {k : Int} {v : Value} (h : IMap w b L) (ht : P.underlying t = some (.map kt et)) (hk : P.underlying kt = some (.int .i64)) (hl : look L k = some v) :
    ∃ (stamp : Nat) (w1 : World) (j : Nat), (Instr.mapEntry t (.map (some b)) (.int .i64 k)).run P w = .ok (.tuple #[v, goInt stamp]) w1 ∧ Left [b] w w1 ∧ L[j]? = some (k, v) ∧
      ∀ (w2 : World) (v' : Value), Left [] w1 w2 → ∃ w3, (Instr.entryStore t (.map (some b)) (goInt stamp) v').run P w2 = .ok () w3 ∧ IMap w3 b (L.set j (k, v')) ∧ Left [b] w2 w3 := by
  obtain ⟨es, clock, hb, hs, hL⟩ := h
  obtain ⟨j, e, h1, h2, h3, h4⟩ := findNow_at k L es.toList 0 v hL hl
  rw [Nat.zero_add] at h1
  have hj : es[j]? = some e := by simpa using h2
  have hjl := (Array.getElem?_eq_some_iff.1 hj).1
  have hje := (Array.getElem?_eq_some_iff.1 hj).2
  have hlt : b < w.heap.size := by
    rcases Nat.lt_or_ge b w.heap.size with hl | hl
    · exact hl
    · rw [Array.getElem?_eq_none hl] at hb; cases hb
  have hmod : es.modify j (fun e => { e with key := Value.int .i64 k }) = es := by
    apply Array.ext
    · simp
    · intro i a1 a2
      rw [Array.getElem_modify]
      split
      · rename_i hij
        subst hij
        have hk' : es[j].key = Value.int .i64 k := by rw [hje]; exact h3
        have hset : ∀ x : MapEntry, x.key = Value.int .i64 k → ({ x with key := Value.int .i64 k } : MapEntry) = x := fun x hx => by
          cases x
          simp only at hx
          subst hx
          rfl
        exact hset _ hk'
      · rfl
  have hrun : (Instr.mapEntry t (.map (some b)) (.int .i64 k)).run P w = .ok (.tuple #[v, goInt e.born]) { w with heap := w.heap.setIfInBounds b (.map es clock) } := by
    simp [Instr.mapEntry, run_underlying ht, MapKept.run_getObj_map hb, run_checkKey hk (d := .int .i64) (k := .int .i64 k) (by simp [IsKey]), run_findKey hk h1, hj, h3, run_keyThatStays (d := .int .i64) (k := .int .i64 k) (by simp [IsKey]), MapKept.run_setObj_map _ hb, Result.andThen, hmod]
  have hl1 : Left [b] w { w with heap := w.heap.setIfInBounds b (.map es clock) } := ⟨rfl, rfl, rfl, by simp, fun k _ hn => (heap_set hb).2 k (by simpa using hn)⟩
  refine ⟨e.born, _, j, hrun, hl1, h4, fun w2 v' hl2 => ?_⟩
  have hb1 : ({ w with heap := w.heap.setIfInBounds b (.map es clock) } : World).heap[b]? = some (.map es clock) := (heap_set hb).1
  have hb2 : w2.heap[b]? = some (.map es clock) := (hl2.block b (Array.getElem?_eq_some_iff.1 hb1).1 (by simp)).trans hb1
  have hfi : es.findIdx? (fun x => (x.born : Int) == (e.born : Int)) = some j := by
    rw [Array.findIdx?_eq_some_iff_getElem]
    refine ⟨hjl, by rw [hje]; simp, fun i hi => ?_⟩
    have hn := hs.2.1
    have hp := List.pairwise_iff_getElem.1 hn i j (by simp; omega) (by simpa using hjl) hi
    simp only [List.getElem_map, Array.getElem_toList] at hp
    rw [hje] at hp
    simp
    omega
  refine ⟨{ w2 with heap := w2.heap.setIfInBounds b (.map (es.modify j fun x => { x with val := v' }) clock) }, ?_, ⟨_, clock, (heap_set hb2).1, ?_, ?_⟩, ⟨rfl, rfl, rfl, by simp, fun k _ hn => (heap_set hb2).2 k (by simpa using hn)⟩⟩
  · simp [Instr.entryStore, MapKept.run_getObj_map hb2, asInt, asIntOf, goInt, hfi, MapKept.run_setObj_map _ hb2, Result.andThen]
  · exact stamped_modify hs _ _ (fun _ _ => rfl) (fun e' _ he' => rfl)
  · have : (es.modify j fun x => { x with val := v' }).toList = es.toList.set j { e with val := v' } := by
      apply List.ext_getElem?
      intro i
      rw [List.getElem?_set]
      simp only [Array.getElem?_toList, Array.getElem?_modify]
      by_cases hij : j = i
      · subst hij
        simp [hj, hjl, hje]
      · simp [hij]
    rw [this, List.map_set, hL, List.map_set]
    congr 1
    simp [entryOf, pairOf, h3]

theorem nodup_of_map {α β : Type} {f : α → β} : ∀ {l : List α}, (l.map f).Nodup → l.Nodup
  | [], _ => List.nodup_nil
  | a :: l, h => by
    rw [List.map_cons, List.nodup_cons] at h
    exact List.nodup_cons.2 ⟨fun hm => h.1 (List.mem_map_of_mem hm), nodup_of_map h.2⟩
theorem IMap.nodup (h : IMap w b L) : (L.map (·.1)).Nodup := by
  obtain ⟨es, clock, _, hs, hL⟩ := h
  have h1 : es.toList.map (·.key) = L.map (fun p => Value.int .i64 p.1) := by
    have := congrArg (List.map Prod.fst) hL
    simpa [entryOf, pairOf, Function.comp_def] using this
  have h2 := hs.2.2
  rw [h1] at h2
  have : (L.map (·.1)).map (Value.int .i64) = L.map (fun p => Value.int .i64 p.1) := by simp
  rw [← this] at h2
  exact nodup_of_map h2
theorem look_some_at {k : Int} {v : Value} (h : look L k = some v) : ∃ j : Nat, L[j]? = some (k, v) := by
  unfold look at h
  rw [Option.map_eq_some_iff] at h
  obtain ⟨p, hp, rfl⟩ := h
  have h2 := List.find?_some hp
  simp at h2
  obtain ⟨j, hj⟩ := List.getElem?_of_mem (List.mem_of_find?_eq_some hp)
  exact ⟨j, by rw [hj, ← h2]⟩
/-- An entry laid at a key, new or not. -/
theorem run_update_imap (h : IMap w b L) (ht : P.underlying t = some (.map kt et)) (hk : P.underlying kt = some (.int .i64)) (k : Int) (v : Value) :
    ∃ w', (Instr.mapUpdate t (.map (some b)) (.int .i64 k) v).run P w = .ok () w' ∧ Left [b] w w' ∧ ((look L k = none ∧ IMap w' b (L ++ [(k, v)])) ∨ ∃ j v0, L[j]? = some (k, v0) ∧ IMap w' b (L.set j (k, v))) := by
  obtain ⟨es, clock, hb, hs, hL⟩ := h
  cases hl : look L k with
  | none =>
    obtain ⟨j, h1, _⟩ := findNow_int k L es.toList 0 hL
    have hf : L.find? (·.1 == k) = none := by
      unfold look at hl
      exact Option.map_eq_none_iff.1 hl
    rw [hf] at h1
    refine ⟨{ w with heap := w.heap.setIfInBounds b (.map (es.push ⟨.int .i64 k, v, clock⟩) (clock + 1)) }, ?_, ⟨rfl, rfl, rfl, by simp, fun k _ hn => (heap_set hb).2 k (by simpa using hn)⟩, .inl ⟨rfl, (show IM w b es clock L from ⟨hb, hs, hL⟩).pushed hl v (heap_set hb).1⟩⟩
    simp [Instr.mapUpdate, run_underlying ht, MapKept.run_getObj_map hb, run_checkKey hk (d := .int .i64) (k := .int .i64 k) (by simp [IsKey]), run_findKey hk h1, MapKept.run_setObj_map _ hb, Result.andThen]
  | some v0 =>
    obtain ⟨j, e, h1, h2, h3, h4⟩ := findNow_at k L es.toList 0 v0 hL hl
    rw [Nat.zero_add] at h1
    have hj : es[j]? = some e := by simpa using h2
    have hjl := (Array.getElem?_eq_some_iff.1 hj).1
    have hje := (Array.getElem?_eq_some_iff.1 hj).2
    refine ⟨{ w with heap := w.heap.setIfInBounds b (.map (es.modify j fun x => { x with key := .int .i64 k, val := v }) clock) }, ?_, ⟨rfl, rfl, rfl, by simp, fun k _ hn => (heap_set hb).2 k (by simpa using hn)⟩, .inr ⟨j, v0, h4, _, clock, (heap_set hb).1, ?_, ?_⟩⟩
    · simp [Instr.mapUpdate, run_underlying ht, MapKept.run_getObj_map hb, run_checkKey hk (d := .int .i64) (k := .int .i64 k) (by simp [IsKey]), run_findKey hk h1, hj, h3, run_keyThatStays (d := .int .i64) (k := .int .i64 k) (by simp [IsKey]), MapKept.run_setObj_map _ hb, Result.andThen]
    · exact stamped_modify hs _ _ (fun _ _ => rfl) (fun e' _ he' => by rw [hj] at he'; cases he'; exact h3.symm)
    · have : (es.modify j fun x => { x with key := .int .i64 k, val := v }).toList = es.toList.set j { e with key := .int .i64 k, val := v } := by
        apply List.ext_getElem?
        intro i
        rw [List.getElem?_set]
        simp only [Array.getElem?_toList, Array.getElem?_modify]
        by_cases hij : j = i
        · subst hij
          simp [hj, hjl, hje]
        · simp [hij]
      rw [this, List.map_set, hL, List.map_set]
      rfl
end
end Go.Proofs.Ytcgdlmlolmfinaa
