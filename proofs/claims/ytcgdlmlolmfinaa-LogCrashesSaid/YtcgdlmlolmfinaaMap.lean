/- Maps with int keys: a block that is a map of known entries; look-up, length, deletion, a new entry. Over any program. -/
import Derived.Test.YtcgdlmlolmfinaaSli
import Derived.MapKept
import Derived.Maps.OwnOps
namespace Go.Proofs.Ytcgdlmlolmfinaa
open Go.RowKit Go.MapKept

/-- What lies at key k of a list of entries. -/
def look (L : List (Int × Value)) (k : Int) : Option Value := (L.find? (·.1 == k)).map (·.2)
def del (L : List (Int × Value)) (k : Int) : List (Int × Value) := L.eraseP (·.1 == k)
def entryOf (e : MapEntry) : Value × Value := (e.key, e.val)
def pairOf (p : Int × Value) : Value × Value := (.int .i64 p.1, p.2)

/-- Block b is a map whose entries are L, in this order. -/
def IM (w : World) (b : Nat) (es : Array MapEntry) (clock : Nat) (L : List (Int × Value)) : Prop :=
  w.heap[b]? = some (.map es clock) ∧ Stamped es clock ∧ es.toList.map entryOf = L.map pairOf
def IMap (w : World) (b : Nat) (L : List (Int × Value)) : Prop := ∃ es clock, IM w b es clock L

theorem findNow_int (k : Int) : ∀ (L : List (Int × Value)) (es : List MapEntry) (i : Nat), es.map entryOf = L.map pairOf →
    ∃ j, Instr.findNow (.int .i64) (.int .i64 k) es i = some ((L.find? (·.1 == k)).map fun p => (i + j, p.2)) ∧ ((L.find? (·.1 == k)).isSome = true → j < es.length ∧ (es.eraseIdx j).map entryOf = (L.eraseP (·.1 == k)).map pairOf)
  | [], [], i, _ => ⟨0, rfl, fun h => by cases h⟩
  | [], _ :: _, _, h => by cases h
  | _ :: _, [], _, h => by cases h
  | p :: L, e :: es, i, h => by
    simp only [List.map_cons, List.cons.injEq] at h
    obtain ⟨h1, h2⟩ := h
    have hk : e.key = .int .i64 p.1 := congrArg Prod.fst h1
    have hv : e.val = p.2 := congrArg Prod.snd h1
    by_cases hp : p.1 = k
    · refine ⟨0, ?_, fun _ => ⟨by simp, ?_⟩⟩
      · simp [Instr.findNow, Instr.sameNow, hk, hp, hv]
      · simp [hp, h2]
    · obtain ⟨j, hj1, hj2⟩ := findNow_int k L es (i + 1) h2
      have hne : (p.1 == k) = false := by simpa using hp
      have hne' : (k == p.1) = false := by simpa using fun e => hp e.symm
      refine ⟨j + 1, ?_, fun hs => ?_⟩
      · simp only [Instr.findNow, Instr.sameNow, hk, if_pos, hne', List.find?_cons, hne]
        rw [hj1]
        congr 2
        funext q
        congr 1
        omega
      · have hs' : (L.find? (·.1 == k)).isSome = true := by simpa [List.find?_cons, hne] using hs
        obtain ⟨hl, he⟩ := hj2 hs'
        refine ⟨by simp; omega, ?_⟩
        rw [List.eraseIdx_cons_succ, List.eraseP_cons_of_neg (by simpa using hp), List.map_cons, List.map_cons, h1, he]

section
variable {P : Program} {w : World} {t kt et b : Nat} {L : List (Int × Value)}
theorem run_look_ok (h : IMap w b L) (ht : P.underlying t = some (.map kt et)) (hk : P.underlying kt = some (.int .i64)) {z : Value} (hz : (zeroValue et).run P w = .ok z w) (k : Int) :
    (Instr.lookup t (.map (some b)) (.int .i64 k) true).run P w = .ok (.tuple #[(look L k).getD z, .bool (look L k).isSome]) w := by
  obtain ⟨es, clock, hb, _, hL⟩ := h
  obtain ⟨j, h1, _⟩ := findNow_int k L es.toList 0 hL
  unfold look
  cases hf : L.find? (·.1 == k) with
  | none =>
    rw [hf] at h1
    simp [Instr.lookup, run_underlying ht, MapKept.run_getObj_map hb, run_checkKey hk (d := .int .i64) (k := .int .i64 k) (by simp [IsKey]), run_findKey hk h1, hz, Result.andThen]
  | some p =>
    rw [hf] at h1
    simp [Instr.lookup, run_underlying ht, MapKept.run_getObj_map hb, run_checkKey hk (d := .int .i64) (k := .int .i64 k) (by simp [IsKey]), run_findKey hk h1, Result.andThen]

theorem run_look (h : IMap w b L) (ht : P.underlying t = some (.map kt et)) (hk : P.underlying kt = some (.int .i64)) {z : Value} (hz : (zeroValue et).run P w = .ok z w) (k : Int) :
    (Instr.lookup t (.map (some b)) (.int .i64 k) false).run P w = .ok ((look L k).getD z) w := by
  obtain ⟨es, clock, hb, _, hL⟩ := h
  obtain ⟨j, h1, _⟩ := findNow_int k L es.toList 0 hL
  unfold look
  cases hf : L.find? (·.1 == k) with
  | none =>
    rw [hf] at h1
    simp [Instr.lookup, run_underlying ht, MapKept.run_getObj_map hb, run_checkKey hk (d := .int .i64) (k := .int .i64 k) (by simp [IsKey]), run_findKey hk h1, hz, Result.andThen]
  | some p =>
    rw [hf] at h1
    simp [Instr.lookup, run_underlying ht, MapKept.run_getObj_map hb, run_checkKey hk (d := .int .i64) (k := .int .i64 k) (by simp [IsKey]), run_findKey hk h1, Result.andThen]

theorem IMap.size (h : IMap w b L) : ∃ es clock, w.heap[b]? = some (.map es clock) ∧ es.size = L.length := by
  obtain ⟨es, clock, hb, _, hL⟩ := h
  refine ⟨es, clock, hb, ?_⟩
  have := congrArg List.length hL
  simpa using this

theorem run_maplen (h : IMap w b L) (ht : P.underlying t = some (.map kt et)) (ty : TypeId) : (Builtin.len_ #[t] ty #[.map (some b)]).run P w = .ok (.int .i64 L.length) w := by
  obtain ⟨es, clock, hb, hs⟩ := h.size
  simp [Builtin.len_, run_underlying ht, MapKept.run_getObj_map hb, Result.andThen, hs, goInt]

theorem look_none {k : Int} (h : look L k = none) : ∀ p ∈ L, p.1 ≠ k := by
  unfold look at h
  rw [Option.map_eq_none_iff, List.find?_eq_none] at h
  intro p hp e
  have := h p hp
  simp [e] at this

theorem run_delete (h : IMap w b L) (ht : P.underlying t = some (.map kt et)) (hk : P.underlying kt = some (.int .i64)) (k : Int) (ty : TypeId) :
    ∃ w', (Builtin.delete_ #[t, kt] ty #[.map (some b), .int .i64 k]).run P w = .ok (.tuple #[]) w' ∧ IMap w' b (del L k) ∧ Left [b] w w' := by
  obtain ⟨es, clock, hb, hs, hL⟩ := h
  obtain ⟨j, h1, h2⟩ := findNow_int k L es.toList 0 hL
  have hleft : ∀ o, Left [b] w { w with heap := w.heap.setIfInBounds b o } := fun o =>
    ⟨rfl, rfl, rfl, by simp, fun k _ hn => (heap_set hb).2 k (by simpa using hn)⟩
  cases hf : L.find? (·.1 == k) with
  | none =>
    rw [hf] at h1
    refine ⟨_, by simp [Builtin.delete_, run_underlying ht, MapKept.run_getObj_map hb, run_checkKey hk (d := .int .i64) (k := .int .i64 k) (by simp [IsKey]), run_findKey hk h1, MapKept.run_setObj_map _ hb, Result.andThen], ⟨es, clock, (heap_set hb).1, hs, ?_⟩, hleft _⟩
    rw [hL, del, List.eraseP_of_forall_not]
    intro p hp
    exact (List.find?_eq_none.1 hf) p hp
  | some p =>
    rw [hf] at h1 h2
    obtain ⟨hj, he⟩ := h2 rfl
    refine ⟨_, by simp [Builtin.delete_, run_underlying ht, MapKept.run_getObj_map hb, run_checkKey hk (d := .int .i64) (k := .int .i64 k) (by simp [IsKey]), run_findKey hk h1, MapKept.run_setObj_map _ hb, Result.andThen], ⟨es.eraseIdxIfInBounds j, clock, (heap_set hb).1, stamped_erase hs _, ?_⟩, hleft _⟩
    rw [del, ← he]
    have hjs : j < es.size := by simpa using hj
    simp [Array.eraseIdxIfInBounds, hjs]

theorem IM.pushed {es : Array MapEntry} {clock : Nat} (h : IM w b es clock L) {k : Int} (hn : look L k = none) (v : Value) {w' : World} (hb : w'.heap[b]? = some (.map (es.push ⟨.int .i64 k, v, clock⟩) (clock + 1))) : IMap w' b (L ++ [(k, v)]) := by
  obtain ⟨h0, hs, hL⟩ := h
  refine ⟨_, _, hb, stamped_push hs (fun x hx => ?_), by simp [hL, entryOf, pairOf]⟩
  intro e
  have hm : entryOf x ∈ L.map pairOf := by rw [← hL]; exact List.mem_map_of_mem hx
  obtain ⟨p, hp, hpx⟩ := List.mem_map.1 hm
  have hk : Value.int .i64 p.1 = x.key := congrArg Prod.fst hpx
  rw [e] at hk
  injection hk with _ hk
  exact look_none hn p hp hk
theorem IMap.keep {w' : World} (h : IMap w b L) (hb : w'.heap[b]? = w.heap[b]?) : IMap w' b L := by
  obtain ⟨es, clock, h0, hs⟩ := h
  exact ⟨es, clock, hb.trans h0, hs⟩
theorem IMap.lt (h : IMap w b L) : b < w.heap.size := by
  obtain ⟨es, clock, h0, _⟩ := h
  rcases Nat.lt_or_ge b w.heap.size with hl | hl
  · exact hl
  · rw [Array.getElem?_eq_none hl] at h0; cases h0
theorem IMap.left {w' : World} {S : List Nat} (h : IMap w b L) (hl : Left S w w') (hn : b ∉ S) : IMap w' b L := h.keep (hl.block b h.lt hn)
theorem IMap.new (w : World) : IMap (w.alloc (.map #[] 0)) w.heap.size [] := ⟨#[], 0, heap_alloc_new w _, stamped_empty _, rfl⟩

/-- A new key: the entry is laid, with its element's zero; then the element is stored. -/
theorem run_entry_new {es : Array MapEntry} {clock : Nat} (h : IM w b es clock L) (ht : P.underlying t = some (.map kt et)) (hk : P.underlying kt = some (.int .i64)) {z : Value} (hz : (zeroValue et).run P w = .ok z w) {k : Int} (hn : look L k = none) :
    (Instr.mapEntry t (.map (some b)) (.int .i64 k)).run P w = .ok (.tuple #[z, goInt clock]) { w with heap := w.heap.setIfInBounds b (.map (es.push ⟨.int .i64 k, z, clock⟩) (clock + 1)) } := by
  obtain ⟨hb, _, hL⟩ := h
  obtain ⟨j, h1, _⟩ := findNow_int k L es.toList 0 hL
  have hf : L.find? (·.1 == k) = none := by
    unfold look at hn
    exact Option.map_eq_none_iff.1 hn
  rw [hf] at h1
  simp [Instr.mapEntry, run_underlying ht, MapKept.run_getObj_map hb, run_checkKey hk (d := .int .i64) (k := .int .i64 k) (by simp [IsKey]), run_findKey hk h1, hz, MapKept.run_setObj_map _ hb, Result.andThen]

theorem run_entry_store {es : Array MapEntry} {clock : Nat} (hs : Stamped es clock) {k : Int} {z v : Value} (hb : w.heap[b]? = some (.map (es.push ⟨.int .i64 k, z, clock⟩) (clock + 1))) :
    (Instr.entryStore t (.map (some b)) (goInt clock) v).run P w = .ok () { w with heap := w.heap.setIfInBounds b (.map (es.push ⟨.int .i64 k, v, clock⟩) (clock + 1)) } := by
  have hfi : (es.push ⟨.int .i64 k, z, clock⟩).findIdx? (fun e => (e.born : Int) == (clock : Int)) = some es.size := by
    rw [Array.findIdx?_push]
    have h0 : es.findIdx? (fun e => (e.born : Int) == (clock : Int)) = none := by
      rw [Array.findIdx?_eq_none_iff]
      intro e he
      have := hs.1 e (by simpa using he)
      simp
      omega
    simp [h0]
  have hm : (es.push ⟨.int .i64 k, z, clock⟩).modify es.size (fun e => { e with val := v }) = es.push ⟨.int .i64 k, v, clock⟩ := by
    apply Array.ext
    · simp
    · intro i h1 h2
      simp only [Array.getElem_modify, Array.getElem_push]
      by_cases hi : i < es.size
      · simp [hi]; intro e; omega
      · have : i = es.size := by simp at h1; omega
        subst this
        simp
  simp [Instr.entryStore, MapKept.run_getObj_map hb, asInt, asIntOf, goInt, hfi, hm, MapKept.run_setObj_map _ hb, Result.andThen]
end
end Go.Proofs.Ytcgdlmlolmfinaa
