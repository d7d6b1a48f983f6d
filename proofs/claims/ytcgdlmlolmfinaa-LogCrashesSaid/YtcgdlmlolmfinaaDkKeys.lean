/- slices.Sorted(maps.Keys(m)) over a map with int keys: the kit's contracts, said for an IMap. -/
import Derived.Test.YtcgdlmlolmfinaaDkLaid
import Derived.Test.YtcgdlmlolmfinaaRng
import Derived.Laws.AppendOwn
import Derived.MapKept
namespace Go.Proofs.Ytcgdlmlolmfinaa
open Go.RowKit Go.Maps Go.Sort Go.Shelf Go.MapKept
theorem sortsA (m : Nat) : AnyZI.SortsIn Try.prog Try.sortedA_ren Fence.wide m :=
  ⟨fun blk off cap ss W hH hblk hsz => callsIn_wide.2 (AnyM.slices_Sort_int Try.sortA blk off cap ss W hH hblk hsz),
   fun p cap W => callsIn_wide.2 (AnyM.slices_Sort_int_none Try.sortA p cap W)⟩
theorem insert_perm {H : Type} (x : Lit × DataW H) : ∀ l : List (Lit × DataW H), (DataW.insert x l).Perm (x :: l)
  | [] => .refl _
  | y :: r => by
    unfold DataW.insert
    split
    · exact .refl _
    · exact ((insert_perm x r).cons y).trans (.swap _ _ _)
theorem inserts_perm {H : Type} : ∀ l : List (Lit × DataW H), (l.foldr DataW.insert []).Perm l
  | [] => .nil
  | x :: l => (insert_perm x _).trans ((inserts_perm l).cons x)
/-- How the values read: not at all. -/
def unread (_ : Value) : Option (DataW Unit × List MemPlace) := some (.nil, [])
theorem key_ok {z : Int} (h : IntKind.i64.wrap z = z) : keyOf Try.prog 3 (.int .i64 z) = some (.int .i64 z) := by
  refine keyOf_int_mk Try.underlying3 ?_
  rw [IntKind.wrap_i64] at h
  simp [Lit.wf, IntKind.min, IntKind.max, IntKind.bits, IntKind.signed]
  omega
set_option maxRecDepth 10000 in
theorem rgs : ∀ (es : List MapEntry) (ks : List Int), es.map (·.key) = ks.map (Value.int .i64) → (∀ k ∈ ks, IntKind.i64.wrap k = k) → (es.map (WideElems.rg Try.prog 3 unread)).map (fun p => Go.intOf p.1) = ks ∧ ∀ x ∈ es, ∃ y, WideElems.rd Try.prog 3 unread x = some y
  | [], [], _, _ => ⟨rfl, fun _ h => by cases h⟩
  | [], _ :: _, h, _ => by cases h
  | _ :: _, [], h, _ => by cases h
  | e :: es, k :: ks, h, hw => by
    simp only [List.map_cons, List.cons.injEq] at h
    obtain ⟨h1, h2⟩ := h
    obtain ⟨i1, i2⟩ := rgs es ks h2 (fun q hq => hw q (.tail _ hq))
    have hk := key_ok (hw k (.head _))
    have hr : WideElems.rd Try.prog 3 unread e = some (.int .i64 k, .nil) := by
      unfold WideElems.rd
      rw [h1, hk]
      rfl
    refine ⟨?_, fun x hx => ?_⟩
    · have hg : WideElems.rg Try.prog 3 unread e = (.int .i64 k, .nil) := by
        unfold WideElems.rg
        rw [hr]
        rfl
      rw [List.map_cons, List.map_cons, i1, hg]
      rfl
    · cases hx with
      | head => exact ⟨_, hr⟩
      | tail _ hx => exact i2 x hx
theorem keys_any (M : Nat) (w : World) : Calls Try.prog 44 #[.map (some M)] w fun e w' => e = .returned (.func (.func 56) #[] #[.pointer (some ⟨w.heap.size, 0, none⟩)]) ∧ w' = w.alloc (.cells #[.map (some M)] 65) :=
  (callsIn_wide (n := 5)).1 (AnyZI.keys_in Try.keysA Fence.wide 5 trivial rfl (some M) w)
theorem sorted_any {L : List (Int × Value)} {w : World} {M Bm : Nat} (hBm : Bm < w.heap.size) (hcell : w.cell? ⟨Bm, 0, none⟩ = some (.map (some M))) (h : IMap w M L) (hw : ∀ p ∈ L, IntKind.i64.wrap p.1 = p.1) (hlen : L.length < 100000) :
    Calls Try.prog 43 #[.func (.func 56) #[] #[.pointer (some ⟨Bm, 0, none⟩)]] w fun e w' => ∃ (v : Value) (ss : List Int), e = .returned v ∧ ss.Perm (L.map (·.1)) ∧ ss.Pairwise (· ≤ ·) ∧
      w'.ownsRow w.heap.size 3 1 v ss.length (ss.map (Value.int .i64)) ∧ Below w.heap.size w w' := by
  obtain ⟨es, clock, hM, hst, hes⟩ := h
  have hkeys : es.toList.map (·.key) = (L.map (·.1)).map (Value.int .i64) := by
    have := congrArg (List.map Prod.fst) hes
    simpa [List.map_map, Function.comp_def, entryOf, pairOf] using this
  have hwf : ∀ k ∈ L.map (·.1), IntKind.i64.wrap k = k := fun k hk => by
    obtain ⟨p, hp, rfl⟩ := List.mem_map.1 hk
    exact hw p hp
  obtain ⟨ks, hks⟩ : ∃ ks, L.map (·.1) = ks := ⟨_, rfl⟩
  have hkl : ks.length < 100000 := by rw [← hks, List.length_map]; exact hlen
  rw [hks] at hkeys hwf ⊢
  obtain ⟨r1, r2⟩ := rgs es.toList ks hkeys hwf
  have hsz : es.size = ks.length := by
    have := congrArg List.length hkeys
    simpa using this
  obtain ⟨D0, hD0⟩ : ∃ D0 : DataW Unit, D0 = .map ((es.toList.map (WideElems.rg Try.prog 3 unread)).foldr DataW.insert []) := ⟨_, rfl⟩
  have hown : w.ownsMap Try.prog 3 unread M es.size D0 := ⟨es, clock, hM, ⟨by unfold maxLen; omega, hst, r2⟩, Nat.le_refl _, hD0⟩
  have hperm : (intKeys D0).Perm ks := by
    rw [hD0]
    show (((es.toList.map (WideElems.rg Try.prog 3 unread)).foldr DataW.insert []).map fun p => Go.intOf p.1).Perm ks
    have := (inserts_perm (es.toList.map (WideElems.rg Try.prog 3 unread))).map fun p => Go.intOf p.1
    rw [r1] at this
    exact this
  have hsize : Maps.size D0 = ks.length := by
    rw [hD0, Maps.size_eq, (inserts_perm _).length_eq]
    simpa using hsz
  have hseq : SeqGives Fence.wide 2 Try.prog 56 #[.pointer (some ⟨Bm, 0, none⟩)] encZ (fun ss => ss.Perm (intKeys D0)) (Maps.size D0) w :=
    AnyZI.keys_gives (ρ := Try.keysA_ren) { Try.keysA with } Fence.wide _ trivial rfl (by omega) Bm M es.size D0 w hBm hcell hown
  have cS := AnyZI.sorted_in Try.sortedA Fence.wide 5 trivial trivial trivial trivial rfl (by omega) (sortsA _) (enters_of Try.func55 (by kernel_rfl) rfl) 56 #[.pointer (some ⟨Bm, 0, none⟩)] trivial (enters_of Try.func56 (by kernel_rfl) rfl) _ _ (by rw [hsize]; unfold maxLen; omega) (by rw [hsize]; omega) w hseq
  change CallsIn _ _ Try.prog 43 _ _ _ at cS
  refine ((callsIn_wide (n := 5)).1 cS).mono ?_
  rintro e w' ⟨v, ss, rfl, hp, hrow, hnil, hb⟩
  refine ⟨v, ss.mergeSort (fun x y => decide (x ≤ y)), rfl, ((List.mergeSort_perm ss _).trans hp).trans hperm, ?_, by rw [List.length_mergeSort]; exact hrow, hb⟩
  have := List.pairwise_mergeSort (le := fun x y : Int => decide (x ≤ y)) (fun a b c h1 h2 => by simp only [decide_eq_true_eq] at *; omega) (fun a b => by simp only [Bool.or_eq_true, decide_eq_true_eq]; omega) ss
  exact this.imp (fun h => by simpa using h)
end Go.Proofs.Ytcgdlmlolmfinaa
