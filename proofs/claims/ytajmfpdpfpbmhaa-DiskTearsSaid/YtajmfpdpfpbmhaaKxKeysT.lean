/- slices.Sorted(maps.Keys(m)) at this program: what the evaluator takes for known. -/
import Derived.Test.YtajmfpdpfpbmhaaKxLaid
import Derived.Test.YtajmfpdpfpbmhaaKxKeys
namespace Go.Proofs.Ytajmfpdpfpbmhaa
open Go.RowKit Go.Maps Go.Sort Go.Shelf Go.MapKept Go.Proofs.Ytajmfpdpfpbmhaa.Kx
theorem sortsA (m : Nat) : AnyZI.SortsIn Try.prog Try.sortedA_ren Fence.wide m :=
  ⟨fun blk off cap ss W hH hblk hsz => callsIn_wide.2 (AnyM.slices_Sort_int Try.sortA blk off cap ss W hH hblk hsz),
   fun p cap W => callsIn_wide.2 (AnyM.slices_Sort_int_none Try.sortA p cap W)⟩
theorem insert_perm {H : Type} (x : Lit × DataW H) : ∀ l : List (Lit × DataW H), (DataW.insert x l).Perm (x :: l)
  | [] => .refl _
  | y :: r => by
    unfold DataW.insert
    split
    · exact .refl _
    · exact ((insert_perm x r).cons y).trans (.swap _ _ _)
theorem inserts_perm {H : Type} : ∀ l : List (Lit × DataW H), (l.foldr DataW.insert []).Perm l
  | [] => .nil
  | x :: l => (insert_perm x _).trans ((inserts_perm l).cons x)
/-- How the values read: not at all. -/
def unread (_ : Value) : Option (DataW Unit × List MemPlace) := some (.nil, [])
theorem key_ok {z : Int} (h : IntKind.i64.wrap z = z) : keyOf Try.prog 3 (.int .i64 z) = some (.int .i64 z) := by
  refine keyOf_int_mk Try.underlying3 ?_
  rw [IntKind.wrap_i64] at h
  simp [Lit.wf, IntKind.min, IntKind.max, IntKind.bits, IntKind.signed]
  omega
set_option maxRecDepth 10000 in
theorem rgs : ∀ (es : List MapEntry) (ks : List Int), es.map (·.key) = ks.map (Value.int .i64) → (∀ k ∈ ks, IntKind.i64.wrap k = k) → (es.map (WideElems.rg Try.prog 3 unread)).map (fun p => Go.intOf p.1) = ks ∧ ∀ x ∈ es, ∃ y, WideElems.rd Try.prog 3 unread x = some y
  | [], [], _, _ => ⟨rfl, fun _ h => by cases h⟩
  | [], _ :: _, h, _ => by cases h
  | _ :: _, [], h, _ => by cases h
  | e :: es, k :: ks, h, hw => by
    simp only [List.map_cons, List.cons.injEq] at h
    obtain ⟨h1, h2⟩ := h
    obtain ⟨i1, i2⟩ := rgs es ks h2 (fun q hq => hw q (.tail _ hq))
    have hk := key_ok (hw k (.head _))
    have hr : WideElems.rd Try.prog 3 unread e = some (.int .i64 k, .nil) := by
      unfold WideElems.rd
      rw [h1, hk]
      rfl
    refine ⟨?_, fun x hx => ?_⟩
    · have hg : WideElems.rg Try.prog 3 unread e = (.int .i64 k, .nil) := by
        unfold WideElems.rg
        rw [hr]
        rfl
      rw [List.map_cons, List.map_cons, i1, hg]
      rfl
    · cases hx with
      | head => exact ⟨_, hr⟩
      | tail _ hx => exact i2 x hx
theorem keysT : KeysT Try.prog 40 39 51 75 3 where
  keys := fun M w => (callsIn_wide (n := 5)).1 (AnyZI.keys_in Try.keysA Fence.wide 5 trivial rfl (some M) w)
  sorted := fun Bm M es clock ks w hBm hcell hM hkeys hwf hst hlen => by
    obtain ⟨r1, r2⟩ := rgs es.toList ks hkeys hwf
    have hsz : es.size = ks.length := by
      have := congrArg List.length hkeys
      simpa using this
    obtain ⟨D0, hD0⟩ : ∃ D0 : DataW Unit, D0 = .map ((es.toList.map (WideElems.rg Try.prog 3 unread)).foldr DataW.insert []) := ⟨_, rfl⟩
    have hown : w.ownsMap Try.prog 3 unread M es.size D0 := ⟨es, clock, hM, ⟨by unfold maxLen; omega, hst, r2⟩, Nat.le_refl _, hD0⟩
    have hperm : (intKeys D0).Perm ks := by
      rw [hD0]
      show (((es.toList.map (WideElems.rg Try.prog 3 unread)).foldr DataW.insert []).map fun p => Go.intOf p.1).Perm ks
      have := (inserts_perm (es.toList.map (WideElems.rg Try.prog 3 unread))).map fun p => Go.intOf p.1
      rw [r1] at this
      exact this
    have hsize : Maps.size D0 = ks.length := by
      rw [hD0, Maps.size_eq, (inserts_perm _).length_eq]
      simpa using hsz
    have hseq : SeqGives Fence.wide 2 Try.prog 51 #[.pointer (some ⟨Bm, 0, none⟩)] encZ (fun ss => ss.Perm (intKeys D0)) (Maps.size D0) w :=
      AnyZI.keys_gives (ρ := Try.keysA_ren) { Try.keysA with } Fence.wide _ trivial rfl (by omega) Bm M es.size D0 w hBm hcell hown
    have cS := AnyZI.sorted_in Try.sortedA Fence.wide 5 trivial trivial trivial trivial rfl (by omega) (sortsA _) (enters_of Try.func50 (by kernel_rfl) rfl) 51 #[.pointer (some ⟨Bm, 0, none⟩)] trivial (enters_of Try.func51 (by kernel_rfl) rfl) _ _ (by rw [hsize]; unfold maxLen; omega) (by rw [hsize]; omega) w hseq
    change CallsIn _ _ Try.prog 39 _ _ _ at cS
    refine ((callsIn_wide (n := 5)).1 cS).mono ?_
    rintro e w' ⟨v, ss, rfl, hp, hrow, hnil, hb⟩
    exact ⟨v, ss, rfl, hp.trans hperm, hrow, hnil, hb⟩
end Go.Proofs.Ytajmfpdpfpbmhaa
