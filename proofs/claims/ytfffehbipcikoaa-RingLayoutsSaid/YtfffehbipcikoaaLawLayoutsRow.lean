/- RingLayouts: for every list of integers the law returns true, and its argument reads afterwards as it read before. No conditions. -/

import Derived.Test.YtfffehbipcikoaaLawLayouts
import Derived.Test.YtfffehbipcikoaaRowKit
namespace Go.Proofs.Ytfffehbipcikoaa.ringLayouts
open Go.ChangeShapes Go.WideShapes Go.ChangeAt Go.RowKit

theorem cellsInt : Try.prog.cellsOf 3 = 1 := by kernel_rfl
set_option maxRecDepth 100000 in
theorem walk {H : Type} (W : World) (base : Nat) (v : Value) (d : DataW H) (p : List MemPlace) (enc : TypeId × Value → H) (hv : Value.okWide Try.prog W .any base 22 v)
    (h0 : DataW.Trod enc Try.prog W 0 (fun _ => true) true 22 v d p) (hlt : ∀ x ∈ p, x.block < W.heap.size) (_hsz : (DataW.weightsEach Try.prog ([22] ++ Rows.ringLayoutsSpec.plain.varTypes Try.prog) ([d] ++ [])).all (· ≤ reachBytes) = true) :
    Calls Try.prog 3 #[v] W fun e W' => e = .returned (.bool true) ∧ Below W.heap.size W W' := by
  obtain ⟨a0, len, cap, rfl⟩ := okWide_slice Try.underlying22 hv
  obtain ⟨fuel, hf⟩ := h0
  rcases open_ints Try.underlying22 Try.underlying3 cellsInt hf with ⟨hcs, hx⟩ | ⟨a, len', cap', zs, hcs, _, hl, hm, hz, hx, hcell, hwz⟩
  · have hcs' : a0 = none ∧ len = 0 ∧ cap = 0 := by simpa [Value.cells] using hcs
    obtain ⟨rfl, rfl, rfl⟩ := hcs'
    exact RingLayouts_any none 0 0 [] W (by omega) (fun i hi => by omega)
  · simp only [Value.cells, List.cons.injEq, Value.slice.injEq, and_true] at hcs
    obtain ⟨rfl, rfl, rfl⟩ := hcs
    refine RingLayouts_any _ _ _ zs W (by unfold maxLen at hm; omega) (fun i hi => ?_)
    have hzl : len ≤ zs.length := by rw [hz]; split <;> omega
    have hs : a.spot = none := by have := hcell 0 (by omega); simp only [Addr.add, if_true] at this; exact spot_none this
    refine ⟨a, rfl, hs, spot_of_cell (hcell i (by omega)) (fun _ => hs), hlt (.cell a.block (a.off + i)) ?_⟩
    simp only [Prod.mk.injEq] at hx
    rw [hx.2]
    unfold MemPlace.row
    exact List.mem_map.2 ⟨i, by simp; omega, rfl⟩
set_option maxRecDepth 100000 in
    theorem lifted (os : Os) (started : os.Started) (H : Type) (enc : TypeId × Value → H) :
        ReturnsInHanded {} Try.checked os 3 .any (Rows.ringLayoutsSpec.pre6 enc Try.prog Try.f3 Rows.ringLayoutsRow.domain false) (Rows.ringLayoutsSpec.post enc Try.prog Try.f3 false true false false) := by
      refine returnsInHanded_of_change_sized (C := Try.checked) (by kernel_rfl) started (by kernel_rfl) Try.func3
        (ChangeSpec.witness6 (enc := enc) (C := Try.checked) false ⟨#[], #[.slice none 0 0], []⟩ 8 (by kernel_rfl) (by kernel_rfl) (by kernel_rfl) (by kernel_rfl)) ?_
      intro W base args ds gs before hval0 hW _ hsz0 _
      have hval : ∀ (j : Nat) t v, Try.f3.params[j]? = some t → args[j]? = some v → Value.okWide Try.prog W .any base t v := hval0
      have hsz : (DataW.weightsEach Try.prog (Try.f3.params.toList ++ Rows.ringLayoutsSpec.plain.varTypes Try.prog) (ds ++ gs)).all (· ≤ reachBytes) = true := hsz0
      have hlt := hW.lt
      have hW' := hW
      obtain ⟨p, q, hA0, hV, rfl, hfz, hnd⟩ := hW
      have hA : DataW.TrodAll enc Try.prog W 0 (fun _ => true) true Try.f3.params.toList args.toList ds p := hA0
      rw [Try.params3] at hA hval hsz
      obtain ⟨v0, d0, rfl, rfl, h0⟩ := trodAll_one hA
      obtain ⟨rfl, rfl⟩ := trodVars_none hV
      clear hA0 hval0 hsz0
      simp only [List.append_nil] at hW' hlt
      refine (walk W base v0 d0 p enc (hval 0 22 v0 rfl rfl) h0 hlt hsz).mono fun e W' ⟨he, hb⟩ => ?_
      subst he
      exact ⟨.bool true, rfl, ds_post (v := .bool true) hW' (fun _ _ _ => trodAll_mk1 (shut_bool Try.underlying4 _)) (trodAll_mk1 (Below.trod (by kernel_rfl) (by kernel_rfl) (of_decide_eq_true (by kernel_rfl)) h0 hb hlt)) rfl hb⟩
    
    theorem proved : Rows.RingLayoutsSaid :=
      OpenClaim.holds_of_wide 3 Try.f3 rfl rfl rfl rfl rfl rfl rfl ⟨rfl, rfl, rfl, rfl, rfl⟩ rfl rfl rfl rfl rfl (by kernel_rfl) Try.func3 (by kernel_rfl)
        (of_decide_eq_true (by kernel_rfl)) (by unfold Func.isWrapper; first | (rw [if_pos (by decide +kernel)]; kernel_rfl) | (rw [if_neg (by decide +kernel)]; exact ⟨rfl, rfl⟩))
        (fun os started H enc _ => lifted os started H enc)
end Go.Proofs.Ytfffehbipcikoaa.ringLayouts
