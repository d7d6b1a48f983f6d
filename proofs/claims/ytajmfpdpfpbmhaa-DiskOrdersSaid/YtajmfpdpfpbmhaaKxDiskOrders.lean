/- DiskOrders: for every script the law returns true, and its argument reads afterwards as it read before. No conditions. -/

import Derived.Test.YtajmfpdpfpbmhaaKxKit
import Derived.Test.YtajmfpdpfpbmhaaKxKeysT
namespace Go.Proofs.Ytajmfpdpfpbmhaa.diskOrders
open Go.ChangeShapes Go.WideShapes Go.ChangeAt Go.RowKit
open Go.Proofs.Ytajmfpdpfpbmhaa.Kx
noncomputable def ov : Ovs := ovl [(40, ovKeys 51 75), (39, ovSorted 51 3)]
theorem ov_ok : OvsOk Try.prog ov := by
  refine ovl_ok fun p hp => ?_
  simp only [List.mem_cons, List.mem_nil_iff, or_false] at hp
  rcases hp with rfl | rfl
  · exact ovKeys_ok keysT ⟨_, Try.func40, by kernel_rfl, by kernel_rfl⟩
  · exact ovSorted_ok keysT ⟨_, Try.func39, by kernel_rfl, by kernel_rfl⟩
open Go.Proofs.Ytajmfpdpfpbmhaa.Kx
set_option maxRecDepth 100000 in
theorem ev_ok : isT (rn Try.prog ov 10000 (.call 6 [.agg ([51, 52].map (absT Try.prog))]) .e ⟨.e, 0⟩) = true := by kernel_rfl
set_option maxRecDepth 100000 in
theorem walk {H : Type} (W : World) (base : Nat) (v : Value) (d : DataW H) (p : List MemPlace) (enc : TypeId × Value → H) (hv : Value.okWide Try.prog W .any base 54 v)
    (_h0 : DataW.Trod enc Try.prog W 0 (fun _ => true) true 54 v d p) (_hlt : ∀ x ∈ p, x.block < W.heap.size) (_hsz : True) :
    Calls Try.prog 6 #[v] W fun e W' => e = .returned (.bool true) ∧ Below W.heap.size W W' := by
  exact run_true (Ov := ov) (args' := [v]) Try.checked.mixed ov_ok ev_ok (.cons _ _ _ _ (abs_struct Try.underlying54 (ts := [51, 52]) (by kernel_rfl) (by kernel_rfl) hv) .nil) W
set_option maxRecDepth 100000 in
theorem lifted (os : Os) (started : os.Started) (H : Type) (enc : TypeId × Value → H) :
    ReturnsInHanded {} Try.checked os 6 .any (Rows.diskOrdersSpec.pre6 enc Try.prog Try.f6 Rows.diskOrdersRow.domain false) (Rows.diskOrdersSpec.post enc Try.prog Try.f6 false true false false) := by
  refine returnsInHanded_of_change_sized (C := Try.checked) (by kernel_rfl) started (by kernel_rfl) Try.func6
    (ChangeSpec.witness6 (enc := enc) (C := Try.checked) false ⟨#[], #[.agg #[.slice none 0 0, .slice none 0 0]], []⟩ 8 (by kernel_rfl) (by kernel_rfl) (by kernel_rfl) (by kernel_rfl)) ?_
  intro W base args ds gs before hval0 hW _ _ _
  have hval : ∀ (j : Nat) t v, Try.f6.params[j]? = some t → args[j]? = some v → Value.okWide Try.prog W .any base t v := hval0
  have hlt := hW.lt
  have hW' := hW
  obtain ⟨p, q, hA0, hV, rfl, hfz, hnd⟩ := hW
  have hA : DataW.TrodAll enc Try.prog W 0 (fun _ => true) true Try.f6.params.toList args.toList ds p := hA0
  rw [Try.params6] at hA hval
  obtain ⟨v0, d0, rfl, rfl, h0⟩ := trodAll_one hA
  obtain ⟨rfl, rfl⟩ := trodVars_none hV
  clear hA0 hval0
  simp only [List.append_nil] at hW' hlt
  refine (walk W base v0 d0 p enc (hval 0 54 v0 rfl rfl) h0 hlt trivial).mono fun e W' ⟨he, hb⟩ => ?_
  subst he
  exact ⟨.bool true, rfl, ds_post (v := .bool true) hW' (fun _ _ _ => trodAll_mk1 (shut_bool Try.underlying4 _)) (trodAll_mk1 (Below.trod (by kernel_rfl) (by kernel_rfl) (of_decide_eq_true (by kernel_rfl)) h0 hb hlt)) rfl hb⟩

theorem proved : Rows.DiskOrdersSaid :=
  OpenClaim.holds_of_wide 6 Try.f6 rfl rfl rfl rfl rfl rfl rfl ⟨rfl, rfl, rfl, rfl, rfl⟩ rfl rfl rfl rfl rfl (by kernel_rfl) Try.func6 (by kernel_rfl)
    (of_decide_eq_true (by kernel_rfl)) (by unfold Func.isWrapper; first | (rw [if_pos (by decide +kernel)]; kernel_rfl) | (rw [if_neg (by decide +kernel)]; exact ⟨rfl, rfl⟩))
    (fun os started H enc _ => lifted os started H enc)
end Go.Proofs.Ytajmfpdpfpbmhaa.diskOrders
