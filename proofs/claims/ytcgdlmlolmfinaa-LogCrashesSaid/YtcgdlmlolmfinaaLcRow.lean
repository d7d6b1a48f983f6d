/- LogCrashes: for every script the law returns true, and its argument reads afterwards as it read before. No conditions. -/

import Derived.Test.YtcgdlmlolmfinaaLcW
import Derived.Test.YtcgdlmlolmfinaaLkArg
import Derived.Test.YtcgdlmlolmfinaaRowKit
import Derived.ProofKit
import Derived.OpenShut
import Derived.SizedLaws
namespace Go.Proofs.Ytcgdlmlolmfinaa.logCrashes
open Go.ChangeShapes Go.WideShapes Go.ChangeAt Go.RowKit
set_option maxRecDepth 100000 in
theorem walk {H : Type} (W : World) (base : Nat) (v : Value) (d : DataW H) (p : List MemPlace) (enc : TypeId × Value → H) (hv : Value.okWide Try.prog W .any base 25 v)
    (h0 : DataW.Trod enc Try.prog W 0 (fun _ => true) true 25 v d p) (_hlt : ∀ x ∈ p, x.block < W.heap.size) (hsz : (DataW.weightsEach Try.prog ([25] ++ Rows.logCrashesSpec.plain.varTypes Try.prog) ([d] ++ [])).all (· ≤ reachBytes) = true) :
    Calls Try.prog 5 #[v] W fun e W' => e = .returned (.bool true) ∧ Below W.heap.size W W' := by
  obtain ⟨lv, ov, A, O, rfl, hA, hO, _⟩ := open_script6 hv h0 (rch_arg hsz)
  exact kcrash W lv ov A O hA hO
set_option maxRecDepth 100000 in
theorem lifted (os : Os) (started : os.Started) (H : Type) (enc : TypeId × Value → H) :
    ReturnsInHanded {} Try.checked os 5 .any (Rows.logCrashesSpec.pre6 enc Try.prog Try.f5 Rows.logCrashesRow.domain false) (Rows.logCrashesSpec.post enc Try.prog Try.f5 false true false false) := by
  refine returnsInHanded_of_change_sized (C := Try.checked) (by kernel_rfl) started (by kernel_rfl) Try.func5
    (ChangeSpec.witness6 (enc := enc) (C := Try.checked) false ⟨#[], #[.agg #[.slice none 0 0, .slice none 0 0]], []⟩ 8 (by kernel_rfl) (by kernel_rfl) (by kernel_rfl) (by kernel_rfl)) ?_
  intro W base args ds gs before hval0 hW _ hsz0 _
  have hval : ∀ (j : Nat) t v, Try.f5.params[j]? = some t → args[j]? = some v → Value.okWide Try.prog W .any base t v := hval0
  have hsz : (DataW.weightsEach Try.prog (Try.f5.params.toList ++ Rows.logCrashesSpec.plain.varTypes Try.prog) (ds ++ gs)).all (· ≤ reachBytes) = true := hsz0
  have hlt := hW.lt
  have hW' := hW
  obtain ⟨p, q, hA0, hV, rfl, hfz, hnd⟩ := hW
  have hA : DataW.TrodAll enc Try.prog W 0 (fun _ => true) true Try.f5.params.toList args.toList ds p := hA0
  rw [Try.params5] at hA hval hsz
  obtain ⟨v0, d0, rfl, rfl, h0⟩ := trodAll_one hA
  obtain ⟨rfl, rfl⟩ := trodVars_none hV
  clear hA0 hval0 hsz0
  simp only [List.append_nil] at hW' hlt
  refine (walk W base v0 d0 p enc (hval 0 25 v0 rfl rfl) h0 hlt hsz).mono fun e W' ⟨he, hb⟩ => ?_
  subst he
  exact ⟨.bool true, rfl, ds_post (v := .bool true) hW' (fun _ _ _ => trodAll_mk1 (shut_bool Try.underlying4 _)) (trodAll_mk1 (Below.trod (by kernel_rfl) (by kernel_rfl) (of_decide_eq_true (by kernel_rfl)) h0 hb hlt)) rfl hb⟩

theorem proved : Rows.LogCrashesSaid :=
  OpenClaim.holds_of_wide 5 Try.f5 rfl rfl rfl rfl rfl rfl rfl ⟨rfl, rfl, rfl, rfl, rfl⟩ rfl rfl rfl rfl rfl (by kernel_rfl) Try.func5 (by kernel_rfl)
    (of_decide_eq_true (by kernel_rfl)) (by unfold Func.isWrapper; first | (rw [if_pos (by decide +kernel)]; kernel_rfl) | (rw [if_neg (by decide +kernel)]; exact ⟨rfl, rfl⟩))
    (fun os started H enc _ => lifted os started H enc)
end Go.Proofs.Ytcgdlmlolmfinaa.logCrashes
