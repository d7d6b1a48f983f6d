/- NicFull: for every argument the law returns true, and its argument reads afterwards as it read before. No conditions. -/

import Derived.Test.YtfffehbipcikoaaKxNicP0
import Derived.Test.YtfffehbipcikoaaKxNicP1
import Derived.Test.YtfffehbipcikoaaKxNicP2
import Derived.Test.YtfffehbipcikoaaKxNicP3
import Derived.Test.YtfffehbipcikoaaKxNicP4
import Derived.Test.YtfffehbipcikoaaKxNicP5
import Derived.Test.YtfffehbipcikoaaKxNicP6
import Derived.Test.YtfffehbipcikoaaKxNicP7
import Derived.Test.YtfffehbipcikoaaKxKit
namespace Go.Proofs.Ytfffehbipcikoaa.nicFull
open Go.ChangeShapes Go.WideShapes Go.ChangeAt Go.RowKit
open Go.Proofs.Ytfffehbipcikoaa.Kx
theorem e0 : bd = nest [sL bd, sL (sR bd), sL (sR (sR bd))] m3 := by kernel_rfl
theorem e3 : m3 = .seq (.seq (sL (sL m3)) (.block 0 (.loop l3))) m4 := by kernel_rfl
theorem e4 : m4 = .seq (.seq (sL (sL m4)) (.block 2 (.loop l4))) m5 := by kernel_rfl
theorem e5 : m5 = .seq (.seq (sL (sL m5)) (.block 4 (.loop l5))) m6 := by kernel_rfl
theorem e6 : m6 = .seq (.seq (sL (sL m6)) (.block 6 (.loop l6))) m7 := by kernel_rfl
theorem top : Top Try.prog bd (initT [.xslc 0 true] 0 .e) ⟨.e, 0⟩ .ret (ofL [(2, .bool true)]) ⟨ofH [], 100000⟩ := by
  rw [e0]
  refine Top.of_listD Try.checked.mixed (noOv_ok _) ra ?_
  rw [e3]
  refine Top.seq (Top.seq (Top.of_runD Try.checked.mixed (noOv_ok _) h3) (Top.block_exit (Top.of_rounds Try.checked.mixed (noOv_ok _) c3a (Top.of_runD Try.checked.mixed (noOv_ok _) x3)))) ?_
  rw [e4]
  refine Top.seq (Top.seq (Top.of_runD Try.checked.mixed (noOv_ok _) h4) (Top.block_exit (Top.of_rounds Try.checked.mixed (noOv_ok _) c4a (Top.of_rounds Try.checked.mixed (noOv_ok _) c4b1 (Top.of_rounds Try.checked.mixed (noOv_ok _) c4b2 (Top.of_rounds Try.checked.mixed (noOv_ok _) c4c (Top.of_rounds Try.checked.mixed (noOv_ok _) c4d (Top.of_rounds Try.checked.mixed (noOv_ok _) c4e (Top.of_rounds Try.checked.mixed (noOv_ok _) c4f (Top.of_rounds Try.checked.mixed (noOv_ok _) c4g (Top.of_rounds Try.checked.mixed (noOv_ok _) c4h (Top.of_rounds Try.checked.mixed (noOv_ok _) c4i (Top.of_rounds Try.checked.mixed (noOv_ok _) c4j (Top.of_runD Try.checked.mixed (noOv_ok _) x4)))))))))))))) ?_
  rw [e5]
  refine Top.seq (Top.seq (Top.of_runD Try.checked.mixed (noOv_ok _) h5) (Top.block_exit (Top.of_rounds Try.checked.mixed (noOv_ok _) c5a (Top.of_runD Try.checked.mixed (noOv_ok _) x5)))) ?_
  rw [e6]
  refine Top.seq (Top.seq (Top.of_runD Try.checked.mixed (noOv_ok _) h6) (Top.block_exit (Top.of_rounds Try.checked.mixed (noOv_ok _) c6a (Top.of_rounds Try.checked.mixed (noOv_ok _) c6b (Top.of_rounds Try.checked.mixed (noOv_ok _) c6c (Top.of_rounds Try.checked.mixed (noOv_ok _) c6d (Top.of_rounds Try.checked.mixed (noOv_ok _) c6e (Top.of_rounds Try.checked.mixed (noOv_ok _) c6f (Top.of_rounds Try.checked.mixed (noOv_ok _) c6g (Top.of_rounds Try.checked.mixed (noOv_ok _) c6h (Top.of_runD Try.checked.mixed (noOv_ok _) x6))))))))))) ?_
  exact Top.of_runD Try.checked.mixed (noOv_ok _) xt
set_option maxRecDepth 100000 in
theorem walk {H : Type} (W : World) (base : Nat) (v : Value) (d : DataW H) (p : List MemPlace) (enc : TypeId × Value → H) (hv : Value.okWide Try.prog W .any base 94 v)
    (_h0 : DataW.Trod enc Try.prog W 0 (fun _ => true) true 94 v d p) (_hlt : ∀ x ∈ p, x.block < W.heap.size) (_hsz : True) :
    Calls Try.prog 13 #[v] W fun e W' => e = .returned (.bool true) ∧ Below W.heap.size W W' :=
  Top.call (r := 2) (args' := [v]) Try.func13 (by kernel_rfl) (by kernel_rfl) (by kernel_rfl) top (by kernel_rfl) (.cons _ _ _ _ (abs_cell Try.underlying94 hv) .nil) W
set_option maxRecDepth 100000 in
theorem lifted (os : Os) (started : os.Started) (H : Type) (enc : TypeId × Value → H) :
    ReturnsInHanded {} Try.checked os 13 .any (Rows.nicFullSpec.pre6 enc Try.prog Try.f13 Rows.nicFullRow.domain false) (Rows.nicFullSpec.post enc Try.prog Try.f13 false true false false) := by
  refine returnsInHanded_of_change_sized (C := Try.checked) (by kernel_rfl) started (by kernel_rfl) Try.func13
    (ChangeSpec.witness6 (enc := enc) (C := Try.checked) false ⟨#[], #[.slice none 0 0], []⟩ 8 (by kernel_rfl) (by kernel_rfl) (by kernel_rfl) (by kernel_rfl)) ?_
  intro W base args ds gs before hval0 hW _ _ _
  have hval : ∀ (j : Nat) t v, Try.f13.params[j]? = some t → args[j]? = some v → Value.okWide Try.prog W .any base t v := hval0
  have hlt := hW.lt
  have hW' := hW
  obtain ⟨p, q, hA0, hV, rfl, hfz, hnd⟩ := hW
  have hA : DataW.TrodAll enc Try.prog W 0 (fun _ => true) true Try.f13.params.toList args.toList ds p := hA0
  rw [Try.params13] at hA hval
  obtain ⟨v0, d0, rfl, rfl, h0⟩ := trodAll_one hA
  obtain ⟨rfl, rfl⟩ := trodVars_none hV
  clear hA0 hval0
  simp only [List.append_nil] at hW' hlt
  refine (walk W base v0 d0 p enc (hval 0 94 v0 rfl rfl) h0 hlt trivial).mono fun e W' ⟨he, hb⟩ => ?_
  subst he
  exact ⟨.bool true, rfl, ds_post (v := .bool true) hW' (fun _ _ _ => trodAll_mk1 (shut_bool Try.underlying4 _)) (trodAll_mk1 (Below.trod (by kernel_rfl) (by kernel_rfl) (of_decide_eq_true (by kernel_rfl)) h0 hb hlt)) rfl hb⟩

theorem proved : Rows.NicFullSaid :=
  OpenClaim.holds_of_wide 13 Try.f13 rfl rfl rfl rfl rfl rfl rfl ⟨rfl, rfl, rfl, rfl, rfl⟩ rfl rfl rfl rfl rfl (by kernel_rfl) Try.func13 (by kernel_rfl)
    (of_decide_eq_true (by kernel_rfl)) (by unfold Func.isWrapper; first | (rw [if_pos (by decide +kernel)]; kernel_rfl) | (rw [if_neg (by decide +kernel)]; exact ⟨rfl, rfl⟩))
    (fun os started H enc _ => lifted os started H enc)
end Go.Proofs.Ytfffehbipcikoaa.nicFull
