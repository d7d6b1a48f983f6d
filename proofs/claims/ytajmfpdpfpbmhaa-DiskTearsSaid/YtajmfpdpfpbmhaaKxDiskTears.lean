/- DiskTears: for every script the law returns true, and its argument reads afterwards as it read before. No conditions. -/

import Derived.Test.YtajmfpdpfpbmhaaKxKit
import Derived.Test.YtajmfpdpfpbmhaaKxKeysT
import Derived.Test.YtajmfpdpfpbmhaaKxCut
namespace Go.Proofs.Ytajmfpdpfpbmhaa.diskTears
open Go.ChangeShapes Go.WideShapes Go.ChangeAt Go.RowKit
open Go.Proofs.Ytajmfpdpfpbmhaa.Kx
noncomputable def ov : Ovs := ovl [(40, ovKeys 51 75), (39, ovSorted 51 3)]
theorem ov_ok : OvsOk Try.prog ov := by
  refine ovl_ok fun p hp => ?_
  simp only [List.mem_cons, List.mem_nil_iff, or_false] at hp
  rcases hp with rfl | rfl
  · exact ovKeys_ok keysT ⟨_, Try.func40, by kernel_rfl, by kernel_rfl⟩
  · exact ovSorted_ok keysT ⟨_, Try.func39, by kernel_rfl, by kernel_rfl⟩
noncomputable def bd : Code := (Try.f5.body).getD .skip
noncomputable def md : Code := sR bd
noncomputable def lp : Code := sL (sL (sR (sL md)))
theorem e0 : bd = .seq (sL bd) md := by kernel_rfl
theorem e1 : md = .seq (.seq (sL (sL md)) (.block 0 (.loop lp))) (sR md) := by kernel_rfl
noncomputable def arg : AV := .agg ([51, 52].map (absT Try.prog))
noncomputable def st (k : Nat) : List (Nat × AV) := [(1, .ptr 0 0), (3, .int .i64 k)]
noncomputable def bx : List (Nat × AObj) := [(0, .cells [.xslc 0 true, .xslc 0 true] 54)]
set_option maxRecDepth 100000 in
theorem r0 : topD (rn Try.prog ov 10000 (.code (sL bd)) (initT [arg] 0 .e) ⟨.e, 0⟩) .normal [(1, .ptr 0 0)] bx 10 = true := by kernel_rfl
set_option maxRecDepth 100000 in
theorem r1 : topD (rn Try.prog ov 10000 (.code (sL (sL md))) (ofL [(1, .ptr 0 0)]) ⟨ofH bx, 10⟩) .normal (st 0) bx 10 = true := by kernel_rfl
set_option maxRecDepth 100000 in
theorem c0 : topD (iterR (rn Try.prog ov 10000) lp 6 (ofL (st 0)) ⟨ofH bx, 10⟩) .normal (st 6) bx 3010 = true := by kernel_rfl
set_option maxRecDepth 100000 in
theorem c1 : topD (iterR (rn Try.prog ov 10000) lp 6 (ofL (st 6)) ⟨ofH bx, 3010⟩) .normal (st 12) bx 6010 = true := by kernel_rfl
set_option maxRecDepth 100000 in
theorem c2 : topD (iterR (rn Try.prog ov 10000) lp 6 (ofL (st 12)) ⟨ofH bx, 6010⟩) .normal (st 18) bx 9010 = true := by kernel_rfl
set_option maxRecDepth 100000 in
theorem c3 : topD (iterR (rn Try.prog ov 10000) lp 6 (ofL (st 18)) ⟨ofH bx, 9010⟩) .normal (st 24) bx 12010 = true := by kernel_rfl
set_option maxRecDepth 100000 in
theorem c4 : topD (iterR (rn Try.prog ov 10000) lp 6 (ofL (st 24)) ⟨ofH bx, 12010⟩) .normal (st 30) bx 15010 = true := by kernel_rfl
set_option maxRecDepth 100000 in
theorem c5 : topD (iterR (rn Try.prog ov 10000) lp 6 (ofL (st 30)) ⟨ofH bx, 15010⟩) .normal (st 36) bx 18010 = true := by kernel_rfl
set_option maxRecDepth 100000 in
theorem c6 : topD (iterR (rn Try.prog ov 10000) lp 6 (ofL (st 36)) ⟨ofH bx, 18010⟩) .normal (st 42) bx 21010 = true := by kernel_rfl
set_option maxRecDepth 100000 in
theorem c7 : topD (iterR (rn Try.prog ov 10000) lp 6 (ofL (st 42)) ⟨ofH bx, 21010⟩) .normal (st 48) bx 24010 = true := by kernel_rfl
set_option maxRecDepth 100000 in
theorem c8 : topD (iterR (rn Try.prog ov 10000) lp 6 (ofL (st 48)) ⟨ofH bx, 24010⟩) .normal (st 54) bx 27010 = true := by kernel_rfl
set_option maxRecDepth 100000 in
theorem c9 : topD (iterR (rn Try.prog ov 10000) lp 6 (ofL (st 54)) ⟨ofH bx, 27010⟩) .normal (st 60) bx 30010 = true := by kernel_rfl
set_option maxRecDepth 100000 in
theorem c10 : topD (iterR (rn Try.prog ov 10000) lp 6 (ofL (st 60)) ⟨ofH bx, 30010⟩) .normal (st 66) bx 33010 = true := by kernel_rfl
set_option maxRecDepth 100000 in
theorem x0 : topD (rn Try.prog ov 10000 (.code (.loop lp)) (ofL (st 66)) ⟨ofH bx, 33010⟩) (.exit 0) [(1, .ptr 0 0)] bx 33010 = true := by kernel_rfl
set_option maxRecDepth 100000 in
theorem x1 : topD (rn Try.prog ov 10000 (.code (sR md)) (ofL [(1, .ptr 0 0)]) ⟨ofH bx, 33010⟩) .ret [(2, .bool true)] [] 100000 = true := by kernel_rfl
theorem top : Top Try.prog bd (initT [arg] 0 .e) ⟨.e, 0⟩ .ret (ofL [(2, .bool true)]) ⟨ofH [], 100000⟩ := by
  rw [e0]
  refine Top.seq (Top.of_runD Try.checked.mixed ov_ok r0) ?_
  rw [e1]
  refine Top.seq (Top.seq (Top.of_runD Try.checked.mixed ov_ok r1) (Top.block_exit ?_)) (Top.of_runD Try.checked.mixed ov_ok x1)
  refine Top.of_rounds Try.checked.mixed ov_ok c0 ?_
  refine Top.of_rounds Try.checked.mixed ov_ok c1 ?_
  refine Top.of_rounds Try.checked.mixed ov_ok c2 ?_
  refine Top.of_rounds Try.checked.mixed ov_ok c3 ?_
  refine Top.of_rounds Try.checked.mixed ov_ok c4 ?_
  refine Top.of_rounds Try.checked.mixed ov_ok c5 ?_
  refine Top.of_rounds Try.checked.mixed ov_ok c6 ?_
  refine Top.of_rounds Try.checked.mixed ov_ok c7 ?_
  refine Top.of_rounds Try.checked.mixed ov_ok c8 ?_
  refine Top.of_rounds Try.checked.mixed ov_ok c9 ?_
  refine Top.of_rounds Try.checked.mixed ov_ok c10 ?_
  exact Top.of_runD Try.checked.mixed ov_ok x0
set_option maxRecDepth 100000 in
theorem walk {H : Type} (W : World) (base : Nat) (v : Value) (d : DataW H) (p : List MemPlace) (enc : TypeId × Value → H) (hv : Value.okWide Try.prog W .any base 54 v)
    (_h0 : DataW.Trod enc Try.prog W 0 (fun _ => true) true 54 v d p) (_hlt : ∀ x ∈ p, x.block < W.heap.size) (_hsz : True) :
    Calls Try.prog 5 #[v] W fun e W' => e = .returned (.bool true) ∧ Below W.heap.size W W' :=
  Top.call (r := 2) (args' := [v]) Try.func5 (by kernel_rfl) (by kernel_rfl) (by kernel_rfl) top (by kernel_rfl) (.cons _ _ _ _ (abs_struct Try.underlying54 (ts := [51, 52]) (by kernel_rfl) (by kernel_rfl) hv) .nil) W
set_option maxRecDepth 100000 in
theorem lifted (os : Os) (started : os.Started) (H : Type) (enc : TypeId × Value → H) :
    ReturnsInHanded {} Try.checked os 5 .any (Rows.diskTearsSpec.pre6 enc Try.prog Try.f5 Rows.diskTearsRow.domain false) (Rows.diskTearsSpec.post enc Try.prog Try.f5 false true false false) := by
  refine returnsInHanded_of_change_sized (C := Try.checked) (by kernel_rfl) started (by kernel_rfl) Try.func5
    (ChangeSpec.witness6 (enc := enc) (C := Try.checked) false ⟨#[], #[.agg #[.slice none 0 0, .slice none 0 0]], []⟩ 8 (by kernel_rfl) (by kernel_rfl) (by kernel_rfl) (by kernel_rfl)) ?_
  intro W base args ds gs before hval0 hW _ _ _
  have hval : ∀ (j : Nat) t v, Try.f5.params[j]? = some t → args[j]? = some v → Value.okWide Try.prog W .any base t v := hval0
  have hlt := hW.lt
  have hW' := hW
  obtain ⟨p, q, hA0, hV, rfl, hfz, hnd⟩ := hW
  have hA : DataW.TrodAll enc Try.prog W 0 (fun _ => true) true Try.f5.params.toList args.toList ds p := hA0
  rw [Try.params5] at hA hval
  obtain ⟨v0, d0, rfl, rfl, h0⟩ := trodAll_one hA
  obtain ⟨rfl, rfl⟩ := trodVars_none hV
  clear hA0 hval0
  simp only [List.append_nil] at hW' hlt
  refine (walk W base v0 d0 p enc (hval 0 54 v0 rfl rfl) h0 hlt trivial).mono fun e W' ⟨he, hb⟩ => ?_
  subst he
  exact ⟨.bool true, rfl, ds_post (v := .bool true) hW' (fun _ _ _ => trodAll_mk1 (shut_bool Try.underlying4 _)) (trodAll_mk1 (Below.trod (by kernel_rfl) (by kernel_rfl) (of_decide_eq_true (by kernel_rfl)) h0 hb hlt)) rfl hb⟩

theorem proved : Rows.DiskTearsSaid :=
  OpenClaim.holds_of_wide 5 Try.f5 rfl rfl rfl rfl rfl rfl rfl ⟨rfl, rfl, rfl, rfl, rfl⟩ rfl rfl rfl rfl rfl (by kernel_rfl) Try.func5 (by kernel_rfl)
    (of_decide_eq_true (by kernel_rfl)) (by unfold Func.isWrapper; first | (rw [if_pos (by decide +kernel)]; kernel_rfl) | (rw [if_neg (by decide +kernel)]; exact ⟨rfl, rfl⟩))
    (fun os started H enc _ => lifted os started H enc)
end Go.Proofs.Ytajmfpdpfpbmhaa.diskTears
