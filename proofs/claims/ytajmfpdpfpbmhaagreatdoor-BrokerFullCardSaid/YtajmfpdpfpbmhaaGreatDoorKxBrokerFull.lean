/- BrokerFull: for every script the law returns true, and its argument reads afterwards as it read before; the package-level variables that the row lists are tied to the program's text. No conditions. -/

import Derived.Test.YtajmfpdpfpbmhaaGreatDoorKxKit
import Derived.Test.YtajmfpdpfpbmhaaGreatDoorKxTops
import Derived.Test.YtajmfpdpfpbmhaaGreatDoorKxInsMsg
import Derived.Test.YtajmfpdpfpbmhaaGreatDoorKxInsSes
import Derived.Test.YtajmfpdpfpbmhaaGreatDoorKxInsWish
import Derived.Test.YtajmfpdpfpbmhaaGreatDoorTie
import Derived.Test.YtajmfpdpfpbmhaaGreatDoorCards
import Derived.LaidMore
import Derived.Lay
import Derived.SevenTiedAt
import Derived.Stop.Joined
namespace Go.Proofs.YtajmfpdpfpbmhaaGreatDoor.brokerFull
open Go.ChangeShapes Go.WideShapes Go.ChangeAt Go.RowKit
open Go.Proofs.YtajmfpdpfpbmhaaGreatDoor.Kx
noncomputable def ov : Ovs := ovl [(186, ovIndexByte), (185, ovCount), (158, ovCompare), (139, ovInsert (mkTI Tryz.prog) 72), (49, ovInsert (mkTI Tryz.prog) 47), (120, ovInsert (mkTI Tryz.prog) 35)]
theorem ov_ok : OvsOk Tryz.prog ov := by
  refine ovl_ok fun p hp => ?_
  simp only [List.mem_cons, List.mem_nil_iff, or_false] at hp
  rcases hp with rfl | rfl | rfl | rfl | rfl | rfl
  · exact ovIndexByte_ok ⟨_, Tryz.func186, by kernel_rfl, by kernel_rfl, by kernel_rfl, by kernel_rfl⟩
  · exact ovCount_ok ⟨_, Tryz.func185, by kernel_rfl, by kernel_rfl, by kernel_rfl, by kernel_rfl⟩
  · exact ovCompare_ok ⟨_, Tryz.func158, by kernel_rfl, by kernel_rfl, by kernel_rfl, by kernel_rfl⟩
  · exact msg_ok
  · exact ses_ok
  · exact wish_ok
noncomputable def bd : Code := (Tryz.f5.body).getD .skip
noncomputable def tl : Code := sR (sR (sR (sR (sR (sR (sR bd))))))
noncomputable def pl : List Code := [sL bd, sL (sR bd), sL (sR (sR bd)), sL (sR (sR (sR bd))), sL (sR (sR (sR (sR bd)))), sL (sR (sR (sR (sR (sR bd))))), sL (sR (sR (sR (sR (sR (sR bd))))))]
theorem e0 : bd = nest pl tl := by kernel_rfl
noncomputable def arg : AV := .agg ([22, 23, 3].map (absT Tryz.prog))
set_option maxRecDepth 100000 in
theorem r0 : topC (runL (rn Tryz.prog ov 10000) pl (initT [arg] 0 .e) ⟨.e, 0⟩) .normal [(3, .ptr 1 0)] [(1, .cells [.any, .any, .any] 29)] 10000 = true := by kernel_rfl
set_option maxRecDepth 100000 in
theorem r1 : topC (rn Tryz.prog ov 10000 (.code tl) (ofL [(3, .ptr 1 0)]) ⟨ofH [(1, .cells [.any, .any, .any] 29)], 10000⟩) .ret [(2, .bool true)] [] 40000 = true := by kernel_rfl
theorem top : Top Tryz.prog bd (initT [arg] 0 .e) ⟨.e, 0⟩ .ret (ofL [(2, .bool true)]) ⟨ofH [], 40000⟩ := by
  rw [e0]
  exact Top.of_list Tryz.checked.mixed ov_ok r0 (Top.of_run Tryz.checked.mixed ov_ok r1)
set_option maxRecDepth 100000 in
theorem walk {H : Type} (W : World) (base : Nat) (v : Value) (d : DataW H) (p : List MemPlace) (enc : TypeId × Value → H) (hv : Value.okWide Tryz.prog W .any base 25 v)
    (_h0 : DataW.Trod enc Tryz.prog W 0 (fun _ => true) true 25 v d p) (_hlt : ∀ x ∈ p, x.block < W.heap.size) (_hsz : True) :
    Calls Tryz.prog 5 #[v] W fun e W' => e = .returned (.bool true) ∧ Below W.heap.size W W' :=
  Top.call (r := 2) (args' := [v]) Tryz.func5 (by kernel_rfl) (by kernel_rfl) (by kernel_rfl) top (by kernel_rfl) (.cons _ _ _ _ (abs_struct Tryz.underlying25 (ts := [22, 23, 3]) (by kernel_rfl) (by kernel_rfl) hv) .nil) W
theorem own : ownKnob Tryz.prog.godebug = none := by kernel_rfl
set_option maxRecDepth 100000 in
theorem lifted (os : Os) (started : os.Started) (H : Type) (enc : TypeId × Value → H) :
    ReturnsInHanded {} Tryz.checked os 5 .any (fun w args => (Rows.brokerFullSpec.pre enc Tryz.prog Tryz.f5 Rows.brokerFullRow.domain false w args ∧ laidMetH Tryz.prog Rows.brokerFullRow.laid w) ∧ sizedMet enc Tryz.prog Tryz.f5 (OpenSpec.ofChange Rows.brokerFullSpec) false w args)
      (Rows.brokerFullSpec.post enc Tryz.prog Tryz.f5 false true false false) := by
  refine returnsInHanded_of_change_and (C := Tryz.checked) (X := fun w _ => laidMetH Tryz.prog Rows.brokerFullRow.laid w) (fun _ _ _ hh h => h.of_heap hh) own started (by kernel_rfl) Tryz.func5
    (ChangeSpec.witness_shaped (enc := enc) (C := Tryz.checked) (os := os) (X := fun w _ => laidMetH Tryz.prog Rows.brokerFullRow.laid w) false (World.laidAll Tryz.prog os Rows.brokerFullRow.laid) #[.agg #[.slice none 0 0, .slice none 0 0, .int .i64 0]] 8 (World.laidAll_os _ _ _)
      (World.shaped_of_ZipB (by kernel_rfl) (by kernel_rfl)) (by kernel_rfl) (by kernel_rfl) (by kernel_rfl)
      (by rw [MakeChecks.laidMetH_plain _ _ _ (by kernel_rfl)]; exact laidMet_laidAll _ (by kernel_rfl) (by kernel_rfl))) ?_
  intro W base args ds gs before hval0 hW _ _ _ _
  have hval : ∀ (j : Nat) t v, Tryz.f5.params[j]? = some t → args[j]? = some v → Value.okWide Tryz.prog W .any base t v := hval0
  have hlt := hW.lt
  have hW' := hW
  obtain ⟨p, q, hA0, hV, rfl, hfz, hnd⟩ := hW
  have hA : DataW.TrodAll enc Tryz.prog W 0 (fun _ => true) true Tryz.f5.params.toList args.toList ds p := hA0
  rw [Tryz.params5] at hA hval
  obtain ⟨v0, d0, rfl, rfl, h0⟩ := trodAll_one hA
  obtain ⟨rfl, rfl⟩ := trodVars_none hV
  clear hA0 hval0
  simp only [List.append_nil] at hW' hlt
  refine (walk W base v0 d0 p enc (hval 0 25 v0 rfl rfl) h0 hlt trivial).mono fun e W' ⟨he, hb⟩ => ?_
  subst he
  exact ⟨.bool true, rfl, ds_post (v := .bool true) hW' (fun _ _ _ => trodAll_mk1 (shut_bool Tryz.underlying4 _)) (trodAll_mk1 (Below.trod (by kernel_rfl) (by kernel_rfl) (of_decide_eq_true (by kernel_rfl)) h0 hb hlt)) rfl hb⟩

theorem row_holds : Rows.BrokerFullSaid :=
  OpenClaim.holds_of_wide 5 Tryz.f5 rfl rfl rfl rfl rfl rfl rfl ⟨rfl, rfl, rfl, rfl, rfl⟩ rfl rfl rfl rfl rfl (by kernel_rfl) Tryz.func5 (by kernel_rfl)
    (of_decide_eq_true (by kernel_rfl)) (by unfold Func.isWrapper; first | (rw [if_pos (by decide +kernel)]; kernel_rfl) | (rw [if_neg (by decide +kernel)]; exact ⟨rfl, rfl⟩))
    (fun os started H enc _ => lifted os started H enc)
theorem proved : Rows.BrokerFullCardSaid :=
  Claim7.holds_tied_plain_at .later [] Rows.brokerFullCard.laidKinds true Rows.brokerFullCard.stood.harness false
    row_holds (fun _ h => by cases h) (by kernel_rfl) (fun _ h => by cases h) brokerFull_row_tie rfl ⟨rfl, rfl⟩ (by kernel_rfl) rfl
    (fun f fn hf hfn => by
      obtain rfl : f = 5 := Option.some.inj ((show Tryz.prog.funcNamed "kiosk/kiosklaw24.BrokerFull" = some 5 by kernel_rfl).symm.trans hf) |>.symm
      obtain rfl : fn = Tryz.f5 := (Option.some.inj (Tryz.func5.symm.trans hfn)).symm
      exact ⟨by kernel_rfl, fun j t ht => by
        rw [Tryz.params5] at ht
        have hm : t ∈ [25] := by simpa using Array.mem_of_getElem? ht
        have hall : ([25].all fun u => !Tryz.prog.wantsStandIn u) = true := by kernel_rfl
        exact (show Tryz.prog.wantsStandIn t = false by simpa using List.all_eq_true.1 hall t hm)⟩)
    (by kernel_rfl)
end Go.Proofs.YtajmfpdpfpbmhaaGreatDoor.brokerFull
