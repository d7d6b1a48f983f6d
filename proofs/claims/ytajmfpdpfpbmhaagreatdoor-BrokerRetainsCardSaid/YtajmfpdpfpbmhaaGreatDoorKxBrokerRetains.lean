/- BrokerRetains: for every script the law returns true, and its argument reads afterwards as it read before; the package-level variables that the row lists are tied to the program's text. No conditions. -/

import Derived.Test.YtajmfpdpfpbmhaaGreatDoorKxKit
import Derived.Test.YtajmfpdpfpbmhaaGreatDoorKxTop
import Derived.Test.YtajmfpdpfpbmhaaGreatDoorKxInsMsg
import Derived.Test.YtajmfpdpfpbmhaaGreatDoorKxInsSes
import Derived.Test.YtajmfpdpfpbmhaaGreatDoorKxInsWish
import Derived.Test.YtajmfpdpfpbmhaaGreatDoorTie
import Derived.Test.YtajmfpdpfpbmhaaGreatDoorCards
import Derived.LaidMore
import Derived.Lay
import Derived.SevenTiedAt
import Derived.Stop.Joined
namespace Go.Proofs.YtajmfpdpfpbmhaaGreatDoor.brokerRetains
open Go.ChangeShapes Go.WideShapes Go.ChangeAt Go.RowKit
open Go.Proofs.YtajmfpdpfpbmhaaGreatDoor.Kx
noncomputable def ov : Ovs := ovl [(186, ovIndexByte), (185, ovCount), (158, ovCompare), (139, ovInsert (mkTI Tryz.prog) 72), (49, ovInsert (mkTI Tryz.prog) 47), (120, ovInsert (mkTI Tryz.prog) 35)]
theorem ov_ok : OvsOk Tryz.prog ov := by
  refine ovl_ok fun p hp => ?_
  simp only [List.mem_cons, List.mem_nil_iff, or_false] at hp
  rcases hp with rfl | rfl | rfl | rfl | rfl | rfl
  · exact ovIndexByte_ok ⟨_, Tryz.func186, by kernel_rfl, by kernel_rfl, by kernel_rfl, by kernel_rfl⟩
  · exact ovCount_ok ⟨_, Tryz.func185, by kernel_rfl, by kernel_rfl, by kernel_rfl, by kernel_rfl⟩
  · exact ovCompare_ok ⟨_, Tryz.func158, by kernel_rfl, by kernel_rfl, by kernel_rfl, by kernel_rfl⟩
  · exact msg_ok
  · exact ses_ok
  · exact wish_ok
noncomputable def bd : Code := (Tryz.f4.body).getD .skip
noncomputable def md : Code := sR bd
noncomputable def lp : Code := sL (sL (sR (sL md)))
theorem e0 : bd = .seq (sL bd) md := by kernel_rfl
theorem e1 : md = .seq (.seq (sL (sL md)) (.block 0 (.loop lp))) (sR md) := by kernel_rfl
noncomputable def arg : AV := .agg ([22, 23, 3].map (absT Tryz.prog))
noncomputable def st (k : Nat) : Tm := ofL [(1, .ptr 0 0), (3, .int .i64 k)]
noncomputable def hp (n : Nat) : H := ⟨ofH [(0, .cells [.xslc, .xslc, .any] 25)], n⟩
set_option maxRecDepth 100000 in
theorem r0 : topC (rn Tryz.prog ov 10000 (.code (sL bd)) (initT [arg] 0 .e) ⟨.e, 0⟩) .normal [(1, .ptr 0 0)] [(0, .cells [.xslc, .xslc, .any] 25)] 10 = true := by kernel_rfl
set_option maxRecDepth 100000 in
theorem r1 : topC (rn Tryz.prog ov 10000 (.code (sL (sL md))) (ofL [(1, .ptr 0 0)]) (hp 10)) .normal [(1, .ptr 0 0), (3, .int .i64 (0 : Nat))] [(0, .cells [.xslc, .xslc, .any] 25)] 10 = true := by kernel_rfl
set_option maxRecDepth 100000 in
theorem s0 : topC (rn Tryz.prog ov 10000 (.code lp) (st 0) (hp 10)) .normal [(1, .ptr 0 0), (3, .int .i64 (1 : Nat))] [(0, .cells [.xslc, .xslc, .any] 25)] 2010 = true := by kernel_rfl
set_option maxRecDepth 100000 in
theorem s1 : topC (rn Tryz.prog ov 10000 (.code lp) (st 1) (hp 2010)) .normal [(1, .ptr 0 0), (3, .int .i64 (2 : Nat))] [(0, .cells [.xslc, .xslc, .any] 25)] 4010 = true := by kernel_rfl
set_option maxRecDepth 100000 in
theorem s2 : topC (rn Tryz.prog ov 10000 (.code lp) (st 2) (hp 4010)) .normal [(1, .ptr 0 0), (3, .int .i64 (3 : Nat))] [(0, .cells [.xslc, .xslc, .any] 25)] 6010 = true := by kernel_rfl
set_option maxRecDepth 100000 in
theorem x3 : topC (rn Tryz.prog ov 10000 (.code lp) (st 3) (hp 6010)) (.exit 0) [(1, .ptr 0 0)] [(0, .cells [.xslc, .xslc, .any] 25)] 6010 = true := by kernel_rfl
set_option maxRecDepth 100000 in
theorem x4 : topC (rn Tryz.prog ov 10000 (.code (sR md)) (ofL [(1, .ptr 0 0)]) (hp 6010)) .ret [(2, .bool true)] [] 20000 = true := by kernel_rfl
theorem top : Top Tryz.prog bd (initT [arg] 0 .e) ⟨.e, 0⟩ .ret (ofL [(2, .bool true)]) ⟨ofH [], 20000⟩ := by
  rw [e0]
  refine Top.seq (Top.of_run Tryz.checked.mixed ov_ok r0) ?_
  rw [e1]
  exact Top.seq (Top.seq (Top.of_run Tryz.checked.mixed ov_ok r1) (Top.block_exit (Top.loop (Top.of_run Tryz.checked.mixed ov_ok s0) (Top.loop (Top.of_run Tryz.checked.mixed ov_ok s1) (Top.loop (Top.of_run Tryz.checked.mixed ov_ok s2) (Top.loop_out (by simp) (Top.of_run Tryz.checked.mixed ov_ok x3))))))) (Top.of_run Tryz.checked.mixed ov_ok x4)
set_option maxRecDepth 100000 in
theorem walk {H : Type} (W : World) (base : Nat) (v : Value) (d : DataW H) (p : List MemPlace) (enc : TypeId × Value → H) (hv : Value.okWide Tryz.prog W .any base 25 v)
    (_h0 : DataW.Trod enc Tryz.prog W 0 (fun _ => true) true 25 v d p) (_hlt : ∀ x ∈ p, x.block < W.heap.size) (_hsz : True) :
    Calls Tryz.prog 4 #[v] W fun e W' => e = .returned (.bool true) ∧ Below W.heap.size W W' :=
  Top.call (r := 2) (args' := [v]) Tryz.func4 (by kernel_rfl) (by kernel_rfl) (by kernel_rfl) top (by kernel_rfl) (.cons _ _ _ _ (abs_struct Tryz.underlying25 (ts := [22, 23, 3]) (by kernel_rfl) (by kernel_rfl) hv) .nil) W
theorem own : ownKnob Tryz.prog.godebug = none := by kernel_rfl
set_option maxRecDepth 100000 in
theorem lifted (os : Os) (started : os.Started) (H : Type) (enc : TypeId × Value → H) :
    ReturnsInHanded {} Tryz.checked os 4 .any (fun w args => (Rows.brokerRetainsSpec.pre enc Tryz.prog Tryz.f4 Rows.brokerRetainsRow.domain false w args ∧ laidMetH Tryz.prog Rows.brokerRetainsRow.laid w) ∧ sizedMet enc Tryz.prog Tryz.f4 (OpenSpec.ofChange Rows.brokerRetainsSpec) false w args)
      (Rows.brokerRetainsSpec.post enc Tryz.prog Tryz.f4 false true false false) := by
  refine returnsInHanded_of_change_and (C := Tryz.checked) (X := fun w _ => laidMetH Tryz.prog Rows.brokerRetainsRow.laid w) (fun _ _ _ hh h => h.of_heap hh) own started (by kernel_rfl) Tryz.func4
    (ChangeSpec.witness_shaped (enc := enc) (C := Tryz.checked) (os := os) (X := fun w _ => laidMetH Tryz.prog Rows.brokerRetainsRow.laid w) false (World.laidAll Tryz.prog os Rows.brokerRetainsRow.laid) #[.agg #[.slice none 0 0, .slice none 0 0, .int .i64 0]] 8 (World.laidAll_os _ _ _)
      (World.shaped_of_ZipB (by kernel_rfl) (by kernel_rfl)) (by kernel_rfl) (by kernel_rfl) (by kernel_rfl)
      (by rw [MakeChecks.laidMetH_plain _ _ _ (by kernel_rfl)]; exact laidMet_laidAll _ (by kernel_rfl) (by kernel_rfl))) ?_
  intro W base args ds gs before hval0 hW _ _ _ _
  have hval : ∀ (j : Nat) t v, Tryz.f4.params[j]? = some t → args[j]? = some v → Value.okWide Tryz.prog W .any base t v := hval0
  have hlt := hW.lt
  have hW' := hW
  obtain ⟨p, q, hA0, hV, rfl, hfz, hnd⟩ := hW
  have hA : DataW.TrodAll enc Tryz.prog W 0 (fun _ => true) true Tryz.f4.params.toList args.toList ds p := hA0
  rw [Tryz.params4] at hA hval
  obtain ⟨v0, d0, rfl, rfl, h0⟩ := trodAll_one hA
  obtain ⟨rfl, rfl⟩ := trodVars_none hV
  clear hA0 hval0
  simp only [List.append_nil] at hW' hlt
  refine (walk W base v0 d0 p enc (hval 0 25 v0 rfl rfl) h0 hlt trivial).mono fun e W' ⟨he, hb⟩ => ?_
  subst he
  exact ⟨.bool true, rfl, ds_post (v := .bool true) hW' (fun _ _ _ => trodAll_mk1 (shut_bool Tryz.underlying4 _)) (trodAll_mk1 (Below.trod (by kernel_rfl) (by kernel_rfl) (of_decide_eq_true (by kernel_rfl)) h0 hb hlt)) rfl hb⟩

theorem row_holds : Rows.BrokerRetainsSaid :=
  OpenClaim.holds_of_wide 4 Tryz.f4 rfl rfl rfl rfl rfl rfl rfl ⟨rfl, rfl, rfl, rfl, rfl⟩ rfl rfl rfl rfl rfl (by kernel_rfl) Tryz.func4 (by kernel_rfl)
    (of_decide_eq_true (by kernel_rfl)) (by unfold Func.isWrapper; first | (rw [if_pos (by decide +kernel)]; kernel_rfl) | (rw [if_neg (by decide +kernel)]; exact ⟨rfl, rfl⟩))
    (fun os started H enc _ => lifted os started H enc)
theorem proved : Rows.BrokerRetainsCardSaid :=
  Claim7.holds_tied_plain_at .later [] Rows.brokerRetainsCard.laidKinds true Rows.brokerRetainsCard.stood.harness false
    row_holds (fun _ h => by cases h) (by kernel_rfl) (fun _ h => by cases h) brokerRetains_row_tie rfl ⟨rfl, rfl⟩ (by kernel_rfl) rfl
    (fun f fn hf hfn => by
      obtain rfl : f = 4 := Option.some.inj ((show Tryz.prog.funcNamed "kiosk/kiosklaw24.BrokerRetains" = some 4 by kernel_rfl).symm.trans hf) |>.symm
      obtain rfl : fn = Tryz.f4 := (Option.some.inj (Tryz.func4.symm.trans hfn)).symm
      exact ⟨by kernel_rfl, fun j t ht => by
        rw [Tryz.params4] at ht
        have hm : t ∈ [25] := by simpa using Array.mem_of_getElem? ht
        have hall : ([25].all fun u => !Tryz.prog.wantsStandIn u) = true := by kernel_rfl
        exact (show Tryz.prog.wantsStandIn t = false by simpa using List.all_eq_true.1 hall t hm)⟩)
    (by kernel_rfl)
end Go.Proofs.YtajmfpdpfpbmhaaGreatDoor.brokerRetains
