/- Writing a broker's bytes: Kept, lay, sum. -/


import Derived.Test.YtlehkaibbkblkaaGreatDoorRcSes
import Derived.Test.YtlehkaibbkblkaaGreatDoorCrc
namespace Go.Proofs.YtlehkaibbkblkaaGreatDoor
open Go.RowKit
set_option maxRecDepth 20000 in
set_option maxHeartbeats 4000000 in
theorem Kept_put (w : World) (v : Value) (Q : List Msg) (h : Rd w w.heap.size 4 v Q.length (eM.cells Q)) (hn : (k3 Q).length ≤ 10000000) :
    Calls Tryz.prog 33 #[v] w fun e w' => ∃ v', e = .returned v' ∧ OwnU w' w.heap.size v' (k3 Q) ∧ Below w.heap.size w w' := by
  obtain ⟨qa, qc, rfl, _, _⟩ := h.form
  have HLC : Hid (∀ k x, Q[k]? = some x → (n3 Q.length ++ (Q.take k).flatMap m3).length ≤ 10000000 ∧ x.t.size ≤ 10000000 ∧ x.p.size ≤ 10000000) := Lib.hid (fun k x hx => by
    have h1 := fm_le (f := m3) (L := Q) (k := k + 1)
    rw [fm_take hx] at h1
    simp only [k3, List.length_append, m3, t3_len, n3_len] at h1 hn ⊢
    omega)
  have lQ : Hid (Q.length ≤ 10000000) := Lib.hid (by
    have := fm_len (f := m3) (L := Q) (fun x => by simp only [m3, List.length_append, n3_len]; omega)
    simp only [k3, List.length_append, n3_len] at hn
    omega)
  obtain ⟨B, hBe⟩ : ∃ B, B = w.heap.size := ⟨_, rfl⟩
  rw [← hBe] at h ⊢
  have HQR : Hid (∀ w', LU B w w' → Rd w' B 4 (.slice qa Q.length qc) Q.length (eM.cells Q)) := Lib.hid (fun w' hl => h.below (hl.below (Nat.le_refl _) (by omega)))
  have HZ : Hid (B ≤ w.heap.size) := Lib.hid (by omega)
  have HFIN : Hid (∀ w', LU B w w' → Below B w w') := Lib.hid (fun w' hl => hl.below (Nat.le_refl _) (by omega))
  have HN := Lib.hid (number_any w B (.slice none 0 0) [] Q.length (OwnU.nil w B) (by omega) (by simp))
  clear h hn hBe
  go_enter Tryz.func33, Tryz.ntmps33
  go_wp2_with (go_at_call 31; refine HN.out.mono ?_; rintro e wz ⟨vz, rfl, hoz, hl2⟩; have ho2 : Hid (OwnU wz B vz (n3 Q.length)) := Lib.hid hoz; clear hoz)
  go_loopw [3, 11] (fun v i wr => ∃ k : Nat, k ≤ Q.length ∧ i = .int .i64 k ∧ Hid (OwnU wr B v (n3 Q.length ++ (Q.take k).flatMap m3)) ∧ LU B w wr) (fun _ i _ => Q.length - (intOf i).toNat)
  case atStart => exact ⟨0, by omega, rfl, by simpa using ho2, hl2⟩
  case round =>
    clear hl2 ho2
    obtain ⟨k, hk, rfl, HO, hl⟩ := hrel
    by_cases hlt : k < Q.length
    · obtain ⟨x, hx⟩ : ∃ x, Q[k]? = some x := ⟨_, List.getElem?_eq_getElem hlt⟩
      obtain ⟨b, o, rfl, hbl, hcs⟩ := Enc.rd_cell (E := eM) (HQR.out _ hl) rfl hx
      obtain ⟨x0, x1, x2, x3⟩ := msg_cells (show World.rangeAt _ b (o + k * 4) (eM.c x) from hcs)
      have HXX := Lib.hid hx
      have hlS := lQ.out
      clear hx hcs
      go_upto_region 5 with fail
      clear x0 x1 x2 x3
      obtain ⟨wb, hwb, hbb, hBX⟩ := box_facts B _ [.string x.t, .string x.p, .int .i64 x.q, .bool x.r] 64 (by decide)
      rw [hwb]
      obtain ⟨z1, z4, z5⟩ := HLC.out k x HXX.out
      have HOb := HO.out.keep hbb
      have hlb := hl.trans (LU.of_below hbb)
      have HBb := Nat.le_trans HZ.out hlb.size
      obtain ⟨hcl, hty⟩ := hBX _ (LU.refl B wb)
      have b0 := hcl 0
      have b1 := hcl 1
      have b2 := hcl 2
      have b3 := hcl 3
      simp only [List.getElem?_cons_zero, List.getElem?_cons_succ] at b0 b1 b2 b3
      clear hwb hbb hBX hcl
      have HMP := Lib.hid (message_put wb B _ _ x HOb HBb (by omega) (by omega) (by omega))
      clear HOb
      go_wp2_with (go_at_call 50; refine HMP.out.mono ?_; rintro e wz ⟨vz, rfl, hoz, hlz⟩; have hl2 := hlb.trans hlz; have ho2 : Hid (OwnU wz B vz (n3 Q.length ++ (Q.take (k + 1)).flatMap m3)) := Lib.hid (by rw [fm_take HXX.out]; simpa [List.append_assoc] using hoz); clear hoz hlz)
      go_roundw
      case rel => exact ⟨k + 1, by omega, by go_num, ho2, hl2⟩
      case measure => simp [intOf]; omega
    · obtain rfl : k = Q.length := by omega
      have HO1 : Hid (OwnU _ B _ (k3 Q)) := Lib.hid (by rw [k3]; simpa using HO.out)
      have HF := Lib.hid (HFIN.out _ hl)
      clear HO hlt hk
      go_wp2
      go_ret
      exact ⟨_, rfl, HO1.out, HF.out⟩
/-- The cells of a session. -/
theorem ses_cells {w : World} {b o : Nat} {r : Rs} (h : w.rangeAt b o (eS.c r)) : w.cell? ⟨b, o, none⟩ = some (.string r.s.c) ∧ w.cell? ⟨b, o + 1, none⟩ = some (.bool r.s.cl) ∧ w.cell? ⟨b, o + 2, none⟩ = some (.int .i64 r.s.ln) ∧ w.cell? ⟨b, o + 3, none⟩ = some (.slice r.sa r.s.S.length r.sc) ∧ w.cell? ⟨b, o + 4, none⟩ = some (.int .i64 r.s.o.last) ∧
    w.cell? ⟨b, o + 5, none⟩ = some (.slice r.fa r.s.o.F.length r.fc) ∧ w.cell? ⟨b, o + 6, none⟩ = some (.slice r.qa r.s.o.Q.length r.qc) ∧ w.cell? ⟨b, o + 7, none⟩ = some (.slice r.ia r.s.I.length r.ic) ∧ w.cell? ⟨b, o + 8, none⟩ = some (.bool r.s.wl.is) ∧ w.cell? ⟨b, o + 9, none⟩ = some (.string r.s.wl.t) ∧
    w.cell? ⟨b, o + 10, none⟩ = some (.string r.s.wl.p) ∧ w.cell? ⟨b, o + 11, none⟩ = some (.int .i64 r.s.wl.q) ∧ w.cell? ⟨b, o + 12, none⟩ = some (.bool r.s.wl.r) ∧ w.cell? ⟨b, o + 13, none⟩ = some (.int .i64 r.s.keep) ∧ w.cell? ⟨b, o + 14, none⟩ = some (.int .i64 r.s.idle) :=
  ⟨h 0 _ rfl, h 1 _ rfl, h 2 _ rfl, h 3 _ rfl, h 4 _ rfl, h 5 _ rfl, h 6 _ rfl, h 7 _ rfl, h 8 _ rfl, h 9 _ rfl, h 10 _ rfl, h 11 _ rfl, h 12 _ rfl, h 13 _ rfl, h 14 _ rfl⟩
set_option maxRecDepth 20000 in
set_option maxHeartbeats 4000000 in
theorem lay_put (w : World) (lv sv kv : Value) (R : List Rs) (b : Br) (h : BRd w w.heap.size lv sv kv R b) (hn : (l3 b).length ≤ 10000000) :
    Calls Tryz.prog 20 #[.agg #[lv, sv, kv]] w fun e w' => ∃ v', e = .returned v' ∧ OwnU w' w.heap.size v' (l3 b) ∧ Below w.heap.size w w' := by
  obtain ⟨la, lc, rfl, _, _⟩ := h.l.form
  obtain ⟨sa, sc, rfl, _, _⟩ := h.s.form
  obtain ⟨ka, kc, rfl, _, _⟩ := h.k.form
  obtain ⟨L, SS, K⟩ := b
  have he := h.e
  have hhl := h.l
  have hhs := h.s
  have hhr := h.r
  have hhk := h.k
  simp only at he hhl hhk hn ⊢
  have hX : ∀ k, (R.take k).flatMap (fun r => s3 r.s) = ((R.map (·.s)).take k).flatMap s3 := fun k => by rw [← List.map_take, List.flatMap_map]
  have hl0 : l3 ⟨L, SS, K⟩ = n3 R.length ++ R.flatMap (fun r => s3 r.s) ++ k3 K := by
    have h1 := hX R.length
    rw [List.take_of_length_le (Nat.le_refl _), List.take_of_length_le (by simp), he] at h1
    rw [h1, l3, ← he, List.length_map]
  rw [hl0] at hn ⊢
  clear hX hl0 he
  obtain ⟨fs, hfs⟩ : ∃ fs : Rs → List UInt8, fs = fun r => s3 r.s := ⟨_, rfl⟩
  have hfs' : ∀ r, fs r = s3 r.s := fun r => by rw [hfs]
  rw [← hfs] at hn ⊢
  clear hfs
  obtain ⟨P1, hP1⟩ : ∃ P, P = n3 R.length ++ R.flatMap fs := ⟨_, rfl⟩
  rw [← hP1] at hn ⊢
  have hn1 := congrArg List.length hP1
  simp only [List.length_append, n3_len] at hn hn1
  have HLC : Hid (∀ k x, R[k]? = some x → (n3 R.length ++ (R.take k).flatMap fs).length ≤ 10000000 ∧ (n3 R.length ++ (R.take k).flatMap fs).length + (s3 x.s).length ≤ 10000000) := Lib.hid (fun k x hx => by
    have h1 := fm_le (f := fs) (L := R) (k := k + 1)
    rw [fm_take hx, hfs'] at h1
    simp only [List.length_append, n3_len] at h1 ⊢
    omega)
  have lQ : Hid (R.length ≤ 10000000) := Lib.hid (by
    have := fm_len (f := fs) (L := R) (fun x => by rw [hfs']; simp only [s3, List.length_append, n3_len]; omega)
    omega)
  have lK : Hid (P1.length + (k3 K).length ≤ 10000000) := Lib.hid hn
  obtain ⟨B, hBe⟩ : ∃ B, B = w.heap.size := ⟨_, rfl⟩
  obtain ⟨wa, hwa, hba, hBA⟩ := box_facts B w [.slice la L.length lc, .slice sa R.length sc, .slice ka K.length kc] 29 (by decide)
  rw [← hBe] at hhs hhr hhk hba hBA ⊢
  have hza := hba.size
  have HQR : Hid (∀ w', LU B wa w' → Rd w' B 15 (.slice sa R.length sc) R.length (eS.cells R)) := Lib.hid (fun w' hl => (hhs.below hba).below (hl.below (Nat.le_refl _) (by omega)))
  have HSR : Hid (∀ w', LU B wa w' → ∀ r ∈ R, SRd w' B r) := Lib.hid (fun w' hl r hr => ((hhr r hr).below hba).below (hl.below (Nat.le_refl _) (by omega)))
  have HKR : Hid (∀ w', LU B wa w' → Rd w' B 4 (.slice ka K.length kc) K.length (eM.cells K)) := Lib.hid (fun w' hl => (hhk.below hba).below (hl.below (Nat.le_refl _) (by omega)))
  have HZ : Hid (B ≤ wa.heap.size) := Lib.hid (by omega)
  have HFIN : Hid (∀ w', LU B wa w' → Below B w w') := Lib.hid (fun w' hl => hba.trans (hl.below (Nat.le_refl _) (by omega)))
  have HN := Lib.hid (number_any wa B (.slice none 0 0) [] R.length (OwnU.nil wa B) (by omega) (by simp))
  have HBA := Lib.hid hBA
  have HWA := Lib.hid hwa
  have HFS := Lib.hid hfs'
  have HP1 := Lib.hid hP1
  have HBE := Lib.hid hBe
  obtain ⟨hcl, _⟩ := hBA _ (LU.refl B wa)
  have c1 := hcl 1
  simp only [List.getElem?_cons_zero, List.getElem?_cons_succ] at c1
  clear h hn hn1 hBe hhl hhs hhr hhk hba hBA hwa hfs' hP1 hza hcl
  go_enter Tryz.func20, Tryz.ntmps20
  go_upto_region 1 with fail
  rw [HWA.out, ← HBE.out]
  go_wp2_with (go_at_call 31; refine HN.out.mono ?_; rintro e wz ⟨vz, rfl, hoz, hl2⟩; have ho2 : Hid (OwnU wz B vz (n3 R.length)) := Lib.hid hoz; clear hoz; have hcc := (HBA.out _ hl2).1 1; simp only [List.getElem?_cons_zero, List.getElem?_cons_succ] at hcc)
  clear hcc c1
  go_loopw [3, 13] (fun v i wr => ∃ k : Nat, k ≤ R.length ∧ i = .int .i64 k ∧ Hid (OwnU wr B v (n3 R.length ++ (R.take k).flatMap fs)) ∧ LU B wa wr) (fun _ i _ => R.length - (intOf i).toNat)
  case atStart => exact ⟨0, by omega, rfl, by simpa using ho2, hl2⟩
  case round =>
    clear hl2 ho2
    obtain ⟨k, hk, rfl, HO, hl⟩ := hrel
    by_cases hlt : k < R.length
    · obtain ⟨x, hx⟩ : ∃ x, R[k]? = some x := ⟨_, List.getElem?_eq_getElem hlt⟩
      obtain ⟨b, o, rfl, hbl, hcs⟩ := Enc.rd_cell (E := eS) (HQR.out _ hl) rfl hx
      obtain ⟨x0, x1, x2, x3, x4, x5, x6, x7, x8, x9, x10, x11, x12, x13, x14⟩ := ses_cells (show World.rangeAt _ b (o + k * 15) (eS.c x) from hcs)
      have hxr := HSR.out _ hl x (List.mem_of_getElem? hx)
      have HXX := Lib.hid hx
      have hlS := lQ.out
      clear hx hcs
      go_upto_region 5 with fail
      clear x0 x1 x2 x3 x4 x5 x6 x7 x8 x9 x10 x11 x12 x13 x14
      obtain ⟨wb, hwb, hbb, hBX⟩ := box_facts B wr (seC x) 52 (by decide)
      have hwb' := hwb
      simp only [seC] at hwb'
      rw [hwb']
      have hlb := hl.trans (LU.of_below hbb)
      have HBb := Nat.le_trans HZ.out hlb.size
      have HSP := Lib.hid (Session_put wb x ((HSR.out _ hlb x (List.mem_of_getElem? HXX.out)).more HBb) (by have := HLC.out k x HXX.out; omega))
      obtain ⟨hcl, hty⟩ := hBX _ (LU.refl B wb)
      have hrg : wb.rangeAt wr.heap.size 0 (eS.c x) := fun j v hv => by rw [Nat.zero_add, hcl]; exact hv
      obtain ⟨x0, x1, x2, x3, x4, x5, x6, x7, x8, x9, x10, x11, x12, x13, x14⟩ := ses_cells hrg
      simp only [Nat.zero_add] at x0 x1 x2 x3 x4 x5 x6 x7 x8 x9 x10 x11 x12 x13 x14
      have HOb := HO.out.keep hbb
      clear hwb hwb' hbb hBX hcl hrg hty
      go_wp2_with first | (go_at_call 32; refine HSP.out.mono ?_; rintro e wz ⟨vz, rfl, hoz, hbz⟩; have hl3 := hlb.trans (LU.of_below hbz); have HB3 := Nat.le_trans HZ.out hl3.size; have HO3 := HOb.keep hbz) | (at_builtin; refine wpList_appb rfl (.tmp 17) (.tmp 19) 23 rfl B Tryz.underlying23 inf_u8 _ _ rfl HO3 _ _ (s3 x.s) rfl hoz.rd ?_ HB3 ?_; (have := HLC.out k x HXX.out; omega); intro v4 w4 ho4 hl4; have hl5 := hl3.trans hl4; have HO5 : Hid (OwnU w4 B v4 (n3 R.length ++ (R.take (k + 1)).flatMap fs)) := Lib.hid (by rw [fm_take HXX.out, HFS.out]; simpa [List.append_assoc] using ho4); clear ho4 hl4)
      go_roundw
      case rel => exact ⟨k + 1, by omega, by go_num, HO5, hl5⟩
      case measure => simp [intOf]; omega
    · obtain rfl : k = R.length := by omega
      have HO1 : Hid (OwnU _ B _ P1) := Lib.hid (by rw [HP1.out]; simpa using HO.out)
      clear HO hlt hk
      have HBr := Nat.le_trans HZ.out hl.size
      have HKP := Lib.hid (Kept_put wr _ K ((HKR.out _ hl).more HBr) (by have := lK.out; omega))
      have c2 := (HBA.out _ hl).1 2
      simp only [List.getElem?_cons_zero, List.getElem?_cons_succ] at c2
      have hlK := lK.out
      go_wp2_with first | (go_at_call 33; refine HKP.out.mono ?_; rintro e wz ⟨vz, rfl, hoz, hbz⟩; have hl3 := hl.trans (LU.of_below hbz); have HB3 := Nat.le_trans HZ.out hl3.size; have HO3 := HO1.out.keep hbz) | (at_builtin; refine wpList_appb rfl (.tmp 22) (.tmp 25) 23 rfl B Tryz.underlying23 inf_u8 _ _ rfl HO3 _ _ (k3 K) rfl hoz.rd ?_ HB3 ?_; omega; intro v4 w4 ho4 hl4; have hl5 := hl3.trans hl4; have HO5 := Lib.hid ho4; clear ho4 hl4)
      have HF := Lib.hid (HFIN.out _ hl5)
      go_ret
      exact ⟨_, rfl, HO5.out, HF.out⟩
/-- The sum's bytes. -/
def sum4 (x : List UInt8) : List UInt8 := [b8 (crcNot (crcFin x (crcNot 0)) / 16777216), b8 (crcNot (crcFin x (crcNot 0)) / 65536), b8 (crcNot (crcFin x (crcNot 0)) / 256), b8 (crcNot (crcFin x (crcNot 0)))]
theorem sum_any (w : World) (v : Value) (x : List UInt8) (h : Rd w w.heap.size 1 v x.length (u8s x)) :
    Calls Tryz.prog 21 #[v] w fun e w' => ∃ v', e = .returned v' ∧ Rd w' w'.heap.size 1 v' 4 (u8s (sum4 x)) ∧ Below w.heap.size w w' := by
  have HS := Lib.hid (Sum_any w v x h)
  obtain ⟨c, hc⟩ : ∃ c, crcNot (crcFin x (crcNot 0)) = c := ⟨_, rfl⟩
  have HE : Hid (u8s (sum4 x) = [.int .u8 (c / 16777216 % 256), .int .u8 (c / 65536 % 256), .int .u8 (c / 256 % 256), .int .u8 (c % 256)]) := Lib.hid (by unfold sum4; rw [hc]; simp [u8s, b8_nat])
  rw [hc] at HS
  clear hc h
  go_enter Tryz.func21, Tryz.ntmps21
  go_wp2_with (go_at_call 34; refine HS.out.mono ?_; rintro e w' ⟨rfl, rfl⟩)
  go_ret
  refine ⟨_, rfl, ?_, by go_grown⟩
  rw [HE.out]
  have h := Rd.of_whole (Whole.new w 5 [.int .u8 (c / 16777216 % 256), .int .u8 (c / 65536 % 256), .int .u8 (c / 256 % 256), .int .u8 (c % 256)]) (by simp [maxLen])
  exact h
end Go.Proofs.YtlehkaibbkblkaaGreatDoor
