/- How much a broker is: wishes, messages. How much a broker is. How much a packet is: of any. What every law's row shares: from 'Below' to the row's post. Arguments opened to cells: slices of structs of one-cell fields, slices of bytes; lists out of 'for every index there is one'. Over any program. Arguments opened, with what the reach says of each part. Over any program. Brokers as an argument: how they lie in memory. Heavy, of layer 24: what is not heavy is a broker of little. The script of layer 24 as an argument: a broker, acts. -/
import Derived.Test.YtknnaeejkmlnbaaGreatDoorRcMay3
import Derived.Test.YtknnaeejkmlnbaaGreatDoorGa
import Derived.ProofKit
import Derived.OpenShut
import Derived.SizedLaws
import Derived.Deep.Slices
import Derived.Deep.Fields
import Derived.Lib.SmallJoins
import Derived.Deep.MidRow
namespace Go.Proofs.YtknnaeejkmlnbaaGreatDoor
open Go.RowKit
/-- As far as the reach goes. -/
def RR : Nat := 281474976710656
theorem RR_eq : RR = 281474976710656 := rfl
set_option maxRecDepth 20000 in
set_option maxHeartbeats 1000000 in
theorem wishes_any (w : World) (v : Value) (L : List Wish1) (Bd : Nat) (h : Rd w Bd 2 v L.length (eW.cells L)) (hl : L.length ≤ RR) (hs : ∀ x ∈ L, x.f.size ≤ RR) :
    Calls Tryz.prog 37 #[v] w fun e w' => ∃ n : Nat, e = .returned (.int .i64 n) ∧ n ≤ L.length + 1048576 + RR ∧ (n < 1048576 → L.length ≤ n ∧ ∀ x ∈ L, x.f.size ≤ n) ∧ w = w' := by
  obtain ⟨ao, cap, rfl, hc, hm⟩ := h.form
  have hm' : cap ≤ 9223372036854775807 := by unfold maxLen at hm; omega
  have H := Lib.hid h
  have HS := Lib.hid hs
  have hl2 : L.length ≤ 281474976710656 := hl
  clear h hm hs hl
  go_enter Tryz.func37, Tryz.ntmps37
  go_wp2
  go_loopw [3, 4] (fun s i wr => ∃ (n k : Nat), s = .int .i64 n ∧ i = .int .i64 k ∧ k ≤ L.length ∧ w = wr ∧ L.length ≤ n ∧ n ≤ L.length + 1048576 + 281474976710656 ∧ Hid (∀ j x, j < k → L[j]? = some x → x.f.size ≤ n)) (fun _ i _ => L.length - (intOf i).toNat)
  case atStart => exact ⟨L.length, 0, rfl, rfl, by omega, rfl, by omega, by omega, Lib.hid (fun j x hj => by omega)⟩
  case round =>
    obtain ⟨n, k, rfl, rfl, hk, rfl, hn1, hn2, HP⟩ := hrel
    by_cases hlt : k < L.length
    · have hlt' : (k : Int) < (L.length : Int) := by omega
      by_cases hbig : n < 1048576
      · have hbig' : (n : Int) < 1048576 := by omega
        obtain ⟨x, hx⟩ : ∃ x, L[k]? = some x := ⟨_, List.getElem?_eq_getElem hlt⟩
        obtain ⟨b, o, rfl, _, hcs⟩ := Enc.rd_cell (E := eW) H.out rfl hx
        obtain ⟨x0, x1⟩ := wi_cells (show w.rangeAt b (o + k * 2) (eW.c x) from hcs)
        have hsx : x.f.size ≤ 281474976710656 := HS.out x (List.mem_of_getElem? hx)
        have HP2 : Hid (∀ j y, j < k + 1 → L[j]? = some y → y.f.size ≤ n + x.f.size) := Lib.hid (fun j y hj hy => by
          by_cases e : j = k
          · subst e
            rw [hx] at hy
            injection hy with hy
            subst hy
            omega
          · have := HP.out j y (by omega) hy
            omega)
        clear hx hcs
        go_wp2
        go_roundw
        case rel => exact ⟨n + x.f.size, k + 1, by go_num, by go_num, by omega, by trivial, by omega, by omega, HP2⟩
        case measure => simp [intOf]; omega
      · have hbig' : ¬ ((n : Int) < 1048576) := by omega
        go_wp2
        go_ret
        exact ⟨n, rfl, by rw [RR_eq]; omega, fun h => absurd h hbig, rfl⟩
    · have hlt' : ¬ ((k : Int) < (L.length : Int)) := by omega
      have HE : Hid (∀ x ∈ L, x.f.size ≤ n) := Lib.hid (fun x hx => by
        obtain ⟨j, hj⟩ := List.getElem?_of_mem hx
        exact HP.out j x (by have := (List.getElem?_eq_some_iff.1 hj).1; omega) hj)
      go_wp2
      go_ret
      exact ⟨n, rfl, by rw [RR_eq]; omega, fun _ => ⟨hn1, HE.out⟩, rfl⟩
set_option maxRecDepth 20000 in
set_option maxHeartbeats 1000000 in
theorem mweight_any (w : World) (v : Value) (L : List Msg) (Bd : Nat) (h : Rd w Bd 4 v L.length (eM.cells L)) (hl : L.length ≤ RR) (hs : ∀ x ∈ L, x.t.size ≤ RR ∧ x.p.size ≤ RR) :
    Calls Tryz.prog 36 #[v] w fun e w' => ∃ n : Nat, e = .returned (.int .i64 n) ∧ n ≤ L.length + 1048576 + 2 * RR ∧ (n < 1048576 → L.length ≤ n ∧ ∀ x ∈ L, x.t.size ≤ n ∧ x.p.size ≤ n) ∧ Below w.heap.size w w' := by
  obtain ⟨ao, cap, rfl, hc, hm⟩ := h.form
  have hm' : cap ≤ 9223372036854775807 := by unfold maxLen at hm; omega
  have H := Lib.hid h
  have HS := Lib.hid hs
  have hl2 : L.length ≤ 281474976710656 := hl
  clear h hm hs hl
  go_enter Tryz.func36, Tryz.ntmps36
  go_wp2
  go_loopw [3, 4] (fun s i wr => ∃ (n k : Nat), s = .int .i64 n ∧ i = .int .i64 k ∧ k ≤ L.length ∧ (∃ nd, wr = w.drewN nd) ∧ L.length ≤ n ∧ n ≤ L.length + 1048576 + 562949953421312 ∧ Hid (∀ j x, j < k → L[j]? = some x → x.t.size ≤ n ∧ x.p.size ≤ n)) (fun _ i _ => L.length - (intOf i).toNat)
  case atStart => exact ⟨L.length, 0, rfl, rfl, by omega, ⟨0, rfl⟩, by omega, by omega, Lib.hid (fun j x hj => by omega)⟩
  case round =>
    obtain ⟨n, k, rfl, rfl, hk, ⟨nd, rfl⟩, hn1, hn2, HP⟩ := hrel
    have hbd : Hid (Below w.heap.size w (w.drewN nd)) := Lib.hid (below_drewN (Below.refl w.heap.size w) nd)
    by_cases hlt : k < L.length
    · have hlt' : (k : Int) < (L.length : Int) := by omega
      by_cases hbig : n < 1048576
      · have hbig' : (n : Int) < 1048576 := by omega
        obtain ⟨x, hx⟩ : ∃ x, L[k]? = some x := ⟨_, List.getElem?_eq_getElem hlt⟩
        obtain ⟨b, o, rfl, _, hcs⟩ := Enc.rd_cell (E := eM) H.out rfl hx
        obtain ⟨x0, x1, x2, x3⟩ := msg_cells (show w.rangeAt b (o + k * 4) (eM.c x) from hcs)
        have hsx := HS.out x (List.mem_of_getElem? hx)
        have hs1 : x.t.size ≤ 281474976710656 := hsx.1
        have hs2 : x.p.size ≤ 281474976710656 := hsx.2
        have HP2 : Hid (∀ j y, j < k + 1 → L[j]? = some y → y.t.size ≤ n + x.t.size + x.p.size ∧ y.p.size ≤ n + x.t.size + x.p.size) := Lib.hid (fun j y hj hy => by
          by_cases e : j = k
          · subst e
            rw [hx] at hy
            injection hy with hy
            subst hy
            omega
          · have := HP.out j y (by omega) hy
            omega)
        clear hx hcs hsx
        have hwr1 : IntKind.i64.wrap ((n : Int) + (x.t.size : Int)) = (n : Int) + (x.t.size : Int) := IntWalk.i64_in _ ⟨by omega, by omega⟩
        have hwr2 : IntKind.i64.wrap ((n : Int) + (x.t.size : Int) + (x.p.size : Int)) = (n : Int) + (x.t.size : Int) + (x.p.size : Int) := IntWalk.i64_in _ ⟨by omega, by omega⟩
        go_wp2
        refine wp_region_held_drew (S := fun wx => wx.cell? ⟨b, o + k * 4, none⟩ = some (.string x.t) ∧ wx.cell? ⟨b, o + k * 4 + 1, none⟩ = some (.string x.p)) (by kernel_rfl) ⟨x0, x1⟩ (fun hHeld => ?_)
        refine tk 0 (by assumption) ?_
        (try simp only [aPt])
        refine tk 1 (by assumption) ?_
        (try simp only [aPt])
        refine tk 2 (by assumption) ?_
        (try simp only [aPt])
        refine tk 3 (by assumption) ?_
        (try simp only [aPt])
        refine tk 4 (by assumption) ?_
        (try simp only [aPt])
        refine tk 5 (by assumption) ?_
        (try simp only [aPt])
        refine tk 6 (by assumption) ?_
        (try simp only [aPt])
        refine tk 7 (by assumption) ?_
        (try simp only [aPt])
        refine tk 8 (by assumption) ?_
        (try simp only [aPt])
        refine tk 9 (by assumption) ?_
        (try simp only [aPt])
        refine tk 10 (by assumption) ?_
        (try simp only [aPt])
        refine tk 11 (by assumption) ?_
        (try simp only [aPt])
        refine tk 12 (by assumption) ?_
        (try simp only [aPt])
        refine tk 13 (by assumption) ?_
        (try simp only [aPt])
        refine tk 14 (by assumption) ?_
        (try simp only [aPt])
        refine tk 15 (by assumption) ?_
        (try simp only [aPt])
        refine wpAnyH_done (by kernel_rfl) ?_ _
        clear hHeld
        go_wp2
        go_roundw
        case rel => exact ⟨n + x.t.size + x.p.size, k + 1, by go_num, by go_num, by omega, ⟨nd + 1, rfl⟩, by omega, by omega, HP2⟩
        case measure => simp [intOf]; omega
      · have hbig' : ¬ ((n : Int) < 1048576) := by omega
        go_wp2
        go_ret
        exact ⟨n, rfl, by rw [RR_eq]; omega, fun h => absurd h hbig, hbd.out⟩
    · have hlt' : ¬ ((k : Int) < (L.length : Int)) := by omega
      have HE : Hid (∀ x ∈ L, x.t.size ≤ n ∧ x.p.size ≤ n) := Lib.hid (fun x hx => by
        obtain ⟨j, hj⟩ := List.getElem?_of_mem hx
        exact HP.out j x (by have := (List.getElem?_eq_some_iff.1 hj).1; omega) hj)
      go_wp2
      go_ret
      exact ⟨n, rfl, by rw [RR_eq]; omega, fun _ => ⟨hn1, HE.out⟩, hbd.out⟩
set_option maxRecDepth 20000 in
set_option maxHeartbeats 2000000 in
theorem obw_any (w : World) (v : Value) (a : OB) (h : OR w v a) (hl : a.F.length ≤ RR ∧ a.Q.length ≤ RR) (hs : (∀ x ∈ a.Q, x.t.size ≤ RR ∧ x.p.size ≤ RR) ∧ ∀ x ∈ a.F, x.m.t.size ≤ RR ∧ x.m.p.size ≤ RR) :
    Calls Tryz.prog 38 #[v] w fun e w' => ∃ n : Nat, e = .returned (.int .i64 n) ∧ n ≤ 6 * RR ∧ (n < 1048576 → (a.Q.length ≤ n ∧ ∀ x ∈ a.Q, x.t.size ≤ n ∧ x.p.size ≤ n) ∧ a.F.length ≤ n ∧ ∀ x ∈ a.F, x.m.t.size ≤ n ∧ x.m.p.size ≤ n) ∧ Below w.heap.size w w' := by
  obtain ⟨last, F, Q⟩ := a
  obtain ⟨fv, qv, rfl, hf, hq⟩ := h
  simp only at hf hq hl hs ⊢
  obtain ⟨fo, fc, rfl, _, hfm⟩ := hf.form
  obtain ⟨qo, qc, rfl, _, _⟩ := hq.form
  have hm' : fc ≤ 9223372036854775807 := by unfold maxLen at hfm; omega
  obtain ⟨wa, hwa⟩ : ∃ wa, w.alloc (.cells #[.int .i64 last, .slice fo F.length fc, .slice qo Q.length qc] 59) = wa := ⟨_, rfl⟩
  have hb0 : Below w.heap.size w wa := by rw [← hwa]; exact (Below.refl _ _).alloc (Nat.le_refl _) _
  have hW : Whole wa w.heap.size 59 [.int .i64 last, .slice fo F.length fc, .slice qo Q.length qc] := by rw [← hwa]; exact Whole.new w 59 _
  have HMW := Lib.hid (mweight_any wa _ Q w.heap.size (hq.below hb0) hl.2 hs.1)
  have HF := Lib.hid (fun wx (hx : Below wa.heap.size wa wx) => (hf.below hb0).below (hx.mono hb0.size))
  have HCL := Lib.hid (fun wx (hx : Below wa.heap.size wa wx) => (hW.belowH hx).three)
  have HS := Lib.hid hs.2
  have hl1 : F.length ≤ 281474976710656 := hl.1
  have hl2 : Q.length ≤ 281474976710656 := hl.2
  have HWA := Lib.hid hwa
  have HB0 := Lib.hid hb0
  obtain ⟨c0, c1, c2, _, _, _⟩ := hW.three
  clear hf hq hl hs hwa hb0 hW hfm
  go_enter Tryz.func38, Tryz.ntmps38
  go_upto_region 1 with fail
  rw [HWA.out]
  go_wp2_with (go_at_call 36; refine HMW.out.mono ?_; rintro e w1 ⟨n0, rfl, hn0, hn1, hb1⟩; have d1 := b_cell hb1 c1)
  have HN1 := Lib.hid hn1
  rw [RR_eq] at hn0
  clear hn1
  go_loopw [3, 4] (fun s i wr => ∃ (n k : Nat), s = .int .i64 n ∧ i = .int .i64 k ∧ k ≤ F.length ∧ Below wa.heap.size wa wr ∧ n0 ≤ n ∧ k ≤ n ∧ (n ≤ n0 ∨ n ≤ 1048576 + 562949953421312) ∧ Hid (∀ j x, j < k → F[j]? = some x → x.m.t.size ≤ n ∧ x.m.p.size ≤ n)) (fun _ i _ => F.length - (intOf i).toNat)
  case atStart => exact ⟨n0, 0, rfl, rfl, by omega, hb1, by omega, by omega, by omega, Lib.hid (fun j x hj => by omega)⟩
  case round =>
    clear d1 hb1
    obtain ⟨n, k, rfl, rfl, hk, hb, hm1, hm2, hm3, HP⟩ := hrel
    obtain ⟨d0, d1, d2, _, _, _⟩ := HCL.out _ hb
    by_cases hlt : k < F.length
    · have hlt' : (k : Int) < (F.length : Int) := by omega
      by_cases hbig : n < 1048576
      · have hbig' : (n : Int) < 1048576 := by omega
        obtain ⟨x, hx⟩ : ∃ x, F[k]? = some x := ⟨_, List.getElem?_eq_getElem hlt⟩
        obtain ⟨b, o, rfl, _, hcs⟩ := Enc.rd_cell (E := eF) (HF.out _ hb) rfl hx
        obtain ⟨x0, x1, x2, x3, x4, x5⟩ := fl_cells (show World.rangeAt _ b (o + k * 6) (eF.c x) from hcs)
        have hsx := HS.out x (List.mem_of_getElem? hx)
        have hs1 : x.m.t.size ≤ 281474976710656 := hsx.1
        have hs2 : x.m.p.size ≤ 281474976710656 := hsx.2
        have HP2 : Hid (∀ j y, j < k + 1 → F[j]? = some y → y.m.t.size ≤ n + 1 + x.m.t.size + x.m.p.size ∧ y.m.p.size ≤ n + 1 + x.m.t.size + x.m.p.size) := Lib.hid (fun j y hj hy => by
          by_cases e : j = k
          · subst e
            rw [hx] at hy
            injection hy with hy
            subst hy
            omega
          · have := HP.out j y (by omega) hy
            omega)
        have hwr0 : IntKind.i64.wrap ((n : Int) + 1) = (n : Int) + 1 := IntWalk.i64_in _ ⟨by omega, by omega⟩
        have hwr1 : IntKind.i64.wrap ((n : Int) + 1 + (x.m.t.size : Int)) = (n : Int) + 1 + (x.m.t.size : Int) := IntWalk.i64_in _ ⟨by omega, by omega⟩
        have hwr2 : IntKind.i64.wrap ((n : Int) + 1 + (x.m.t.size : Int) + (x.m.p.size : Int)) = (n : Int) + 1 + (x.m.t.size : Int) + (x.m.p.size : Int) := IntWalk.i64_in _ ⟨by omega, by omega⟩
        clear hx hcs hsx x0 x3 x4 x5
        go_wp2
        refine wp_region_held_drew (S := fun wx => wx.cell? ⟨w.heap.size, 1, none⟩ = some (.slice (some ⟨b, o, none⟩) F.length fc) ∧ wx.cell? ⟨b, o + k * 6 + 1, none⟩ = some (.string x.m.t) ∧ wx.cell? ⟨b, o + k * 6 + 2, none⟩ = some (.string x.m.p)) (by kernel_rfl) ⟨d1, x1, x2⟩ (fun hHeld => ?_)
        refine tk 0 (by assumption) ?_
        (try simp only [aPt])
        refine tk 1 (by assumption) ?_
        (try simp only [aPt])
        refine tk 2 (by assumption) ?_
        (try simp only [aPt])
        refine tk 3 (by assumption) ?_
        (try simp only [aPt])
        refine tk 4 (by assumption) ?_
        (try simp only [aPt])
        refine tk 5 (by assumption) ?_
        (try simp only [aPt])
        refine tk 6 (by assumption) ?_
        (try simp only [aPt])
        refine tk 7 (by assumption) ?_
        (try simp only [aPt])
        refine tk 8 (by assumption) ?_
        (try simp only [aPt])
        refine tk 9 (by assumption) ?_
        (try simp only [aPt])
        refine tk 10 (by assumption) ?_
        (try simp only [aPt])
        refine tk 11 (by assumption) ?_
        (try simp only [aPt])
        refine tk 12 (by assumption) ?_
        (try simp only [aPt])
        refine tk 13 (by assumption) ?_
        (try simp only [aPt])
        refine tk 14 (by assumption) ?_
        (try simp only [aPt])
        refine tk 15 (by assumption) ?_
        (try simp only [aPt])
        refine tk 16 (by assumption) ?_
        (try simp only [aPt])
        refine tk 17 (by assumption) ?_
        (try simp only [aPt])
        refine tk 18 (by assumption) ?_
        (try simp only [aPt])
        refine tk 19 (by assumption) ?_
        (try simp only [aPt])
        refine tk 20 (by assumption) ?_
        (try simp only [aPt])
        refine wpAnyH_done (by kernel_rfl) ?_ _
        clear hHeld
        go_wp2
        go_roundw
        case rel => exact ⟨n + 1 + x.m.t.size + x.m.p.size, k + 1, by go_num, by go_num, by omega, hb.drew, by omega, by omega, by omega, HP2⟩
        case measure => simp [intOf]; omega
      · have hbig' : ¬ ((n : Int) < 1048576) := by omega
        go_wp2
        go_ret
        exact ⟨n, rfl, by rw [RR_eq]; omega, fun h => absurd h hbig, b_tr HB0.out hb⟩
    · have hlt' : ¬ ((k : Int) < (F.length : Int)) := by omega
      have HE : Hid (n < 1048576 → (Q.length ≤ n ∧ ∀ x ∈ Q, x.t.size ≤ n ∧ x.p.size ≤ n) ∧ F.length ≤ n ∧ ∀ x ∈ F, x.m.t.size ≤ n ∧ x.m.p.size ≤ n) := Lib.hid (fun hn => by
        have h0 := HN1.out (by omega)
        refine ⟨⟨by omega, fun x hx => by have := h0.2 x hx; omega⟩, by omega, fun x hx => ?_⟩
        obtain ⟨j, hj⟩ := List.getElem?_of_mem hx
        exact HP.out j x (by have := (List.getElem?_eq_some_iff.1 hj).1; omega) hj)
      go_wp2
      go_ret
      exact ⟨n, rfl, by rw [RR_eq]; omega, HE.out, b_tr HB0.out hb⟩
end Go.Proofs.YtknnaeejkmlnbaaGreatDoor
namespace Go.Proofs.YtknnaeejkmlnbaaGreatDoor
open Go.RowKit
/-- Nothing of a session is more than n. -/
structure SW (n : Nat) (y : Se) : Prop where
  c : y.c.size ≤ n
  i : y.I.length ≤ n
  s : y.S.length ≤ n ∧ ∀ x ∈ y.S, x.f.size ≤ n
  q : y.o.Q.length ≤ n ∧ ∀ x ∈ y.o.Q, x.t.size ≤ n ∧ x.p.size ≤ n
  f : y.o.F.length ≤ n ∧ ∀ x ∈ y.o.F, x.m.t.size ≤ n ∧ x.m.p.size ≤ n
  w : y.wl.t.size ≤ n ∧ y.wl.p.size ≤ n
theorem SW.mono {n m : Nat} {s : Se} (h : SW n s) (hm : n ≤ m) : SW m s :=
  ⟨by have := h.c; omega, by have := h.i; omega, ⟨by have := h.s.1; omega, fun x hx => by have := h.s.2 x hx; omega⟩, ⟨by have := h.q.1; omega, fun x hx => by have := h.q.2 x hx; omega⟩, ⟨by have := h.f.1; omega, fun x hx => by have := h.f.2 x hx; omega⟩, by have := h.w; omega⟩
/-- Nothing of a broker is more than n. -/
structure BW (n : Nat) (b : Br) : Prop where
  l : b.L.length ≤ n
  s : b.S.length ≤ n ∧ ∀ s ∈ b.S, SW n s
  k : b.K.length ≤ n ∧ ∀ m ∈ b.K, m.t.size ≤ n ∧ m.p.size ≤ n
set_option maxRecDepth 20000 in
set_option maxHeartbeats 4000000 in
theorem bw_any (w : World) (lv sv kv : Value) (R : List Rs) (b : Br) (h : BRd w w.heap.size lv sv kv R b) (hr : BW RR b) :
    Calls Tryz.prog 14 #[.agg #[lv, sv, kv]] w fun e w' => ∃ n : Nat, e = .returned (.int .i64 n) ∧ n ≤ 9223372036854775807 ∧ (n < 1048576 → BW n b) ∧ Below w.heap.size w w' := by
  obtain ⟨L, S, Kk⟩ := b
  obtain ⟨hRe, hRl, hRs, hRr, hRk⟩ := h
  simp only at hRe hRl hRk
  subst hRe
  obtain ⟨la, lc, rfl, _, _⟩ := hRl.form
  obtain ⟨sa, sc, rfl, _, hsm⟩ := hRs.form
  obtain ⟨ka, kc, rfl, _, _⟩ := hRk.form
  have hm' : sc ≤ 9223372036854775807 := by unfold maxLen at hsm; omega
  obtain ⟨B, hB⟩ : ∃ B, w.heap.size = B := ⟨_, rfl⟩
  rw [hB] at hRl hRs hRr hRk ⊢
  obtain ⟨wa, hwa⟩ : ∃ wa, w.alloc (.cells #[.slice la L.length lc, .slice sa R.length sc, .slice ka Kk.length kc] 26) = wa := ⟨_, rfl⟩
  have hb0 : Below B w wa := by rw [← hwa, ← hB]; exact (Below.refl _ _).alloc (Nat.le_refl _) _
  have hW : Whole wa B 26 [.slice la L.length lc, .slice sa R.length sc, .slice ka Kk.length kc] := by rw [← hwa, ← hB]; exact Whole.new w 26 _
  have hza : B ≤ wa.heap.size := by have := hb0.size; omega
  have HMW := Lib.hid (mweight_any wa.drew _ Kk B ((hRk.below hb0).below (Below.refl B wa).drew) hr.k.1 hr.k.2)
  have HS := Lib.hid (fun wx (hx : Below wa.heap.size wa wx) => (hRs.below hb0).below (hx.mono hza))
  have HSR := Lib.hid (fun wx (hx : Below wa.heap.size wa wx) r (hr : r ∈ R) => ((hRr r hr).below hb0).below (hx.mono hza))
  have HCL := Lib.hid (fun wx (hx : Below wa.heap.size wa wx) => (hW.belowH hx).three)
  have HSW : Hid (∀ r ∈ R, SW RR r.s) := Lib.hid (fun r h => hr.s.2 _ (List.mem_map.2 ⟨r, h, rfl⟩))
  have hrl : R.length ≤ 281474976710656 := by have := hr.s.1; simpa [RR] using this
  have hkl : Kk.length ≤ 281474976710656 := hr.k.1
  have hll : L.length ≤ 281474976710656 := hr.l
  have HWA := Lib.hid hwa
  have HB0 := Lib.hid hb0
  have HB := Lib.hid hB
  have HZ := Lib.hid hza
  obtain ⟨c0, c1, c2, _, _, _⟩ := hW.three
  clear hRl hRs hRr hRk hr hsm hwa hb0 hW hza hB
  go_enter Tryz.func14, Tryz.ntmps14
  go_upto_region 1 with fail
  rw [HWA.out, HB.out]
  refine wp_region_held_drew (S := fun wx => wx.cell? ⟨B, 0, none⟩ = some (.slice la L.length lc) ∧ wx.cell? ⟨B, 2, none⟩ = some (.slice ka Kk.length kc) ∧ Below wa.heap.size wa wx) (by kernel_rfl) ⟨c0, c2, (Below.refl wa.heap.size wa).drew⟩ (fun hHeld => ?_)
  refine tk 0 (by assumption) ?_
  (try simp only [aPt])
  refine tk 1 (by assumption) ?_
  (try simp only [aPt])
  refine tk 2 (by assumption) ?_
  (try simp only [aPt])
  refine tk 3 (by assumption) ?_
  (try simp only [aPt])
  refine tk 4 (by assumption) ?_
  (try simp only [aPt])
  refine wpAnyH_ready (rs := [5]) (by kernel_rfl) (by simp) ?_
  refine call_h 5 ⟨?_, ?_, fun K hK => ?_⟩
  rotate_left 1
  · (simp only [List.getElem?_toArray, List.getElem?_cons_succ, List.getElem?_cons_zero]; exact rfl)
  go_simp
  (go_at_call 36; refine HMW.out.mono ?_; rintro e w1 ⟨n0, rfl, hn0, hn1, hb1⟩)
  go_wp2_with fail
  rw [RR_eq] at hn0
  have hb1' := b_tr (Below.refl wa.heap.size wa).drew hb1
  have hwr0 : IntKind.i64.wrap ((L.length : Int) + (n0 : Int)) = (L.length : Int) + (n0 : Int) := IntWalk.i64_in _ ⟨by omega, by omega⟩
  refine hK.out _ _ ⟨b_cell hb1' c0, b_cell hb1' c2, hb1'⟩ (fun hHeld => ?_)
  clear hK K
  (try simp only [aPt])
  refine tk 6 (by assumption) ?_
  (try simp only [aPt])
  refine tk 7 (by assumption) ?_
  (try simp only [aPt])
  refine wpAnyH_done (by kernel_rfl) ?_ _
  clear hHeld c0 c1 c2 hb1
  go_wp2
  have HN1 := Lib.hid hn1
  clear hn1 hwr0
  go_loopw [3, 4] (fun s i wr => ∃ (n k : Nat), s = .int .i64 n ∧ i = .int .i64 k ∧ k ≤ R.length ∧ Below wa.heap.size wa wr ∧ L.length + n0 ≤ n ∧ k ≤ n ∧ n ≤ 3940649678143488 ∧ Hid (n < 1048576 → ∀ j x, j < k → R[j]? = some x → SW n x.s)) (fun _ i _ => R.length - (intOf i).toNat)
  case atStart => exact ⟨L.length + n0, 0, by go_num, rfl, by omega, hb1', by omega, by omega, by omega, Lib.hid (fun _ j x hj => by omega)⟩
  case round =>
    clear hb1'
    obtain ⟨n, k, rfl, rfl, hk, hb, hm1, hm2, hm3, HP⟩ := hrel
    obtain ⟨d0, d1, d2, _, _, _⟩ := HCL.out _ hb
    by_cases hlt : k < R.length
    · have hlt' : (k : Int) < (R.length : Int) := by omega
      by_cases hbig : n < 1048576
      · have hbig' : (n : Int) < 1048576 := by omega
        obtain ⟨x, hx⟩ : ∃ x, R[k]? = some x := ⟨_, List.getElem?_eq_getElem hlt⟩
        obtain ⟨b, o, rfl, _, hcs⟩ := Enc.rd_cell (E := eS) (HS.out _ hb) rfl hx
        obtain ⟨x0, x1, x2, x3, x4, x5, x6, x7, x8, x9, x10, x11, x12, x13, x14⟩ := ses_cells (show World.rangeAt _ b (o + k * 15) (eS.c x) from hcs)
        have HXX := Lib.hid hx
        clear hx hcs
        go_upto_region 6 with fail
        obtain ⟨wb, hwb⟩ : ∃ wb, wb = wr.alloc (.cells (seC x).toArray 61) := ⟨_, rfl⟩
        have hbb : Below wr.heap.size wr wb := by rw [hwb]; exact (Below.refl _ _).alloc (Nat.le_refl _) _
        have hWB : Whole wb wr.heap.size 61 (seC x) := by rw [hwb]; exact Whole.new _ 61 _
        have hbw := b_tr hb hbb
        have HWB : Hid (wr.alloc (.cells (seC x).toArray 61) = wb) := Lib.hid hwb.symm
        unfold seC at HWB
        rw [HWB.out]
        have hzw := hbw.size
        have HSC := Lib.hid (fun (wx : World) (hx : Below wb.heap.size wb wx) => show wx.cell? ⟨wr.heap.size, 0, none⟩ = some (.string x.s.c) ∧ wx.cell? ⟨wr.heap.size, 3, none⟩ = some (.slice x.sa x.s.S.length x.sc) ∧ wx.cell? ⟨wr.heap.size, 4, none⟩ = some (.int .i64 x.s.o.last) ∧ wx.cell? ⟨wr.heap.size, 5, none⟩ = some (.slice x.fa x.s.o.F.length x.fc) ∧ wx.cell? ⟨wr.heap.size, 6, none⟩ = some (.slice x.qa x.s.o.Q.length x.qc) ∧ wx.cell? ⟨wr.heap.size, 7, none⟩ = some (.slice x.ia x.s.I.length x.ic) ∧ wx.cell? ⟨wr.heap.size, 9, none⟩ = some (.string x.s.wl.t) ∧ wx.cell? ⟨wr.heap.size, 10, none⟩ = some (.string x.s.wl.p) ∧ Below wb.heap.size wb wx from (by
          obtain ⟨y0, y1, y2, y3, y4, y5, y6, y7, y8, y9, y10, y11, y12, y13, y14⟩ := ses_whole (hWB.belowH hx)
          exact ⟨y0, y3, y4, y5, y6, y7, y9, y10, hx⟩))
        have hsw := HSW.out x (List.mem_of_getElem? HXX.out)
        have hrd := HSR.out wb hbw x (List.mem_of_getElem? HXX.out)
        have hBw : B ≤ wb.heap.size := Nat.le_trans HZ.out hzw
        have HWI := Lib.hid (fun wx (hx : Below wb.heap.size wb wx) => wishes_any wx _ x.s.S B (hrd.s.below (hx.mono hBw)) hsw.s.1 hsw.s.2)
        have HOW := Lib.hid (fun wx (hx : Below wb.heap.size wb wx) => obw_any wx (.agg #[.int .i64 x.s.o.last, .slice x.fa x.s.o.F.length x.fc, .slice x.qa x.s.o.Q.length x.qc]) x.s.o ⟨_, _, rfl, (hrd.f.below (hx.mono hBw)).more (Nat.le_trans hBw hx.size), (hrd.q.below (hx.mono hBw)).more (Nat.le_trans hBw hx.size)⟩ ⟨hsw.f.1, hsw.q.1⟩ ⟨hsw.q.2, hsw.f.2⟩)
        obtain ⟨sc1, hsc1⟩ : ∃ z, z = x.s.c.size := ⟨_, rfl⟩
        obtain ⟨sc2, hsc2⟩ : ∃ z, z = x.s.I.length := ⟨_, rfl⟩
        obtain ⟨sc3, hsc3⟩ : ∃ z, z = x.s.wl.t.size := ⟨_, rfl⟩
        obtain ⟨sc4, hsc4⟩ : ∃ z, z = x.s.wl.p.size := ⟨_, rfl⟩
        have hz1 : x.s.c.size ≤ 281474976710656 := hsw.c
        have hz2 : x.s.I.length ≤ 281474976710656 := hsw.i
        have hz3 : x.s.wl.t.size ≤ 281474976710656 := hsw.w.1
        have hz4 : x.s.wl.p.size ≤ 281474976710656 := hsw.w.2
        have hz5 : x.s.S.length ≤ 281474976710656 := hsw.s.1
        have hwr0 : IntKind.i64.wrap ((n : Int) + 1) = (n : Int) + 1 := IntWalk.i64_in _ ⟨by omega, by omega⟩
        have hwr1 : IntKind.i64.wrap ((n : Int) + 1 + (x.s.c.size : Int)) = (n : Int) + 1 + (x.s.c.size : Int) := IntWalk.i64_in _ ⟨by omega, by omega⟩
        have hwr2 : IntKind.i64.wrap ((n : Int) + 1 + (x.s.c.size : Int) + (x.s.I.length : Int)) = (n : Int) + 1 + (x.s.c.size : Int) + (x.s.I.length : Int) := IntWalk.i64_in _ ⟨by omega, by omega⟩
        clear hwb hWB hrd hsw x0 x1 x2 x3 x4 x5 x6 x7 x8 x9 x10 x11 x12 x13 x14 hsc1 hsc2 hsc3 hsc4
        refine wp_region_held_drew (S := fun wx => wx.cell? ⟨wr.heap.size, 0, none⟩ = some (.string x.s.c) ∧ wx.cell? ⟨wr.heap.size, 3, none⟩ = some (.slice x.sa x.s.S.length x.sc) ∧ wx.cell? ⟨wr.heap.size, 4, none⟩ = some (.int .i64 x.s.o.last) ∧ wx.cell? ⟨wr.heap.size, 5, none⟩ = some (.slice x.fa x.s.o.F.length x.fc) ∧ wx.cell? ⟨wr.heap.size, 6, none⟩ = some (.slice x.qa x.s.o.Q.length x.qc) ∧ wx.cell? ⟨wr.heap.size, 7, none⟩ = some (.slice x.ia x.s.I.length x.ic) ∧ wx.cell? ⟨wr.heap.size, 9, none⟩ = some (.string x.s.wl.t) ∧ wx.cell? ⟨wr.heap.size, 10, none⟩ = some (.string x.s.wl.p) ∧ Below wb.heap.size wb wx) (by kernel_rfl) (HSC.out _ (Below.refl wb.heap.size wb).drew) (fun hHeld => ?_)
        refine tk 0 (by assumption) ?_
        (try simp only [aPt])
        refine tk 1 (by assumption) ?_
        (try simp only [aPt])
        refine tk 2 (by assumption) ?_
        (try simp only [aPt])
        refine tk 3 (by assumption) ?_
        (try simp only [aPt])
        refine tk 4 (by assumption) ?_
        (try simp only [aPt])
        refine tk 5 (by assumption) ?_
        (try simp only [aPt])
        refine tk 6 (by assumption) ?_
        (try simp only [aPt])
        refine tk 7 (by assumption) ?_
        (try simp only [aPt])
        refine tk 8 (by assumption) ?_
        (try simp only [aPt])
        refine tk 9 (by assumption) ?_
        (try simp only [aPt])
        refine tk 10 (by assumption) ?_
        (try simp only [aPt])
        refine tk 11 (by assumption) ?_
        (try simp only [aPt])
        refine tk 14 (by assumption) ?_
        (try simp only [aPt])
        refine tk 15 (by assumption) ?_
        (try simp only [aPt])
        refine tk 18 (by assumption) ?_
        (try simp only [aPt])
        refine tk 19 (by assumption) ?_
        (try simp only [aPt])
        refine tk 20 (by assumption) ?_
        (try simp only [aPt])
        refine tk 21 (by assumption) ?_
        (try simp only [aPt])
        refine tk 23 (by assumption) ?_
        (try simp only [aPt])
        refine tk 24 (by assumption) ?_
        (try simp only [aPt])
        refine tk 25 (by assumption) ?_
        (try simp only [aPt])
        refine tk 26 (by assumption) ?_
        (try simp only [aPt])
        refine wpAnyH_ready (rs := [12]) (by kernel_rfl) (by simp) ?_
        refine call_h 12 ⟨?_, ?_, fun K hK => ?_⟩
        rotate_left 1
        · (simp only [List.getElem?_toArray, List.getElem?_cons_succ, List.getElem?_cons_zero]; exact rfl)
        go_simp
        (go_at_call 37; refine (HWI.out _ (Below.refl wb.heap.size wb).drew).mono ?_; rintro e w2 ⟨n1, rfl, hn1, hf1, rfl⟩)
        go_wp2_with fail
        rw [RR_eq] at hn1
        have hwr3 : IntKind.i64.wrap ((n : Int) + 1 + (x.s.c.size : Int) + (x.s.I.length : Int) + (n1 : Int)) = (n : Int) + 1 + (x.s.c.size : Int) + (x.s.I.length : Int) + (n1 : Int) := IntWalk.i64_in _ ⟨by omega, by omega⟩
        refine hK.out _ _ hHeld (fun hHeld => ?_)
        clear hK K
        (try simp only [aPt])
        refine tk 13 (by assumption) ?_
        (try simp only [aPt])
        refine wpAnyH_ready (rs := [16]) (by kernel_rfl) (by simp) ?_
        refine call_h 16 ⟨?_, ?_, fun K hK => ?_⟩
        rotate_left 1
        · (simp only [List.getElem?_toArray, List.getElem?_cons_succ, List.getElem?_cons_zero]; exact rfl)
        go_simp
        (go_at_call 38; refine (HOW.out _ (Below.refl wb.heap.size wb).drew).mono ?_; rintro e w3 ⟨n2, rfl, hn2, hf2, hb3⟩)
        go_wp2_with fail
        rw [RR_eq] at hn2
        have hwr4 : IntKind.i64.wrap ((n : Int) + 1 + (x.s.c.size : Int) + (x.s.I.length : Int) + (n1 : Int) + (n2 : Int)) = (n : Int) + 1 + (x.s.c.size : Int) + (x.s.I.length : Int) + (n1 : Int) + (n2 : Int) := IntWalk.i64_in _ ⟨by omega, by omega⟩
        have hwr5 : IntKind.i64.wrap ((n : Int) + 1 + (x.s.c.size : Int) + (x.s.I.length : Int) + (n1 : Int) + (n2 : Int) + (x.s.wl.t.size : Int)) = (n : Int) + 1 + (x.s.c.size : Int) + (x.s.I.length : Int) + (n1 : Int) + (n2 : Int) + (x.s.wl.t.size : Int) := IntWalk.i64_in _ ⟨by omega, by omega⟩
        have hwr6 : IntKind.i64.wrap ((n : Int) + 1 + (x.s.c.size : Int) + (x.s.I.length : Int) + (n1 : Int) + (n2 : Int) + (x.s.wl.t.size : Int) + (x.s.wl.p.size : Int)) = (n : Int) + 1 + (x.s.c.size : Int) + (x.s.I.length : Int) + (n1 : Int) + (n2 : Int) + (x.s.wl.t.size : Int) + (x.s.wl.p.size : Int) := IntWalk.i64_in _ ⟨by omega, by omega⟩
        have hb3' := b_tr (Below.refl wb.heap.size wb).drew hb3
        refine hK.out _ _ (HSC.out _ hb3') (fun hHeld => ?_)
        clear hK K
        (try simp only [aPt])
        refine tk 17 (by assumption) ?_
        (try simp only [aPt])
        refine tk 22 (by assumption) ?_
        (try simp only [aPt])
        refine tk 27 (by assumption) ?_
        (try simp only [aPt])
        refine tk 28 (by assumption) ?_
        (try simp only [aPt])
        refine wpAnyH_done (by kernel_rfl) ?_ _
        clear hHeld
        have HP2 : Hid (n + 1 + x.s.c.size + x.s.I.length + n1 + n2 + x.s.wl.t.size + x.s.wl.p.size < 1048576 → ∀ j y, j < k + 1 → R[j]? = some y → SW (n + 1 + x.s.c.size + x.s.I.length + n1 + n2 + x.s.wl.t.size + x.s.wl.p.size) y.s) := Lib.hid (fun hlt j y hj hy => by
          by_cases e : j = k
          · subst e
            rw [HXX.out] at hy
            injection hy with hy
            subst hy
            have g1 := hf1 (by omega)
            have g2 := hf2 (by omega)
            exact ⟨by omega, by omega, ⟨by omega, fun y hy => by have := g1.2 y hy; omega⟩, ⟨by omega, fun y hy => by have := g2.1.2 y hy; omega⟩, ⟨by omega, fun y hy => by have := g2.2.2 y hy; omega⟩, by omega, by omega⟩
          · exact (HP.out hbig j y (by omega) hy).mono (by omega))
        clear hf1 hf2
        go_wp2
        go_roundw
        case rel => exact ⟨n + 1 + x.s.c.size + x.s.I.length + n1 + n2 + x.s.wl.t.size + x.s.wl.p.size, k + 1, by go_num, by go_num, by omega, b_tr hbw hb3', by omega, by omega, by omega, HP2⟩
        case measure => simp [intOf]; omega
      · have hbig' : ¬ ((n : Int) < 1048576) := by omega
        go_wp2
        go_ret
        exact ⟨n, rfl, by omega, fun h => absurd h hbig, HB0.out.trans (hb.mono HZ.out)⟩
    · have hlt' : ¬ ((k : Int) < (R.length : Int)) := by omega
      have HE : Hid (n < 1048576 → BW n ⟨L, R.map (·.s), Kk⟩) := Lib.hid (fun hn => by
        have h0 := HN1.out (by omega)
        refine ⟨by show L.length ≤ n; omega, ⟨by simp; omega, fun y hy => ?_⟩, by show Kk.length ≤ n; omega, fun m hm => by have := h0.2 m hm; omega⟩
        obtain ⟨r, hr, rfl⟩ := List.mem_map.1 hy
        obtain ⟨j, hj⟩ := List.getElem?_of_mem hr
        exact HP.out hn j r (by have := (List.getElem?_eq_some_iff.1 hj).1; omega) hj)
      go_wp2
      go_ret
      exact ⟨n, rfl, by omega, HE.out, HB0.out.trans (hb.mono HZ.out)⟩
end Go.Proofs.YtknnaeejkmlnbaaGreatDoor
namespace Go.Proofs.YtknnaeejkmlnbaaGreatDoor
open Go.RowKit
def eX : Enc ByteArray := ⟨fun s => [.string s], 1, fun _ => rfl, fun s u hu => by
  simp only [List.mem_cons, List.mem_nil_iff, or_false] at hu
  subst hu
  rfl⟩
set_option maxRecDepth 20000 in
set_option maxHeartbeats 1000000 in
theorem tweight_any (w : World) (v : Value) (L : List ByteArray) (Bd : Nat) (h : Rd w Bd 1 v L.length (eX.cells L)) (hl : L.length ≤ RR) (hs : ∀ x ∈ L, x.size ≤ RR) :
    Calls Tryz.prog 39 #[v] w fun e w' => ∃ n : Nat, e = .returned (.int .i64 n) ∧ n ≤ L.length + 1048576 + RR ∧ w = w' := by
  obtain ⟨ao, cap, rfl, hc, hm⟩ := h.form
  have hm' : cap ≤ 9223372036854775807 := by unfold maxLen at hm; omega
  have H := Lib.hid h
  have HS := Lib.hid hs
  have hl2 : L.length ≤ 281474976710656 := hl
  clear h hm hs hl
  go_enter Tryz.func39, Tryz.ntmps39
  go_wp2
  go_loopw [3, 4] (fun s i wr => ∃ (n k : Nat), s = .int .i64 n ∧ i = .int .i64 k ∧ k ≤ L.length ∧ w = wr ∧ n ≤ L.length + 1048576 + 281474976710656) (fun _ i _ => L.length - (intOf i).toNat)
  case atStart => exact ⟨L.length, 0, rfl, rfl, by omega, rfl, by omega⟩
  case round =>
    obtain ⟨n, k, rfl, rfl, hk, rfl, hn2⟩ := hrel
    by_cases hlt : k < L.length
    · have hlt' : (k : Int) < (L.length : Int) := by omega
      by_cases hbig : n < 1048576
      · have hbig' : (n : Int) < 1048576 := by omega
        obtain ⟨x, hx⟩ : ∃ x, L[k]? = some x := ⟨_, List.getElem?_eq_getElem hlt⟩
        obtain ⟨b, o, rfl, _, hcs⟩ := Enc.rd_cell (E := eX) H.out rfl hx
        have x0 : w.cell? ⟨b, o + k, none⟩ = some (.string x) := by simpa [eX] using hcs 0 _ rfl
        have hsx : x.size ≤ 281474976710656 := HS.out x (List.mem_of_getElem? hx)
        clear hx hcs
        go_wp2
        go_roundw
        case rel => exact ⟨n + x.size, k + 1, by go_num, by go_num, by omega, by trivial, by omega⟩
        case measure => simp [intOf]; omega
      · have hbig' : ¬ ((n : Int) < 1048576) := by omega
        go_wp2
        go_ret
        exact ⟨n, rfl, by rw [RR_eq]; omega, rfl⟩
    · have hlt' : ¬ ((k : Int) < (L.length : Int)) := by omega
      go_wp2
      go_ret
      exact ⟨n, rfl, by rw [RR_eq]; omega, rfl⟩
/-- A packet, with where its lists lie. -/
structure Mq1 where
  k : Int
  c : ByteArray
  cl : Bool
  ka : Int
  wi : Bool
  wt : ByteArray
  wp : ByteArray
  wq : Int
  wr : Bool
  u : ByteArray
  hu : Bool
  p : ByteArray
  hp : Bool
  pr : Bool
  co : Int
  ia : Option Addr
  n : Nat
  ic : Nat
  dup : Bool
  q : Int
  r : Bool
  t : ByteArray
  id : Int
  pl : ByteArray
  wa : Option Addr
  W : List Wish1
  wc : Nat
  fa : Option Addr
  F : List ByteArray
  fc : Nat
def mqC (m : Mq1) : List Value := [.int .i64 m.k, .string m.c, .bool m.cl, .int .i64 m.ka, .bool m.wi, .string m.wt, .string m.wp, .int .i64 m.wq, .bool m.wr, .string m.u, .bool m.hu, .string m.p, .bool m.hp, .bool m.pr, .int .i64 m.co,
  .slice m.ia m.n m.ic, .bool m.dup, .int .i64 m.q, .bool m.r, .string m.t, .int .i64 m.id, .string m.pl, .slice m.wa m.W.length m.wc, .slice m.fa m.F.length m.fc]
def mqV (m : Mq1) : Value := .agg #[.int .i64 m.k, .string m.c, .bool m.cl, .int .i64 m.ka, .bool m.wi, .string m.wt, .string m.wp, .int .i64 m.wq, .bool m.wr, .string m.u, .bool m.hu, .string m.p, .bool m.hp, .bool m.pr, .int .i64 m.co,
  .slice m.ia m.n m.ic, .bool m.dup, .int .i64 m.q, .bool m.r, .string m.t, .int .i64 m.id, .string m.pl, .slice m.wa m.W.length m.wc, .slice m.fa m.F.length m.fc]
/-- It may be read, and nothing is beyond reach. -/
structure MqR (w : World) (Bd : Nat) (m : Mq1) : Prop where
  W : Rd w Bd 2 (.slice m.wa m.W.length m.wc) m.W.length (eW.cells m.W)
  F : Rd w Bd 1 (.slice m.fa m.F.length m.fc) m.F.length (eX.cells m.F)
  zc : m.c.size ≤ RR ∧ m.wt.size ≤ RR ∧ m.wp.size ≤ RR ∧ m.u.size ≤ RR ∧ m.p.size ≤ RR ∧ m.n ≤ RR ∧ m.t.size ≤ RR ∧ m.pl.size ≤ RR
  zi : m.n ≤ m.ic ∧ m.ic ≤ maxLen
  zW : m.W.length ≤ RR ∧ ∀ x ∈ m.W, x.f.size ≤ RR
  zF : m.F.length ≤ RR ∧ ∀ x ∈ m.F, x.size ≤ RR
theorem MqR.below {w w' : World} {Bd : Nat} {m : Mq1} (h : MqR w Bd m) (hb : Below Bd w w') : MqR w' Bd m := ⟨h.W.below hb, h.F.below hb, h.zc, h.zi, h.zW, h.zF⟩
theorem MqR.more {w : World} {Bd B2 : Nat} {m : Mq1} (h : MqR w Bd m) (hB : Bd ≤ B2) : MqR w B2 m := ⟨h.W.more hB, h.F.more hB, h.zc, h.zi, h.zW, h.zF⟩
theorem mq_whole {w : World} {g : Nat} {m : Mq1} (h : Whole w g 48 (mqC m)) : w.cell? ⟨g, 1, none⟩ = some (.string m.c) ∧ w.cell? ⟨g, 5, none⟩ = some (.string m.wt) ∧ w.cell? ⟨g, 6, none⟩ = some (.string m.wp) ∧ w.cell? ⟨g, 9, none⟩ = some (.string m.u) ∧ w.cell? ⟨g, 11, none⟩ = some (.string m.p) ∧
    w.cell? ⟨g, 15, none⟩ = some (.slice m.ia m.n m.ic) ∧ w.cell? ⟨g, 19, none⟩ = some (.string m.t) ∧ w.cell? ⟨g, 21, none⟩ = some (.string m.pl) ∧ w.cell? ⟨g, 22, none⟩ = some (.slice m.wa m.W.length m.wc) ∧ w.cell? ⟨g, 23, none⟩ = some (.slice m.fa m.F.length m.fc) :=
  ⟨h.cell 1, h.cell 5, h.cell 6, h.cell 9, h.cell 11, h.cell 15, h.cell 19, h.cell 21, h.cell 22, h.cell 23⟩
set_option maxRecDepth 20000 in
set_option maxHeartbeats 4000000 in
theorem mqw_any (w : World) (m : Mq1) (Bd : Nat) (h : MqR w Bd m) (hB : Bd ≤ w.heap.size) :
    Calls Tryz.prog 15 #[mqV m] w fun e w' => ∃ n : Nat, e = .returned (.int .i64 n) ∧ n ≤ 4503599627370496 ∧ Below w.heap.size w w' := by
  obtain ⟨wa, hwa⟩ : ∃ wa, w.alloc (.cells (mqC m).toArray 48) = wa := ⟨_, rfl⟩
  have hb0 : Below w.heap.size w wa := by rw [← hwa]; exact (Below.refl _ _).alloc (Nat.le_refl _) _
  have hW : Whole wa w.heap.size 48 (mqC m) := by rw [← hwa]; exact Whole.new w 48 _
  have hr := h.below (hb0.mono hB)
  have HWI := Lib.hid (fun wx (hx : Below wa.heap.size wa wx) => wishes_any wx _ m.W Bd (hr.W.below (hx.mono (Nat.le_trans hB hb0.size))) h.zW.1 h.zW.2)
  have HTX := Lib.hid (fun wx (hx : Below wa.heap.size wa wx) => tweight_any wx _ m.F Bd (hr.F.below (hx.mono (Nat.le_trans hB hb0.size))) h.zF.1 h.zF.2)
  obtain ⟨z1, z2, z3, z4, z5, z6, z7, z8⟩ := h.zc
  have z9 := h.zW.1
  have z10 := h.zF.1
  rw [RR_eq] at z1 z2 z3 z4 z5 z6 z7 z8 z9 z10
  have HB0 := Lib.hid hb0
  have HWA := Lib.hid hwa
  have hc := mq_whole hW
  have HSC := Lib.hid (fun wx (hx : Below wa.heap.size wa wx) => show wx.cell? ⟨w.heap.size, 1, none⟩ = some (.string m.c) ∧ wx.cell? ⟨w.heap.size, 5, none⟩ = some (.string m.wt) ∧ wx.cell? ⟨w.heap.size, 6, none⟩ = some (.string m.wp) ∧ wx.cell? ⟨w.heap.size, 9, none⟩ = some (.string m.u) ∧ wx.cell? ⟨w.heap.size, 11, none⟩ = some (.string m.p) ∧ wx.cell? ⟨w.heap.size, 15, none⟩ = some (.slice m.ia m.n m.ic) ∧ wx.cell? ⟨w.heap.size, 19, none⟩ = some (.string m.t) ∧ wx.cell? ⟨w.heap.size, 21, none⟩ = some (.string m.pl) ∧ wx.cell? ⟨w.heap.size, 22, none⟩ = some (.slice m.wa m.W.length m.wc) ∧ wx.cell? ⟨w.heap.size, 23, none⟩ = some (.slice m.fa m.F.length m.fc) from mq_whole (hW.belowH hx))
  unfold mqC at HWA
  have e1 : IntKind.i64.wrap ((m.c.size : Int) + (m.wt.size : Int)) = (m.c.size : Int) + (m.wt.size : Int) := IntWalk.i64_in _ ⟨by omega, by omega⟩
  have e2 : IntKind.i64.wrap ((m.c.size : Int) + (m.wt.size : Int) + (m.wp.size : Int)) = (m.c.size : Int) + (m.wt.size : Int) + (m.wp.size : Int) := IntWalk.i64_in _ ⟨by omega, by omega⟩
  have e3 : IntKind.i64.wrap ((m.c.size : Int) + (m.wt.size : Int) + (m.wp.size : Int) + (m.u.size : Int)) = (m.c.size : Int) + (m.wt.size : Int) + (m.wp.size : Int) + (m.u.size : Int) := IntWalk.i64_in _ ⟨by omega, by omega⟩
  have e4 : IntKind.i64.wrap ((m.c.size : Int) + (m.wt.size : Int) + (m.wp.size : Int) + (m.u.size : Int) + (m.p.size : Int)) = (m.c.size : Int) + (m.wt.size : Int) + (m.wp.size : Int) + (m.u.size : Int) + (m.p.size : Int) := IntWalk.i64_in _ ⟨by omega, by omega⟩
  have e5 : IntKind.i64.wrap ((m.c.size : Int) + (m.wt.size : Int) + (m.wp.size : Int) + (m.u.size : Int) + (m.p.size : Int) + (m.n : Int)) = (m.c.size : Int) + (m.wt.size : Int) + (m.wp.size : Int) + (m.u.size : Int) + (m.p.size : Int) + (m.n : Int) := IntWalk.i64_in _ ⟨by omega, by omega⟩
  have e6 : IntKind.i64.wrap ((m.c.size : Int) + (m.wt.size : Int) + (m.wp.size : Int) + (m.u.size : Int) + (m.p.size : Int) + (m.n : Int) + (m.t.size : Int)) = (m.c.size : Int) + (m.wt.size : Int) + (m.wp.size : Int) + (m.u.size : Int) + (m.p.size : Int) + (m.n : Int) + (m.t.size : Int) := IntWalk.i64_in _ ⟨by omega, by omega⟩
  have e7 : IntKind.i64.wrap ((m.c.size : Int) + (m.wt.size : Int) + (m.wp.size : Int) + (m.u.size : Int) + (m.p.size : Int) + (m.n : Int) + (m.t.size : Int) + (m.pl.size : Int)) = (m.c.size : Int) + (m.wt.size : Int) + (m.wp.size : Int) + (m.u.size : Int) + (m.p.size : Int) + (m.n : Int) + (m.t.size : Int) + (m.pl.size : Int) := IntWalk.i64_in _ ⟨by omega, by omega⟩
  clear h hb0 hW hr hwa hc
  unfold mqV
  go_enter Tryz.func15, Tryz.ntmps15
  go_upto_region 1 with fail
  rw [HWA.out]
  refine wp_region_held_drew (S := fun wx => wx.cell? ⟨w.heap.size, 1, none⟩ = some (.string m.c) ∧ wx.cell? ⟨w.heap.size, 5, none⟩ = some (.string m.wt) ∧ wx.cell? ⟨w.heap.size, 6, none⟩ = some (.string m.wp) ∧ wx.cell? ⟨w.heap.size, 9, none⟩ = some (.string m.u) ∧ wx.cell? ⟨w.heap.size, 11, none⟩ = some (.string m.p) ∧ wx.cell? ⟨w.heap.size, 15, none⟩ = some (.slice m.ia m.n m.ic) ∧ wx.cell? ⟨w.heap.size, 19, none⟩ = some (.string m.t) ∧ wx.cell? ⟨w.heap.size, 21, none⟩ = some (.string m.pl) ∧ wx.cell? ⟨w.heap.size, 22, none⟩ = some (.slice m.wa m.W.length m.wc) ∧ wx.cell? ⟨w.heap.size, 23, none⟩ = some (.slice m.fa m.F.length m.fc)) (by kernel_rfl) (HSC.out _ (Below.refl wa.heap.size wa).drew) (fun hHeld => ?_)
  refine tk 0 (by assumption) ?_
  (try simp only [aPt])
  refine tk 1 (by assumption) ?_
  (try simp only [aPt])
  refine tk 2 (by assumption) ?_
  (try simp only [aPt])
  refine tk 3 (by assumption) ?_
  (try simp only [aPt])
  refine tk 4 (by assumption) ?_
  (try simp only [aPt])
  refine tk 5 (by assumption) ?_
  (try simp only [aPt])
  refine tk 6 (by assumption) ?_
  (try simp only [aPt])
  refine tk 7 (by assumption) ?_
  (try simp only [aPt])
  refine tk 8 (by assumption) ?_
  (try simp only [aPt])
  refine tk 9 (by assumption) ?_
  (try simp only [aPt])
  refine tk 10 (by assumption) ?_
  (try simp only [aPt])
  refine tk 11 (by assumption) ?_
  (try simp only [aPt])
  refine tk 12 (by assumption) ?_
  (try simp only [aPt])
  refine tk 13 (by assumption) ?_
  (try simp only [aPt])
  refine tk 14 (by assumption) ?_
  (try simp only [aPt])
  refine tk 15 (by assumption) ?_
  (try simp only [aPt])
  refine tk 16 (by assumption) ?_
  (try simp only [aPt])
  refine tk 17 (by assumption) ?_
  (try simp only [aPt])
  refine tk 18 (by assumption) ?_
  (try simp only [aPt])
  refine tk 19 (by assumption) ?_
  (try simp only [aPt])
  refine tk 20 (by assumption) ?_
  (try simp only [aPt])
  refine tk 21 (by assumption) ?_
  (try simp only [aPt])
  refine tk 22 (by assumption) ?_
  (try simp only [aPt])
  refine tk 23 (by assumption) ?_
  (try simp only [aPt])
  refine tk 24 (by assumption) ?_
  (try simp only [aPt])
  refine tk 25 (by assumption) ?_
  (try simp only [aPt])
  refine tk 26 (by assumption) ?_
  (try simp only [aPt])
  refine tk 27 (by assumption) ?_
  (try simp only [aPt])
  refine tk 28 (by assumption) ?_
  (try simp only [aPt])
  refine tk 29 (by assumption) ?_
  (try simp only [aPt])
  refine tk 30 (by assumption) ?_
  (try simp only [aPt])
  refine tk 31 (by assumption) ?_
  (try simp only [aPt])
  refine tk 32 (by assumption) ?_
  (try simp only [aPt])
  refine tk 33 (by assumption) ?_
  (try simp only [aPt])
  refine tk 34 (by assumption) ?_
  (try simp only [aPt])
  refine tk 37 (by assumption) ?_
  (try simp only [aPt])
  refine tk 38 (by assumption) ?_
  (try simp only [aPt])
  refine wpAnyH_ready (rs := [35]) (by kernel_rfl) (by simp) ?_
  refine call_h 35 ⟨?_, ?_, fun K hK => ?_⟩
  rotate_left 1
  · (simp only [List.getElem?_toArray, List.getElem?_cons_succ, List.getElem?_cons_zero]; exact rfl)
  go_simp
  (go_at_call 37; refine (HWI.out _ (Below.refl wa.heap.size wa).drew).mono ?_; rintro e w1 ⟨m1, rfl, hm1, _, rfl⟩)
  go_wp2_with fail
  rw [RR_eq] at hm1
  have hb1 : Below wa.heap.size wa wa.drew := (Below.refl wa.heap.size wa).drew
  have e8 : IntKind.i64.wrap ((m.c.size : Int) + (m.wt.size : Int) + (m.wp.size : Int) + (m.u.size : Int) + (m.p.size : Int) + (m.n : Int) + (m.t.size : Int) + (m.pl.size : Int) + (m1 : Int)) = (m.c.size : Int) + (m.wt.size : Int) + (m.wp.size : Int) + (m.u.size : Int) + (m.p.size : Int) + (m.n : Int) + (m.t.size : Int) + (m.pl.size : Int) + (m1 : Int) := IntWalk.i64_in _ ⟨by omega, by omega⟩
  refine hK.out _ _ (HSC.out _ hb1) (fun hHeld => ?_)
  clear hK K
  (try simp only [aPt])
  refine tk 36 (by assumption) ?_
  (try simp only [aPt])
  refine wpAnyH_ready (rs := [39]) (by kernel_rfl) (by simp) ?_
  refine call_h 39 ⟨?_, ?_, fun K hK => ?_⟩
  rotate_left 1
  · (simp only [List.getElem?_toArray, List.getElem?_cons_succ, List.getElem?_cons_zero]; exact rfl)
  go_simp
  (go_at_call 39; refine (HTX.out _ hb1).mono ?_; rintro e w2 ⟨m2, rfl, hm2, rfl⟩)
  go_wp2_with fail
  rw [RR_eq] at hm2
  have e9 : IntKind.i64.wrap ((m.c.size : Int) + (m.wt.size : Int) + (m.wp.size : Int) + (m.u.size : Int) + (m.p.size : Int) + (m.n : Int) + (m.t.size : Int) + (m.pl.size : Int) + (m1 : Int) + (m2 : Int)) = (m.c.size : Int) + (m.wt.size : Int) + (m.wp.size : Int) + (m.u.size : Int) + (m.p.size : Int) + (m.n : Int) + (m.t.size : Int) + (m.pl.size : Int) + (m1 : Int) + (m2 : Int) := IntWalk.i64_in _ ⟨by omega, by omega⟩
  refine hK.out _ _ (HSC.out _ hb1) (fun hHeld => ?_)
  clear hK K
  (try simp only [aPt])
  refine tk 40 (by assumption) ?_
  (try simp only [aPt])
  refine tk 41 (by assumption) ?_
  (try simp only [aPt])
  refine wpAnyH_done (by kernel_rfl) ?_ _
  clear hHeld
  go_wp2
  go_ret
  exact ⟨m.c.size + m.wt.size + m.wp.size + m.u.size + m.p.size + m.n + m.t.size + m.pl.size + m1 + m2, by go_num, by omega, b_tr HB0.out hb1⟩
end Go.Proofs.YtknnaeejkmlnbaaGreatDoor
namespace Go.Proofs.YtknnaeejkmlnbaaGreatDoor
open Go.ChangeShapes Go.WideShapes Go.ChangeAt Go.RowKit

/-- A law of one argument that returned, and left what was there alone: the row's post (its results and its argument read as said). -/
theorem ds_post {H : Type} {enc : TypeId × Value → H} {P : Program} {f : Func} {s : ChangeSpec} {W W' : World} {args : Array Value} {v : Value} {ds : List (DataW H)} {before : List MemPlace}
    (hW : DataW.Whole enc P f.params.toList s.vars false W args.toList ds [] before)
    (hres : ∀ (b : Nat) (sp : Nat → Bool) (hd : Bool), DataW.TrodAll enc P W' b sp hd f.resultTypes.toList (v.resultList f.resultTypes.size) (s.fn H (ds ++ [])).results [])
    (hargs : DataW.TrodAll enc P W' 0 (fun b => decide (b < W.heap.size)) true f.params.toList args.toList (s.fn H (ds ++ [])).args before)
    (hvars : DataW.TrodVars enc P W' (fun b => decide (b < W.heap.size)) s.vars (s.fn H (ds ++ [])).vars [])
    (hb : Below W.heap.size W W') : s.post enc P f false true false false W args v W' := by
  refine ⟨ds, [], before, [], before, [], hW, hres _ _ _, hargs, hvars, World.keptBut_mono (fun p hp => ⟨hp, ?_⟩) (hb.frame (· ∈ before)), fun h => by cases h⟩
  exact Or.inr (by simpa using hp)

theorem spot_none {w : World} {a : Addr} {v : Value} (h : w.cell? a = some v) : a.spot = none := by
  cases hs : a.spot with
  | none => rfl
  | some x =>
    unfold World.cell? at h
    split at h <;> simp [hs] at h
end Go.Proofs.YtknnaeejkmlnbaaGreatDoor
namespace Go.Proofs.YtknnaeejkmlnbaaGreatDoor
open Go.ChangeShapes Go.WideShapes Go.Deep Go.RowKit

theorem list_of_all {α : Type} {P : Nat → α → Prop} (n : Nat) (h : ∀ i, i < n → ∃ x, P i x) : ∃ l : List α, l.length = n ∧ ∀ i x, l[i]? = some x → P i x := by
  induction n with
  | zero => exact ⟨[], rfl, fun i x hx => by simp at hx⟩
  | succ n ih =>
    obtain ⟨l, hl, hp⟩ := ih (fun i hi => h i (by omega))
    obtain ⟨y, hy⟩ := h n (by omega)
    refine ⟨l ++ [y], by simp [hl], fun i x hx => ?_⟩
    by_cases hi : i < n
    · rw [List.getElem?_append_left (by omega)] at hx
      exact hp i x hx
    · have hlt : i < (l ++ [y]).length := (List.getElem?_eq_some_iff.1 hx).1
      have he : i = n := by simp at hlt; omega
      subst he
      rw [List.getElem?_append_right (by omega), hl, Nat.sub_self] at hx
      simp at hx
      exact hx ▸ hy

section
variable {H : Type} {enc : TypeId × Value → H} {P : Program} {w : World} {spare : Nat → Bool} {held : Bool}

end
end Go.Proofs.YtknnaeejkmlnbaaGreatDoor
namespace Go.Proofs.YtknnaeejkmlnbaaGreatDoor
open Go.ChangeShapes Go.WideShapes Go.Deep Go.RowKit

section
variable {H : Type} {enc : TypeId × Value → H} {P : Program} {w : World} {spare : Nat → Bool} {held : Bool}
/-- All that is read takes no more than the reach. -/
def Rch (P : Program) (t : TypeId) (d : DataW H) : Prop := ∀ n ∈ d.weights P t, n ≤ reachBytes
theorem mem_all {e : TypeId} : ∀ {l : List (DataW H)} {d : DataW H}, d ∈ l → ∀ n ∈ d.weights P e, n ∈ DataW.weightsAll P e l
  | x :: r, d, hd, n, hn => by
    simp only [DataW.weightsAll, List.mem_append]
    rcases List.mem_cons.1 hd with rfl | h
    · exact .inl hn
    · exact .inr (mem_all h n hn)
theorem rch_elem {t e : TypeId} {el sp : List (DataW H)} {d : DataW H} (ht : P.underlying t = some (.slice e)) (h : Rch P t (.slice el sp)) (hd : d ∈ el) : Rch P e d := fun n hn =>
  h n (by simp only [DataW.weights, ht, List.mem_cons, List.mem_append]; exact .inr (.inl (mem_all hd n hn)))
theorem rch_len {t e : TypeId} {el sp : List (DataW H)} (ht : P.underlying t = some (.slice e)) (h : Rch P t (.slice el sp)) : (el.length + sp.length) * P.bytesOf e ≤ reachBytes :=
  h _ (by simp [DataW.weights, ht])
theorem rch_field {t : TypeId} {fs : Array Field} {parts : List (DataW H)} {j : Nat} {f : Field} {d : DataW H} (ht : P.underlying t = some (.struct fs)) (h : Rch P t (.agg parts)) (hf : fs[j]? = some f) (hd : parts[j]? = some d) : Rch P f.type d := fun n hn =>
  h n (by
    simp only [DataW.weights, ht]
    exact DataW.weights_mem_each (j := j) (by rw [List.getElem?_map, Array.getElem?_toList, hf]; rfl) hd n hn)
theorem rch_string {t : TypeId} {l : List UInt8} (h : Rch P t (.lit (.string l) : DataW H)) : l.length ≤ reachBytes := h _ (by simp [DataW.weights])
theorem rch_arg {t : TypeId} {d : DataW H} (h : (DataW.weightsEach P ([t] ++ []) ([d] ++ [])).all (· ≤ reachBytes) = true) : Rch P t d := fun n hn => by
  have := List.all_eq_true.1 h n (by simp [DataW.weightsEach]; exact hn)
  simpa using this

/-- The elements of a slice, each with its cells. -/
theorem open_elems {t e : TypeId} {fuel : Nat} {cs : List Value} {x : DataW H × List MemPlace} (ht : P.underlying t = some (.slice e)) (hpos : 0 < P.cellsOf e)
    (h : DataW.trod enc P w 0 spare held fuel t cs = some x) (hr : Rch P t x.1) :
    cs = [.slice none 0 0] ∨
    ∃ (a : Addr) (len cap : Nat), cs = [.slice (some a) len cap] ∧ len ≤ cap ∧ cap ≤ maxLen ∧ len * P.bytesOf e ≤ reachBytes ∧
      ∀ i, i < len → a.spot = none ∧ ∃ (vs : List Value) (n : Nat) (y : DataW H × List MemPlace), vs.length = P.cellsOf e ∧ (∀ j, j < P.cellsOf e → w.cell? ⟨a.block, a.off + (i * P.cellsOf e + j), none⟩ = vs[j]?) ∧
        DataW.trod enc P w 0 spare held n e vs = some y ∧ Rch P e y.1 := by
  rcases open_slice ht h with h0 | ⟨a, len, cap, m, n, D, Pl, hcs, _, hl, hm, hmm, hx, hi⟩
  · exact .inl h0.1
  have hlm : len ≤ m := by rw [hmm]; split <;> omega
  rw [hx] at hr
  have hlen := rch_len ht hr
  simp only [List.length_map, List.length_range] at hlen
  have hle : len * P.bytesOf e ≤ reachBytes := Nat.le_trans (Nat.mul_le_mul_right _ (Nat.le_add_right _ _)) hlen
  refine .inr ⟨a, len, cap, hcs, hl, hm, hle, fun i him => ?_⟩
  have hrow : ∀ i, i < m → ∃ vs : List Value, vs.length = P.cellsOf e ∧ (∀ j, j < P.cellsOf e → w.cell? (a.add (i * P.cellsOf e + j)) = vs[j]?) ∧ DataW.trod enc P w 0 spare held n e vs = some (D i, Pl i) := by
    intro i him
    obtain ⟨vs, hc, htr⟩ := hi i him
    obtain ⟨_, hcl, hat⟩ := World.cells?_some hc
    exact ⟨vs, hcl, fun j hj => by rw [← hat j hj, Go.Deep.add_add], htr⟩
  have hs : a.spot = none := by
    obtain ⟨vs, hcl, hat, _⟩ := hrow 0 (by omega)
    have h0 := hat 0 hpos
    rw [List.getElem?_eq_getElem (by omega)] at h0
    simp only [Nat.zero_mul, Nat.add_zero, Addr.add, if_true] at h0
    exact spot_none h0
  obtain ⟨vs, hcl, hat, htr⟩ := hrow i (by omega)
  refine ⟨hs, vs, n, _, hcl, fun j hj => ?_, htr, rch_elem ht hr (List.mem_map.2 ⟨i, List.mem_range.2 him, rfl⟩)⟩
  rw [← hat j hj]
  obtain ⟨b, o, s⟩ := a
  simp only at hs
  subst hs
  rw [add_flat]

/-- A field of a struct. -/
theorem open_field {t : TypeId} {fs : Array Field} {fuel : Nat} {cs : List Value} {x : DataW H × List MemPlace} (ht : P.underlying t = some (.struct fs)) (h : DataW.trod enc P w 0 spare held fuel t cs = some x) (hr : Rch P t x.1) :
    cs.length = P.cellsOf t ∧ ∀ (j : Nat) (f : Field), fs[j]? = some f → ∃ (n : Nat) (y : DataW H × List MemPlace), DataW.trod enc P w 0 spare held n f.type ((cs.drop f.offset).take (P.cellsOf f.type)) = some y ∧ Rch P f.type y.1 := by
  obtain ⟨xs, n, _, hx, hlen, hxl, hf⟩ := DataW.trod_struct ht h
  refine ⟨hlen, fun j f hj => ?_⟩
  have hjl : j < fs.size := (Array.getElem?_eq_some_iff.1 hj).1
  have h1 := hf j f hj
  rw [List.getElem?_eq_getElem (by omega)] at h1
  refine ⟨n, _, h1, ?_⟩
  rw [hx] at hr
  exact rch_field ht hr hj (by rw [List.getElem?_map, List.getElem?_eq_getElem (by omega)]; rfl)
theorem open_str {t : TypeId} {fuel : Nat} {cs : List Value} {x : DataW H × List MemPlace} (ht : P.underlying t = some .string) (h : DataW.trod enc P w 0 spare held fuel t cs = some x) (hr : Rch P t x.1) :
    ∃ s : ByteArray, cs = [.string s] ∧ s.size ≤ reachBytes := by
  obtain ⟨s, hc, hx, _⟩ := DataW.trod_string ht h
  rw [hx] at hr
  have := rch_string hr
  exact ⟨s, hc, by rw [Array.length_toList] at this; exact this⟩
end
end Go.Proofs.YtknnaeejkmlnbaaGreatDoor
namespace Go.Proofs.YtknnaeejkmlnbaaGreatDoor
open Go.ChangeShapes Go.WideShapes Go.Deep Go.RowKit
theorem cellsM : Tryz.prog.cellsOf 83 = 4 := by kernel_rfl
theorem cellsF : Tryz.prog.cellsOf 108 = 6 := by kernel_rfl
theorem cellsW : Tryz.prog.cellsOf 106 = 2 := by kernel_rfl
theorem cellsS : Tryz.prog.cellsOf 61 = 15 := by kernel_rfl
theorem cellsBr : Tryz.prog.cellsOf 26 = 3 := by kernel_rfl
theorem cellsI : Tryz.prog.cellsOf 3 = 1 := by kernel_rfl
theorem cellsB : Tryz.prog.cellsOf 4 = 1 := by kernel_rfl
theorem cellsT : Tryz.prog.cellsOf 9 = 1 := by kernel_rfl
theorem reach_RR : reachBytes ≤ RR := by unfold reachBytes RR; omega
section
variable {H : Type} {enc : TypeId × Value → H} {w : World} {spare : Nat → Bool} {held : Bool}
theorem open_str' {fuel : Nat} {cs : List Value} {x : DataW H × List MemPlace} (h : DataW.trod enc Tryz.prog w 0 spare held fuel 9 cs = some x) (hr : Rch Tryz.prog 9 x.1) : ∃ s : ByteArray, cs = [.string s] ∧ s.size ≤ RR := by
  obtain ⟨s, e0, hs⟩ := open_str Tryz.underlying9 h hr
  exact ⟨s, e0, Nat.le_trans hs reach_RR⟩
/-- A row of things, opened. -/
theorem open_list {α : Type} (E : Enc α) (Q : α → Prop) {t e : TypeId} {fuel : Nat} {v : Value} {x : DataW H × List MemPlace} (ht : Tryz.prog.underlying t = some (.slice e)) (hc : Tryz.prog.cellsOf e = E.sz) (hpos : 0 < E.sz) (hby : 0 < Tryz.prog.bytesOf e)
    (hp : ∀ {fuel : Nat} {cs : List Value} {x : DataW H × List MemPlace}, DataW.trod enc Tryz.prog w 0 spare held fuel e cs = some x → Rch Tryz.prog e x.1 → ∃ a : α, cs = E.c a ∧ Q a)
    (h : DataW.trod enc Tryz.prog w 0 spare held fuel t [v] = some x) (hr : Rch Tryz.prog t x.1) : ∃ L : List α, Rd w w.heap.size E.sz v L.length (E.cells L) ∧ L.length ≤ RR ∧ ∀ a ∈ L, Q a := by
  rcases open_elems ht (by rw [hc]; exact hpos) h hr with h | ⟨a, len, cap, hcs, hl, hm, hle, hrow⟩
  · injection h with h
    subst h
    exact ⟨[], Rd.nil_ _ _ _, by simp, by simp⟩
  · injection hcs with hcs
    subst hcs
    rw [hc] at hrow
    have hex : ∀ i, i < len → ∃ q : α, (a.spot = none ∧ ∀ j, j < E.sz → w.cell? ⟨a.block, a.off + (i * E.sz + j), none⟩ = (E.c q)[j]?) ∧ Q q := by
      intro i hi
      obtain ⟨hs, vs, m, y, hvl, hcell, htr, hry⟩ := hrow i hi
      obtain ⟨q, rfl, hq⟩ := hp htr hry
      exact ⟨q, ⟨hs, hcell⟩, hq⟩
    obtain ⟨L, hal, hL⟩ := list_of_all len hex
    have hle2 : len ≤ reachBytes := Nat.le_trans (Nat.le_mul_of_pos_right _ hby) hle
    refine ⟨L, ⟨E.cells_length L, some a, cap, by rw [hal], by omega, hm, (fun e => by cases e), fun hn => ?_⟩, by rw [hal]; exact Nat.le_trans hle2 reach_RR, fun q hq => ?_⟩
    · obtain ⟨⟨hs, hat⟩, _⟩ := hL 0 _ (List.getElem?_eq_getElem hn)
      obtain ⟨b, o, s⟩ := a
      simp only at hs
      subst hs
      have hlt : b < w.heap.size := by
        have h0 := hat 0 hpos
        rw [List.getElem?_eq_getElem (by rw [E.len]; exact hpos)] at h0
        exact World.block_lt_of_cell? w _ h0
      refine ⟨b, o, rfl, hlt, fun k u hu => ?_⟩
      have hk : k < (E.cells L).length := (List.getElem?_eq_some_iff.1 hu).1
      rw [E.cells_length] at hk
      have hkl : k / E.sz < L.length := Nat.div_lt_of_lt_mul (by rw [Nat.mul_comm]; exact hk)
      have hkm : k % E.sz < E.sz := Nat.mod_lt _ hpos
      have e : k = k / E.sz * E.sz + k % E.sz := by rw [Nat.mul_comm]; exact (Nat.div_add_mod k E.sz).symm
      obtain ⟨⟨_, hq⟩, _⟩ := hL (k / E.sz) _ (List.getElem?_eq_getElem hkl)
      have h1 := E.cells_at L (k / E.sz) _ (k % E.sz) (List.getElem?_eq_getElem hkl) hkm
      rw [← e, hu] at h1
      have h2 := hq (k % E.sz) hkm
      rw [← e, ← h1] at h2
      exact h2
    · obtain ⟨j, hj⟩ := List.getElem?_of_mem hq
      exact (hL j q hj).2
theorem parse_int {fuel : Nat} {cs : List Value} {x : DataW H × List MemPlace} (h : DataW.trod enc Tryz.prog w 0 spare held fuel 3 cs = some x) (_ : Rch Tryz.prog 3 x.1) : ∃ n : Int, cs = eI.c n ∧ True := by
  obtain ⟨z, e0, _, _⟩ := DataW.trod_int Tryz.underlying3 h
  exact ⟨z, e0, trivial⟩
set_option maxRecDepth 100000 in
theorem parse_wish {fuel : Nat} {cs : List Value} {x : DataW H × List MemPlace} (h : DataW.trod enc Tryz.prog w 0 spare held fuel 106 cs = some x) (hr : Rch Tryz.prog 106 x.1) : ∃ q : Wish1, cs = eW.c q ∧ q.f.size ≤ RR := by
  obtain ⟨hl, hf⟩ := open_field Tryz.underlying106 h hr
  rw [cellsW] at hl
  obtain ⟨a, b, rfl⟩ : ∃ a b, cs = [a, b] := by
    match cs, hl with
    | [a, b], _ => exact ⟨a, b, rfl⟩
  obtain ⟨n0, y0, h0, r0⟩ := hf 0 _ rfl
  obtain ⟨n1, y1, h1, r1⟩ := hf 1 _ rfl
  have h0 : DataW.trod enc Tryz.prog w 0 spare held n0 9 (([a, b].drop 0).take (Tryz.prog.cellsOf 9)) = some y0 := h0
  have h1 : DataW.trod enc Tryz.prog w 0 spare held n1 3 (([a, b].drop 1).take (Tryz.prog.cellsOf 3)) = some y1 := h1
  rw [cellsT] at h0
  rw [cellsI] at h1
  obtain ⟨s, e0, hs⟩ := open_str' h0 r0
  obtain ⟨q, e1, _, _⟩ := DataW.trod_int Tryz.underlying3 h1
  simp at e0 e1
  subst e0 e1
  exact ⟨⟨s, q⟩, rfl, hs⟩
set_option maxRecDepth 100000 in
theorem parse_msg {fuel : Nat} {cs : List Value} {x : DataW H × List MemPlace} (h : DataW.trod enc Tryz.prog w 0 spare held fuel 83 cs = some x) (hr : Rch Tryz.prog 83 x.1) : ∃ m : Msg, cs = msgC m ∧ m.t.size ≤ RR ∧ m.p.size ≤ RR := by
  obtain ⟨hl, hf⟩ := open_field Tryz.underlying83 h hr
  rw [cellsM] at hl
  obtain ⟨a, b, c, d, rfl⟩ : ∃ a b c d, cs = [a, b, c, d] := by
    match cs, hl with
    | [a, b, c, d], _ => exact ⟨a, b, c, d, rfl⟩
  obtain ⟨n0, y0, h0, r0⟩ := hf 0 _ rfl
  obtain ⟨n1, y1, h1, r1⟩ := hf 1 _ rfl
  obtain ⟨n2, y2, h2, r2⟩ := hf 2 _ rfl
  obtain ⟨n3, y3, h3, r3⟩ := hf 3 _ rfl
  have h0 : DataW.trod enc Tryz.prog w 0 spare held n0 9 (([a, b, c, d].drop 0).take (Tryz.prog.cellsOf 9)) = some y0 := h0
  have h1 : DataW.trod enc Tryz.prog w 0 spare held n1 9 (([a, b, c, d].drop 1).take (Tryz.prog.cellsOf 9)) = some y1 := h1
  have h2 : DataW.trod enc Tryz.prog w 0 spare held n2 3 (([a, b, c, d].drop 2).take (Tryz.prog.cellsOf 3)) = some y2 := h2
  have h3 : DataW.trod enc Tryz.prog w 0 spare held n3 4 (([a, b, c, d].drop 3).take (Tryz.prog.cellsOf 4)) = some y3 := h3
  rw [cellsT] at h0 h1
  rw [cellsI] at h2
  rw [cellsB] at h3
  obtain ⟨s, e0, hs⟩ := open_str' h0 r0
  obtain ⟨s1, e1, hs1⟩ := open_str' h1 r1
  obtain ⟨q, e2, _, w1⟩ := DataW.trod_int Tryz.underlying3 h2
  obtain ⟨r, e3, _⟩ := DataW.trod_bool Tryz.underlying4 h3
  simp at e0 e1 e2 e3
  subst e0 e1 e2 e3
  exact ⟨⟨s, s1, q, r⟩, rfl, hs, hs1⟩
set_option maxRecDepth 100000 in
theorem parse_fl {fuel : Nat} {cs : List Value} {x : DataW H × List MemPlace} (h : DataW.trod enc Tryz.prog w 0 spare held fuel 108 cs = some x) (hr : Rch Tryz.prog 108 x.1) : ∃ f : Fl, cs = flC f ∧ f.m.t.size ≤ RR ∧ f.m.p.size ≤ RR := by
  obtain ⟨hl, hf⟩ := open_field Tryz.underlying108 h hr
  rw [cellsF] at hl
  obtain ⟨a, b, c, d, e, g, rfl⟩ : ∃ a b c d e g, cs = [a, b, c, d, e, g] := by
    match cs, hl with
    | [a, b, c, d, e, g], _ => exact ⟨a, b, c, d, e, g, rfl⟩
  obtain ⟨n0, y0, h0, r0⟩ := hf 0 _ rfl
  obtain ⟨n1, y1, h1, r1⟩ := hf 1 _ rfl
  obtain ⟨n2, y2, h2, r2⟩ := hf 2 _ rfl
  have h0 : DataW.trod enc Tryz.prog w 0 spare held n0 3 (([a, b, c, d, e, g].drop 0).take (Tryz.prog.cellsOf 3)) = some y0 := h0
  have h1 : DataW.trod enc Tryz.prog w 0 spare held n1 83 (([a, b, c, d, e, g].drop 1).take (Tryz.prog.cellsOf 83)) = some y1 := h1
  have h2 : DataW.trod enc Tryz.prog w 0 spare held n2 4 (([a, b, c, d, e, g].drop 5).take (Tryz.prog.cellsOf 4)) = some y2 := h2
  rw [cellsI] at h0
  rw [cellsM] at h1
  rw [cellsB] at h2
  obtain ⟨z, e0, _, w0⟩ := DataW.trod_int Tryz.underlying3 h0
  obtain ⟨m, e1, hm⟩ := parse_msg h1 r1
  obtain ⟨r, e2, _⟩ := DataW.trod_bool Tryz.underlying4 h2
  simp [msgC] at e0 e1 e2
  obtain ⟨rfl, rfl, rfl, rfl⟩ := e1
  subst e0 e2
  exact ⟨⟨z, m, r⟩, rfl, hm⟩
set_option maxRecDepth 100000 in
theorem parse_ses {fuel : Nat} {cs : List Value} {x : DataW H × List MemPlace} (h : DataW.trod enc Tryz.prog w 0 spare held fuel 61 cs = some x) (hr : Rch Tryz.prog 61 x.1) : ∃ r : Rs, cs = eS.c r ∧ SRd w w.heap.size r ∧ SW RR r.s := by
  obtain ⟨hl, hf⟩ := open_field Tryz.underlying61 h hr
  rw [cellsS] at hl
  obtain ⟨a0, a1, a2, a3, a4, a5, a6, a7, a8, a9, aa, ab, ac, ad, ae, rfl⟩ : ∃ a0 a1 a2 a3 a4 a5 a6 a7 a8 a9 aa ab ac ad ae, cs = [a0, a1, a2, a3, a4, a5, a6, a7, a8, a9, aa, ab, ac, ad, ae] := by
    match cs, hl with
    | [a0, a1, a2, a3, a4, a5, a6, a7, a8, a9, aa, ab, ac, ad, ae], _ => exact ⟨a0, a1, a2, a3, a4, a5, a6, a7, a8, a9, aa, ab, ac, ad, ae, rfl⟩
  obtain ⟨n0, y0, h0, r0⟩ := hf 0 _ rfl
  obtain ⟨n1, y1, h1, r1⟩ := hf 1 _ rfl
  obtain ⟨n2, y2, h2, r2⟩ := hf 2 _ rfl
  obtain ⟨n3, y3, h3, r3⟩ := hf 3 _ rfl
  obtain ⟨n4, y4, h4, r4⟩ := hf 4 _ rfl
  obtain ⟨n5, y5, h5, r5⟩ := hf 5 _ rfl
  obtain ⟨n6, y6, h6, r6⟩ := hf 6 _ rfl
  obtain ⟨n7, y7, h7, r7⟩ := hf 7 _ rfl
  obtain ⟨n8, y8, h8, r8⟩ := hf 8 _ rfl
  have h0 : DataW.trod enc Tryz.prog w 0 spare held n0 9 [a0] = some y0 := h0
  have h1 : DataW.trod enc Tryz.prog w 0 spare held n1 4 [a1] = some y1 := h1
  have h2 : DataW.trod enc Tryz.prog w 0 spare held n2 3 [a2] = some y2 := h2
  have h3 : DataW.trod enc Tryz.prog w 0 spare held n3 45 [a3] = some y3 := h3
  have h4 : DataW.trod enc Tryz.prog w 0 spare held n4 59 [a4, a5, a6] = some y4 := h4
  have h5 : DataW.trod enc Tryz.prog w 0 spare held n5 22 [a7] = some y5 := h5
  have h6 : DataW.trod enc Tryz.prog w 0 spare held n6 44 [a8, a9, aa, ab, ac] = some y6 := h6
  have h7 : DataW.trod enc Tryz.prog w 0 spare held n7 3 [ad] = some y7 := h7
  have h8 : DataW.trod enc Tryz.prog w 0 spare held n8 3 [ae] = some y8 := h8
  clear hf
  obtain ⟨_, hfo⟩ := open_field Tryz.underlying59 h4 r4
  obtain ⟨m0, u0, g0, q0⟩ := hfo 0 _ rfl
  obtain ⟨m1, u1, g1, q1⟩ := hfo 1 _ rfl
  obtain ⟨m2, u2, g2, q2⟩ := hfo 2 _ rfl
  have g0 : DataW.trod enc Tryz.prog w 0 spare held m0 3 [a4] = some u0 := g0
  have g1 : DataW.trod enc Tryz.prog w 0 spare held m1 57 [a5] = some u1 := g1
  have g2 : DataW.trod enc Tryz.prog w 0 spare held m2 24 [a6] = some u2 := g2
  clear hfo
  obtain ⟨_, hfl⟩ := open_field Tryz.underlying44 h6 r6
  obtain ⟨k0, v0, t0, s0⟩ := hfl 0 _ rfl
  obtain ⟨k1, v1, t1, s1⟩ := hfl 1 _ rfl
  obtain ⟨k2, v2, t2, s2⟩ := hfl 2 _ rfl
  obtain ⟨k3, v3, t3, s3⟩ := hfl 3 _ rfl
  obtain ⟨k4, v4, t4, s4⟩ := hfl 4 _ rfl
  have t0 : DataW.trod enc Tryz.prog w 0 spare held k0 4 [a8] = some v0 := t0
  have t1 : DataW.trod enc Tryz.prog w 0 spare held k1 9 [a9] = some v1 := t1
  have t2 : DataW.trod enc Tryz.prog w 0 spare held k2 9 [aa] = some v2 := t2
  have t3 : DataW.trod enc Tryz.prog w 0 spare held k3 3 [ab] = some v3 := t3
  have t4 : DataW.trod enc Tryz.prog w 0 spare held k4 4 [ac] = some v4 := t4
  clear hfl
  obtain ⟨c, e0, hc⟩ := open_str' h0 r0
  obtain ⟨cl, e1, _⟩ := DataW.trod_bool Tryz.underlying4 h1
  obtain ⟨ln, e2, _, _⟩ := DataW.trod_int Tryz.underlying3 h2
  obtain ⟨S, hS, zS, pS⟩ := open_list eW (fun x : Wish1 => x.f.size ≤ RR) Tryz.underlying45 cellsW (by decide) (by decide +kernel) parse_wish h3 r3
  obtain ⟨last, e4, _, _⟩ := DataW.trod_int Tryz.underlying3 g0
  obtain ⟨F, hF, zF, pF⟩ := open_list eF (fun f : Fl => f.m.t.size ≤ RR ∧ f.m.p.size ≤ RR) Tryz.underlying57 cellsF (by decide) (by decide +kernel) parse_fl g1 q1
  obtain ⟨Q, hQ, zQ, pQ⟩ := open_list eM (fun m : Msg => m.t.size ≤ RR ∧ m.p.size ≤ RR) Tryz.underlying24 cellsM (by decide) (by decide +kernel) parse_msg g2 q2
  obtain ⟨I, hI, zI, _⟩ := open_list eI (fun _ => True) Tryz.underlying22 cellsI (by decide) (by decide +kernel) parse_int h5 r5
  obtain ⟨wi, f0, _⟩ := DataW.trod_bool Tryz.underlying4 t0
  obtain ⟨wt, f1, hwt⟩ := open_str' t1 s1
  obtain ⟨wp, f2, hwp⟩ := open_str' t2 s2
  obtain ⟨wq, f3, _, _⟩ := DataW.trod_int Tryz.underlying3 t3
  obtain ⟨wr, f4, _⟩ := DataW.trod_bool Tryz.underlying4 t4
  obtain ⟨keep, e7, _, _⟩ := DataW.trod_int Tryz.underlying3 h7
  obtain ⟨idle, e8, _, _⟩ := DataW.trod_int Tryz.underlying3 h8
  obtain ⟨sa, sc, rfl, _, _⟩ := hS.form
  obtain ⟨fa, fc, rfl, _, _⟩ := hF.form
  obtain ⟨qa, qc, rfl, _, _⟩ := hQ.form
  obtain ⟨ia, ic, rfl, _, _⟩ := hI.form
  injection e0 with e0
  injection e1 with e1
  injection e2 with e2
  injection e4 with e4
  injection f0 with f0
  injection f1 with f1
  injection f2 with f2
  injection f3 with f3
  injection f4 with f4
  injection e7 with e7
  injection e8 with e8
  subst e0 e1 e2 e4 f0 f1 f2 f3 f4 e7 e8
  exact ⟨⟨⟨c, cl, ln, S, ⟨last, F, Q⟩, I, ⟨wi, wt, wp, wq, wr⟩, keep, idle⟩, sa, sc, fa, fc, qa, qc, ia, ic⟩, rfl, ⟨hS, hF, hQ, hI⟩, ⟨hc, zI, ⟨zS, pS⟩, ⟨zQ, pQ⟩, ⟨zF, pF⟩, hwt, hwp⟩⟩
end
/-- A broker, with where it lies. -/
structure RB where
  b : Br
  R : List Rs
  la : Option Addr
  lc : Nat
  sa : Option Addr
  sc : Nat
  ka : Option Addr
  kc : Nat
def eB : Enc RB := ⟨fun x => [.slice x.la x.b.L.length x.lc, .slice x.sa x.R.length x.sc, .slice x.ka x.b.K.length x.kc], 3, fun _ => rfl, fun x u hu => by
  simp only [List.mem_cons, List.mem_nil_iff, or_false] at hu
  rcases hu with rfl | rfl | rfl <;> rfl⟩
/-- It may be read. -/
def RBok (w : World) (Bd : Nat) (x : RB) : Prop := BRd w Bd (.slice x.la x.b.L.length x.lc) (.slice x.sa x.R.length x.sc) (.slice x.ka x.b.K.length x.kc) x.R x.b
section
variable {H : Type} {enc : TypeId × Value → H} {w : World} {spare : Nat → Bool} {held : Bool}
set_option maxRecDepth 100000 in
theorem parse_bro {fuel : Nat} {cs : List Value} {x : DataW H × List MemPlace} (h : DataW.trod enc Tryz.prog w 0 spare held fuel 26 cs = some x) (hr : Rch Tryz.prog 26 x.1) : ∃ q : RB, cs = eB.c q ∧ RBok w w.heap.size q ∧ BW RR q.b := by
  obtain ⟨hl, hf⟩ := open_field Tryz.underlying26 h hr
  rw [cellsBr] at hl
  obtain ⟨a, b, c, rfl⟩ : ∃ a b c, cs = [a, b, c] := by
    match cs, hl with
    | [a, b, c], _ => exact ⟨a, b, c, rfl⟩
  obtain ⟨n0, y0, h0, r0⟩ := hf 0 _ rfl
  obtain ⟨n1, y1, h1, r1⟩ := hf 1 _ rfl
  obtain ⟨n2, y2, h2, r2⟩ := hf 2 _ rfl
  have h0 : DataW.trod enc Tryz.prog w 0 spare held n0 22 [a] = some y0 := h0
  have h1 : DataW.trod enc Tryz.prog w 0 spare held n1 23 [b] = some y1 := h1
  have h2 : DataW.trod enc Tryz.prog w 0 spare held n2 24 [c] = some y2 := h2
  obtain ⟨L, hL, zL, _⟩ := open_list eI (fun _ => True) Tryz.underlying22 cellsI (by decide) (by decide +kernel) parse_int h0 r0
  obtain ⟨R, hR, zR, pR⟩ := open_list eS (fun r : Rs => SRd w w.heap.size r ∧ SW RR r.s) Tryz.underlying23 cellsS (by decide) (by decide +kernel) parse_ses h1 r1
  obtain ⟨K, hK, zK, pK⟩ := open_list eM (fun m : Msg => m.t.size ≤ RR ∧ m.p.size ≤ RR) Tryz.underlying24 cellsM (by decide) (by decide +kernel) parse_msg h2 r2
  obtain ⟨la, lc, rfl, _, _⟩ := hL.form
  obtain ⟨sa, sc, rfl, _, _⟩ := hR.form
  obtain ⟨ka, kc, rfl, _, _⟩ := hK.form
  exact ⟨⟨⟨L, R.map (·.s), K⟩, R, la, lc, sa, sc, ka, kc⟩, rfl, ⟨rfl, hL, hR, fun r h => (pR r h).1, hK⟩, ⟨zL, ⟨by simpa using zR, fun s h => by
    obtain ⟨r, h2, rfl⟩ := List.mem_map.1 h
    exact (pR r h2).2⟩, zK, pK⟩⟩
end
end Go.Proofs.YtknnaeejkmlnbaaGreatDoor
namespace Go.Proofs.YtknnaeejkmlnbaaGreatDoor
open Go.RowKit
/-- An act. -/
structure Ac4 where
  d : Int
  l : Int
  m : Mq1
  fit : Bool
def ac4C (a : Ac4) : List Value := [.int .i64 a.d, .int .i64 a.l, .int .i64 a.m.k, .string a.m.c, .bool a.m.cl, .int .i64 a.m.ka, .bool a.m.wi, .string a.m.wt, .string a.m.wp, .int .i64 a.m.wq, .bool a.m.wr, .string a.m.u, .bool a.m.hu, .string a.m.p, .bool a.m.hp, .bool a.m.pr, .int .i64 a.m.co,
  .slice a.m.ia a.m.n a.m.ic, .bool a.m.dup, .int .i64 a.m.q, .bool a.m.r, .string a.m.t, .int .i64 a.m.id, .string a.m.pl, .slice a.m.wa a.m.W.length a.m.wc, .slice a.m.fa a.m.F.length a.m.fc, .bool a.fit]
def eA4 : Enc Ac4 := ⟨ac4C, 27, fun _ => rfl, fun x u hu => by
  simp only [ac4C, List.mem_cons, List.mem_nil_iff, or_false] at hu
  rcases hu with rfl | rfl | rfl | rfl | rfl | rfl | rfl | rfl | rfl | rfl | rfl | rfl | rfl | rfl | rfl | rfl | rfl | rfl | rfl | rfl | rfl | rfl | rfl | rfl | rfl | rfl | rfl <;> rfl⟩
theorem BW.mono {n m : Nat} {b : Br} (h : BW n b) (hm : n ≤ m) : BW m b :=
  ⟨by have := h.l; omega, ⟨by have := h.s.1; omega, fun s hs => (h.s.2 s hs).mono hm⟩, by have := h.k.1; omega, fun x hx => by have := h.k.2 x hx; omega⟩
/-- What Heavy tells: what is not heavy is little. -/
def HvR (w w' : World) (b : Br) (e : Ending) : Prop := ∃ t : Bool, e = .returned (.bool t) ∧ (t = false → BW 20000 b) ∧ Below w.heap.size w w'
theorem HvR.yes {w w' : World} {b : Br} (h : Below w.heap.size w w') : HvR w w' b (.returned (.bool true)) := ⟨true, rfl, fun e => (by cases e), h⟩
theorem HvR.no {w w' : World} {b : Br} (h : Below w.heap.size w w') (hb : BW 20000 b) : HvR w w' b (.returned (.bool false)) := ⟨false, rfl, fun _ => hb, h⟩
set_option maxRecDepth 20000 in
set_option maxHeartbeats 4000000 in
theorem heavy_any (w : World) (x : RB) (aa : Option Addr) (ac : Nat) (L : List Ac4) (h : RBok w w.heap.size x) (hw : BW RR x.b) (hL : Rd w w.heap.size 27 (.slice aa L.length ac) L.length (eA4.cells L)) (hA : ∀ a ∈ L, MqR w w.heap.size a.m) (hl : L.length ≤ RR) :
    Calls Tryz.prog 4 #[.agg #[.slice x.la x.b.L.length x.lc, .slice x.sa x.R.length x.sc, .slice x.ka x.b.K.length x.kc, .slice aa L.length ac]] w fun e w' => HvR w w' x.b e := by
  have hm' : ac ≤ 9223372036854775807 := by
    obtain ⟨a0, c0, e, _, hm⟩ := hL.form
    injection e with _ _ e
    subst e
    unfold maxLen at hm
    omega
  rw [RR_eq] at hl
  obtain ⟨wa, hwa⟩ : ∃ wa, w.alloc (.cells #[.slice x.la x.b.L.length x.lc, .slice x.sa x.R.length x.sc, .slice x.ka x.b.K.length x.kc, .slice aa L.length ac] 29) = wa := ⟨_, rfl⟩
  have hb0 : Below w.heap.size w wa := by rw [← hwa]; exact (Below.refl _ _).alloc (Nat.le_refl _) _
  have hW : Whole wa w.heap.size 29 [.slice x.la x.b.L.length x.lc, .slice x.sa x.R.length x.sc, .slice x.ka x.b.K.length x.kc, .slice aa L.length ac] := by rw [← hwa]; exact Whole.new w 29 _
  have HBW := Lib.hid (bw_any wa _ _ _ x.R x.b ((BRd.below h hb0).more hb0.size) hw)
  have HL := Lib.hid (fun wx (hx : Below wa.heap.size wa wx) => (hL.below hb0).below (hx.mono hb0.size))
  have HM := Lib.hid (fun wx (hx : Below wa.heap.size wa wx) a (ha : a ∈ L) => mqw_any wx a.m w.heap.size (((hA a ha).below hb0).below (hx.mono hb0.size)) (Nat.le_trans hb0.size hx.size))
  have HCL := Lib.hid (fun wx (hx : Below wa.heap.size wa wx) => show wx.cell? ⟨w.heap.size, 3, none⟩ = some (.slice aa L.length ac) from (hW.belowH hx).cell 3)
  have HWA := Lib.hid hwa
  have HB0 := Lib.hid hb0
  have a0 : wa.cell? ⟨w.heap.size, 0, none⟩ = some (.slice x.la x.b.L.length x.lc) := hW.cell 0
  have a1 : wa.cell? ⟨w.heap.size, 1, none⟩ = some (.slice x.sa x.R.length x.sc) := hW.cell 1
  have a2 : wa.cell? ⟨w.heap.size, 2, none⟩ = some (.slice x.ka x.b.K.length x.kc) := hW.cell 2
  clear h hw hL hA hwa hb0 hW
  go_enter Tryz.func4, Tryz.ntmps4
  go_upto_region 1 with fail
  rw [HWA.out]
  go_wp2_with (go_at_call 14; refine HBW.out.mono ?_; rintro e w1 ⟨n0, rfl, hn0, hn1, hb1⟩)
  have HN1 := Lib.hid hn1
  clear hn1 a0 a1 a2
  go_loopw [3, 4] (fun s i wr => ∃ (n k : Nat), s = .int .i64 n ∧ i = .int .i64 k ∧ k ≤ L.length ∧ Below wa.heap.size wa wr ∧ n0 ≤ n ∧ n ≤ 9223372036854775807) (fun _ i _ => L.length - (intOf i).toNat)
  case atStart => exact ⟨n0, 0, rfl, rfl, by omega, hb1, by omega, by omega⟩
  case round =>
    clear hb1
    obtain ⟨n, k, rfl, rfl, hk, hb, hn2, hn3⟩ := hrel
    have d3 := HCL.out _ hb
    by_cases hlt : k < L.length
    · have hlt' : (k : Int) < (L.length : Int) := by omega
      by_cases hbig : n < 1048576
      · have hbig' : (n : Int) < 1048576 := by omega
        obtain ⟨y, hy⟩ : ∃ y, L[k]? = some y := ⟨_, List.getElem?_eq_getElem hlt⟩
        obtain ⟨b, o, rfl, _, hcs⟩ := Enc.rd_cell (E := eA4) (HL.out _ hb) rfl hy
        have hcs2 : World.rangeAt wr b (o + k * 27) (ac4C y) := hcs
        obtain ⟨kc, hkc⟩ : ∃ kc, mqC y.m = kc := ⟨_, rfl⟩
        have HMQ : Hid (Calls Tryz.prog 15 #[.agg kc.toArray] wr fun e w' => ∃ n : Nat, e = .returned (.int .i64 n) ∧ n ≤ 4503599627370496 ∧ Below wr.heap.size wr w') := Lib.hid (by rw [← hkc]; exact HM.out _ hb y (List.mem_of_getElem? hy))
        have HKR : Hid (wr.rangeAt b (o + k * 27 + 2) kc) := Lib.hid (fun j v hv => by
          have := hcs2 (2 + j) v (by
            rw [← hkc] at hv
            have e : ac4C y = [.int .i64 y.d, .int .i64 y.l] ++ (mqC y.m ++ [.bool y.fit]) := rfl
            rw [e, List.getElem?_append_right (by simp), show 2 + j - ([.int .i64 y.d, .int .i64 y.l] : List Value).length = j by simp, List.getElem?_append_left (List.getElem?_eq_some_iff.1 hv).1]
            exact hv)
          rw [← Nat.add_assoc] at this
          exact this)
        have HKI : Hid ((Tryz.prog.info? 48).map (·.size) = some kc.length) := Lib.hid (by rw [← hkc]; kernel_rfl)
        clear hy hcs hcs2 hkc
        go_wp2_with first
          | (refine wpList_load_mid rfl 48 (.tmp 24) rfl b (o + k * 27 + 2) rfl kc _ HKR.out Tryz.underlying48 rfl HKI.out ?_)
          | (go_at_call 15; refine HMQ.out.mono ?_; rintro e w2 ⟨m1, rfl, hm1, hb2⟩)
        go_roundw
        case rel => exact ⟨n + m1, k + 1, by go_num, by go_num, by omega, b_tr hb hb2, by omega, by omega⟩
        case measure => simp [intOf]; omega
      · have hbig' : ¬ ((n : Int) < 1048576) := by omega
        have hbig2 : (20000 : Int) < (n : Int) := by omega
        go_wp2
        go_ret
        exact HvR.yes (b_tr HB0.out hb)
    · have hlt' : ¬ ((k : Int) < (L.length : Int)) := by omega
      by_cases hbig : (20000 : Int) < (n : Int)
      · go_wp2
        go_ret
        exact HvR.yes (b_tr HB0.out hb)
      · have HE : Hid (BW 20000 x.b) := Lib.hid ((HN1.out (by omega)).mono (by omega))
        by_cases h100 : (100 : Int) < (L.length : Int)
        · go_wp2
          go_ret
          exact HvR.yes (b_tr HB0.out hb)
        · go_wp2
          go_ret
          exact HvR.no (b_tr HB0.out hb) HE.out
end Go.Proofs.YtknnaeejkmlnbaaGreatDoor
namespace Go.Proofs.YtknnaeejkmlnbaaGreatDoor
open Go.ChangeShapes Go.WideShapes Go.Deep Go.RowKit
theorem cellsQ : Tryz.prog.cellsOf 48 = 24 := by kernel_rfl
theorem cellsA4 : Tryz.prog.cellsOf 50 = 27 := by kernel_rfl
theorem cellsP4 : Tryz.prog.cellsOf 29 = 4 := by kernel_rfl
section
variable {H : Type} {enc : TypeId × Value → H} {w : World} {spare : Nat → Bool} {held : Bool}
theorem parse_str {fuel : Nat} {cs : List Value} {x : DataW H × List MemPlace} (h : DataW.trod enc Tryz.prog w 0 spare held fuel 9 cs = some x) (hr : Rch Tryz.prog 9 x.1) : ∃ s : ByteArray, cs = eX.c s ∧ s.size ≤ RR := open_str' h hr
set_option maxRecDepth 100000 in
theorem parse_mq {fuel : Nat} {cs : List Value} {x : DataW H × List MemPlace} (h : DataW.trod enc Tryz.prog w 0 spare held fuel 48 cs = some x) (hr : Rch Tryz.prog 48 x.1) : ∃ m : Mq1, cs = mqC m ∧ MqR w w.heap.size m := by
  obtain ⟨hl, hf⟩ := open_field Tryz.underlying48 h hr
  rw [cellsQ] at hl
  obtain ⟨a0, a1, a2, a3, a4, a5, a6, a7, a8, a9, b0, b1, b2, b3, b4, b5, b6, b7, b8, b9, c0, c1, c2, c3, rfl⟩ : ∃ a0 a1 a2 a3 a4 a5 a6 a7 a8 a9 b0 b1 b2 b3 b4 b5 b6 b7 b8 b9 c0 c1 c2 c3, cs = [a0, a1, a2, a3, a4, a5, a6, a7, a8, a9, b0, b1, b2, b3, b4, b5, b6, b7, b8, b9, c0, c1, c2, c3] := by
    match cs, hl with
    | [a0, a1, a2, a3, a4, a5, a6, a7, a8, a9, b0, b1, b2, b3, b4, b5, b6, b7, b8, b9, c0, c1, c2, c3], _ => exact ⟨a0, a1, a2, a3, a4, a5, a6, a7, a8, a9, b0, b1, b2, b3, b4, b5, b6, b7, b8, b9, c0, c1, c2, c3, rfl⟩
  obtain ⟨n0, y0, h0, r0⟩ := hf 0 _ rfl
  obtain ⟨n1, y1, h1, r1⟩ := hf 1 _ rfl
  obtain ⟨n2, y2, h2, r2⟩ := hf 2 _ rfl
  obtain ⟨n3, y3, h3, r3⟩ := hf 3 _ rfl
  obtain ⟨n4, y4, h4, r4⟩ := hf 4 _ rfl
  obtain ⟨n5, y5, h5, r5⟩ := hf 5 _ rfl
  obtain ⟨n6, y6, h6, r6⟩ := hf 6 _ rfl
  obtain ⟨n7, y7, h7, r7⟩ := hf 7 _ rfl
  obtain ⟨n8, y8, h8, r8⟩ := hf 8 _ rfl
  obtain ⟨n9, y9, h9, r9⟩ := hf 9 _ rfl
  obtain ⟨n10, y10, h10, r10⟩ := hf 10 _ rfl
  obtain ⟨n11, y11, h11, r11⟩ := hf 11 _ rfl
  obtain ⟨n12, y12, h12, r12⟩ := hf 12 _ rfl
  obtain ⟨n13, y13, h13, r13⟩ := hf 13 _ rfl
  obtain ⟨n14, y14, h14, r14⟩ := hf 14 _ rfl
  obtain ⟨n15, y15, h15, r15⟩ := hf 15 _ rfl
  obtain ⟨n16, y16, h16, r16⟩ := hf 16 _ rfl
  obtain ⟨n17, y17, h17, r17⟩ := hf 17 _ rfl
  obtain ⟨n18, y18, h18, r18⟩ := hf 18 _ rfl
  obtain ⟨n19, y19, h19, r19⟩ := hf 19 _ rfl
  clear hf
  have h0 : DataW.trod enc Tryz.prog w 0 spare held n0 3 [a0] = some y0 := h0
  have h1 : DataW.trod enc Tryz.prog w 0 spare held n1 9 [a1] = some y1 := h1
  have h2 : DataW.trod enc Tryz.prog w 0 spare held n2 4 [a2] = some y2 := h2
  have h3 : DataW.trod enc Tryz.prog w 0 spare held n3 3 [a3] = some y3 := h3
  have h4 : DataW.trod enc Tryz.prog w 0 spare held n4 44 [a4, a5, a6, a7, a8] = some y4 := h4
  have h5 : DataW.trod enc Tryz.prog w 0 spare held n5 9 [a9] = some y5 := h5
  have h6 : DataW.trod enc Tryz.prog w 0 spare held n6 4 [b0] = some y6 := h6
  have h7 : DataW.trod enc Tryz.prog w 0 spare held n7 9 [b1] = some y7 := h7
  have h8 : DataW.trod enc Tryz.prog w 0 spare held n8 4 [b2] = some y8 := h8
  have h9 : DataW.trod enc Tryz.prog w 0 spare held n9 4 [b3] = some y9 := h9
  have h10 : DataW.trod enc Tryz.prog w 0 spare held n10 3 [b4] = some y10 := h10
  have h11 : DataW.trod enc Tryz.prog w 0 spare held n11 22 [b5] = some y11 := h11
  have h12 : DataW.trod enc Tryz.prog w 0 spare held n12 4 [b6] = some y12 := h12
  have h13 : DataW.trod enc Tryz.prog w 0 spare held n13 3 [b7] = some y13 := h13
  have h14 : DataW.trod enc Tryz.prog w 0 spare held n14 4 [b8] = some y14 := h14
  have h15 : DataW.trod enc Tryz.prog w 0 spare held n15 9 [b9] = some y15 := h15
  have h16 : DataW.trod enc Tryz.prog w 0 spare held n16 3 [c0] = some y16 := h16
  have h17 : DataW.trod enc Tryz.prog w 0 spare held n17 9 [c1] = some y17 := h17
  have h18 : DataW.trod enc Tryz.prog w 0 spare held n18 45 [c2] = some y18 := h18
  have h19 : DataW.trod enc Tryz.prog w 0 spare held n19 46 [c3] = some y19 := h19
  obtain ⟨_, hfl⟩ := open_field Tryz.underlying44 h4 r4
  obtain ⟨k0, v0, t0, s0⟩ := hfl 0 _ rfl
  obtain ⟨k1, v1, t1, s1⟩ := hfl 1 _ rfl
  obtain ⟨k2, v2, t2, s2⟩ := hfl 2 _ rfl
  obtain ⟨k3, v3, t3, s3⟩ := hfl 3 _ rfl
  obtain ⟨k4, v4, t4, s4⟩ := hfl 4 _ rfl
  clear hfl
  have t0 : DataW.trod enc Tryz.prog w 0 spare held k0 4 [a4] = some v0 := t0
  have t1 : DataW.trod enc Tryz.prog w 0 spare held k1 9 [a5] = some v1 := t1
  have t2 : DataW.trod enc Tryz.prog w 0 spare held k2 9 [a6] = some v2 := t2
  have t3 : DataW.trod enc Tryz.prog w 0 spare held k3 3 [a7] = some v3 := t3
  have t4 : DataW.trod enc Tryz.prog w 0 spare held k4 4 [a8] = some v4 := t4
  obtain ⟨k, e0, _, _⟩ := DataW.trod_int Tryz.underlying3 h0
  obtain ⟨c, e1, zc⟩ := open_str' h1 r1
  obtain ⟨cl, e2, _⟩ := DataW.trod_bool Tryz.underlying4 h2
  obtain ⟨ka, e3, _, _⟩ := DataW.trod_int Tryz.underlying3 h3
  obtain ⟨wi, f0, _⟩ := DataW.trod_bool Tryz.underlying4 t0
  obtain ⟨wt, f1, zwt⟩ := open_str' t1 s1
  obtain ⟨wp, f2, zwp⟩ := open_str' t2 s2
  obtain ⟨wq, f3, _, _⟩ := DataW.trod_int Tryz.underlying3 t3
  obtain ⟨wr, f4, _⟩ := DataW.trod_bool Tryz.underlying4 t4
  obtain ⟨u, e5, zu⟩ := open_str' h5 r5
  obtain ⟨hu, e6, _⟩ := DataW.trod_bool Tryz.underlying4 h6
  obtain ⟨p, e7, zp⟩ := open_str' h7 r7
  obtain ⟨hp, e8, _⟩ := DataW.trod_bool Tryz.underlying4 h8
  obtain ⟨pr, e9, _⟩ := DataW.trod_bool Tryz.underlying4 h9
  obtain ⟨co, e10, _, _⟩ := DataW.trod_int Tryz.underlying3 h10
  obtain ⟨I, hI, zI, _⟩ := open_list eI (fun _ => True) Tryz.underlying22 cellsI (by decide) (by decide +kernel) parse_int h11 r11
  obtain ⟨dup, e12, _⟩ := DataW.trod_bool Tryz.underlying4 h12
  obtain ⟨q, e13, _, _⟩ := DataW.trod_int Tryz.underlying3 h13
  obtain ⟨r, e14, _⟩ := DataW.trod_bool Tryz.underlying4 h14
  obtain ⟨t, e15, zt⟩ := open_str' h15 r15
  obtain ⟨id, e16, _, _⟩ := DataW.trod_int Tryz.underlying3 h16
  obtain ⟨pl, e17, zpl⟩ := open_str' h17 r17
  obtain ⟨W, hW, zW, pW⟩ := open_list eW (fun x : Wish1 => x.f.size ≤ RR) Tryz.underlying45 cellsW (by decide) (by decide +kernel) parse_wish h18 r18
  obtain ⟨F, hF, zF, pF⟩ := open_list eX (fun x : ByteArray => x.size ≤ RR) Tryz.underlying46 cellsT (by decide) (by decide +kernel) parse_str h19 r19
  obtain ⟨ia, ic, rfl, zi1, zi2⟩ := hI.form
  obtain ⟨wa, wc, rfl, _, _⟩ := hW.form
  obtain ⟨fa, fc, rfl, _, _⟩ := hF.form
  injection e0 with e0
  injection e1 with e1
  injection e2 with e2
  injection e3 with e3
  injection f0 with f0
  injection f1 with f1
  injection f2 with f2
  injection f3 with f3
  injection f4 with f4
  injection e5 with e5
  injection e6 with e6
  injection e7 with e7
  injection e8 with e8
  injection e9 with e9
  injection e10 with e10
  injection e12 with e12
  injection e13 with e13
  injection e14 with e14
  injection e15 with e15
  injection e16 with e16
  injection e17 with e17
  subst e0 e1 e2 e3 f0 f1 f2 f3 f4 e5 e6 e7 e8 e9 e10 e12 e13 e14 e15 e16 e17
  exact ⟨⟨k, c, cl, ka, wi, wt, wp, wq, wr, u, hu, p, hp, pr, co, ia, I.length, ic, dup, q, r, t, id, pl, wa, W, wc, fa, F, fc⟩, rfl, ⟨hW, hF, ⟨zc, zwt, zwp, zu, zp, zI, zt, zpl⟩, ⟨zi1, zi2⟩, ⟨zW, pW⟩, ⟨zF, pF⟩⟩⟩
set_option maxRecDepth 100000 in
theorem parse_act {fuel : Nat} {cs : List Value} {x : DataW H × List MemPlace} (h : DataW.trod enc Tryz.prog w 0 spare held fuel 50 cs = some x) (hr : Rch Tryz.prog 50 x.1) : ∃ a : Ac4, cs = eA4.c a ∧ MqR w w.heap.size a.m := by
  obtain ⟨hl, hf⟩ := open_field Tryz.underlying50 h hr
  rw [cellsA4] at hl
  obtain ⟨d, l, M, fit, rfl, hM⟩ : ∃ d l M fit, cs = d :: l :: (M ++ [fit]) ∧ M.length = 24 := by
    match cs, hl with
    | d :: l :: r, hl =>
      have h25 : r.length = 25 := by simpa using hl
      have hne : r ≠ [] := fun e => by rw [e] at h25; cases h25
      exact ⟨d, l, r.dropLast, r.getLast hne, by rw [List.dropLast_concat_getLast hne], by rw [List.length_dropLast, h25]⟩
  obtain ⟨n0, y0, h0, r0⟩ := hf 0 _ rfl
  obtain ⟨n1, y1, h1, r1⟩ := hf 1 _ rfl
  obtain ⟨n2, y2, h2, r2⟩ := hf 2 _ rfl
  obtain ⟨n3, y3, h3, r3⟩ := hf 3 _ rfl
  clear hf
  have h0 : DataW.trod enc Tryz.prog w 0 spare held n0 3 [d] = some y0 := h0
  have h1 : DataW.trod enc Tryz.prog w 0 spare held n1 3 [l] = some y1 := h1
  have h2 : DataW.trod enc Tryz.prog w 0 spare held n2 48 ((M ++ [fit]).take (Tryz.prog.cellsOf 48)) = some y2 := h2
  have h3 : DataW.trod enc Tryz.prog w 0 spare held n3 4 (((M ++ [fit]).drop 24).take (Tryz.prog.cellsOf 4)) = some y3 := h3
  rw [cellsQ, ← hM, List.take_left] at h2
  rw [cellsB, ← hM, List.drop_left] at h3
  have h3 : DataW.trod enc Tryz.prog w 0 spare held n3 4 [fit] = some y3 := h3
  obtain ⟨z, e0, _, _⟩ := DataW.trod_int Tryz.underlying3 h0
  obtain ⟨z1, e1, _, _⟩ := DataW.trod_int Tryz.underlying3 h1
  obtain ⟨m, rfl, hm⟩ := parse_mq h2 r2
  obtain ⟨b, e3, _⟩ := DataW.trod_bool Tryz.underlying4 h3
  injection e0 with e0
  injection e1 with e1
  injection e3 with e3
  subst e0 e1 e3
  exact ⟨⟨z, z1, m, b⟩, rfl, hm⟩
set_option maxRecDepth 100000 in
/-- The argument, opened. -/
theorem open_script {base : Nat} {v : Value} {d : DataW H} {p : List MemPlace} (hv : Value.okWide Tryz.prog w .any base 29 v) (h0 : DataW.Trod enc Tryz.prog w 0 spare held 29 v d p) (hr : Rch Tryz.prog 29 d) :
    ∃ (x : RB) (aa : Option Addr) (ac : Nat) (L : List Ac4), v = .agg #[.slice x.la x.b.L.length x.lc, .slice x.sa x.R.length x.sc, .slice x.ka x.b.K.length x.kc, .slice aa L.length ac] ∧ RBok w w.heap.size x ∧ BW RR x.b ∧ Rd w w.heap.size 27 (.slice aa L.length ac) L.length (eA4.cells L) ∧ L.length ≤ RR ∧ ∀ a ∈ L, MqR w w.heap.size a.m := by
  obtain ⟨cs, rfl, hsz⟩ := okWide_struct Tryz.underlying29 hv
  obtain ⟨c0, c1, c2, c3, rfl⟩ := Joins.array4 (hsz.trans cellsP4)
  obtain ⟨fuel, hf⟩ := h0
  obtain ⟨_, hfl⟩ := open_field Tryz.underlying29 hf hr
  obtain ⟨n0, y0, h0, r0⟩ := hfl 0 _ rfl
  obtain ⟨n1, y1, h1, r1⟩ := hfl 1 _ rfl
  have h0 : DataW.trod enc Tryz.prog w 0 spare held n0 26 [c0, c1, c2] = some y0 := h0
  have h1 : DataW.trod enc Tryz.prog w 0 spare held n1 27 [c3] = some y1 := h1
  obtain ⟨x, e, hx, hbw⟩ := parse_bro h0 r0
  obtain ⟨L, hL, zL, pL⟩ := open_list eA4 (fun a : Ac4 => MqR w w.heap.size a.m) Tryz.underlying27 cellsA4 (by decide) (by decide +kernel) parse_act h1 r1
  obtain ⟨aa, ac, rfl, _, _⟩ := hL.form
  simp only [eB, List.cons.injEq, and_true] at e
  obtain ⟨rfl, rfl, rfl⟩ := e
  exact ⟨x, aa, ac, L, rfl, hx, hbw, hL, zL, pL⟩
end
end Go.Proofs.YtknnaeejkmlnbaaGreatDoor
