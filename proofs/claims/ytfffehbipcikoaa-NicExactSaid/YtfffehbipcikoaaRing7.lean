/- Driver.Add, where it takes the chain. -/


import Derived.Test.YtfffehbipcikoaaRing6
import Derived.Test.YtfffehbipcikoaaDraw
namespace Go.Proofs.Ytfffehbipcikoaa
open Go.RowKit

theorem cell_left {w w' : World} {p : Addr} {v : Value} {S : List Nat} (h : w.cell? p = some v) (hl : Left S w w') (hp : p.block ∉ S) : w'.cell? p = some v := by
  have hb := hl.block p.block (World.block_lt_of_cell? w _ h) hp
  rw [← h]
  unfold World.cell?
  rw [hb]
theorem own_form {w : World} {base : Nat} {e : TypeId} {size : Nat} {v : Value} {n : Nat} {xs : List Value} (h : w.ownsRow base e size v n xs) (hn : 0 < n) : ∃ g cap, v = .slice (some ⟨g, 0, none⟩) n cap ∧ base ≤ g ∧ g < w.heap.size := by
  rcases h.2 with ⟨_, h0⟩ | ⟨g, cap, cur, hv, hb, hg, _⟩
  · omega
  · exact ⟨g, cap, hv, hb, (Array.getElem?_eq_some_iff.1 hg).1⟩
theorem way_keys {w : World} : ∀ {W : List (Int × Value)} {wy : List (Int × List Nat)}, WayAt w W wy → ∀ p ∈ W, ∃ p' ∈ wy, p'.1 = p.1
  | [], [], _, p, hp => by simp at hp
  | a :: W, b :: wy, ⟨h1, _, h3⟩, p, hp => by
    rcases List.mem_cons.1 hp with rfl | hp
    · exact ⟨b, List.mem_cons_self, h1.symm⟩
    · obtain ⟨p', h, e⟩ := way_keys h3 p hp
      exact ⟨p', List.mem_cons_of_mem _ h, e⟩
theorem gen_world {w w' : World} {b : Nat} {o : Obj} {R : World → Prop} (hh : w'.heap = w.heap.setIfInBounds b o) (h1 : w'.os = w.os) (h2 : w'.tape = w.tape) (h3 : w'.output = w.output) (h : ∀ wq : World, wq.heap = w.heap.setIfInBounds b o → Left [b] w wq → R wq) : R w' :=
  h w' hh ⟨h1, h2, h3, by rw [hh]; simp, fun k hk hn => by rw [hh, Array.getElem?_setIfInBounds_ne (fun e => hn (by simp [e]))]⟩
theorem look_no {L : List (Int × Value)} {k : Int} (h : ∀ p ∈ L, p.1 ≠ k) : look L k = none := by
  unfold look
  rw [List.find?_eq_none.2 (fun p hp => by simpa using h p hp)]
  rfl
/-- What Add leaves of memory. -/
def addB (B : List UInt8) (L : List Buf) (own : List Nat) (o0 n wrt : Nat) : List UInt8 :=
  putV (putV (descsB B L own L.length) (16 * (n : Int) + 4 + 2 * ((wrt % n : Nat) : Int)) 2 o0) (16 * (n : Int) + 2) 2 ((wrt + 1) % 65536)
theorem way_snoc {w : World} : ∀ {W : List (Int × Value)} {wy : List (Int × List Nat)} {p : Int × Value} {p' : Int × List Nat}, WayAt w W wy → p.1 = p'.1 → OwnI w p.2 p'.2 → WayAt w (W ++ [p]) (wy ++ [p'])
  | [], [], _, _, _, h1, h2 => ⟨h1, h2, trivial⟩
  | _ :: _, _ :: _, _, _, ⟨a, b, c⟩, h1, h2 => ⟨a, b, way_snoc c h1 h2⟩
theorem flags_nat (wr : Bool) (nx : Option Nat) (f2 : Nat) (h : (if wr then (2 : Int) else 0) + (if nx.isSome then (1 : Int) else 0) = (f2 : Int)) : (if wr then 2 else 0) + (if nx.isSome then 1 else 0) = f2 := by
  cases wr <;> cases nx <;> simp at h ⊢ <;> omega
theorem info_int : (Try.prog.info? 3).map (fun i => (i.zero, i.size, i.bytes)) = some (some (.int .i64 0), 1, 8) := by kernel_rfl

set_option maxRecDepth 20000 in
set_option maxHeartbeats 16000000 in
theorem Add_try (w : World) (D bs bw bl : Nat) (q : Int) (m : Nat) (wrt rd : Nat) (bz : List Bool) (wy : List (Int × List Nat)) (ls : List (Int × Int)) (v : Value) (L : List Buf) (hD : DrvAt w D bs bw bl m q false wrt rd bz wy ls) (hq : bz.length ≤ 64) (d : Nat) (B : List UInt8) (hM : MemAt 114 w m d B) (hB : B.length ≤ 65536) (hL : Rd w w.heap.size 3 v L.length (bufCells L)) (hne : v.ownBlock ≠ some d ∧ v.ownBlock ≠ some bs) (hx : bufsB L = true) (hf : L.length ≤ freeN bz) (hwr : wrt ≤ 65535) (hkw : ∀ x : Nat, bz[x]? = some false → (∀ p ∈ wy, p.1 ≠ (x : Int)) ∧ ∀ p ∈ ls, p.1 ≠ (x : Int)) :
    Calls Try.prog 45 #[.pointer (some ⟨D, 0, none⟩), v] w fun e w' => ∃ o0 : Nat, (takes bz L.length)[0]? = some o0 ∧ e = .returned (.tuple #[.int .i64 o0, .int .i64 0]) ∧
      DrvAt w' D bs bw bl m q false ((wrt + 1) % 65536) rd (setAll bz (takes bz L.length) true) (wy ++ [((o0 : Int), takes bz L.length)]) (ls ++ [((o0 : Int), wsum L)]) ∧ MemAt 114 w' m d (addB B L (takes bz L.length) o0 bz.length wrt) ∧ Left [D, d, bs, bw, bl] w w' ∧ ∀ k, k < w.heap.size → NoRow w bw k → NoRow w' bw k := by
  have HW := Lib.hid hD.head
  have HS := Lib.hid hD.busy
  have HL := Lib.hid hL
  have HX := Lib.hid hx
  obtain ⟨ao, cap, rfl, hcp, hmx⟩ := hL.form
  have HM := Lib.hid hM
  have HWY := Lib.hid hD.way
  have HLS0 := Lib.hid hD.least
  have HNE := Lib.hid hD.ne
  obtain rfl : q = (bz.length : Nat) := hD.len.symm
  have HKW := Lib.hid hkw
  clear hD hL hx hM hkw
  go_enter Try.func45, Try.ntmps45
  go_wp2_with fail
  refine (pieces_any _ _ _ HL.out).mono ?_
  rintro e w1 ⟨rfl, hb⟩
  have c5 : w1.cell? ⟨D, 5, none⟩ = some (.bool false) := by rw [(HW.out.belowH hb).cell]; rfl
  have c8 : w1.cell? ⟨D, 8, none⟩ = some (.slice (some ⟨bs, 0, none⟩) bz.length bz.length) := by rw [(HW.out.belowH hb).cell]; rfl
  rw [HX.out]
  go_wp2_with fail
  refine (Free_any _ D bs _ m false wrt rd bz _ _ (HW.out.belowH hb) (HS.out.belowH hb) hq).mono ?_
  rintro e w2 ⟨rfl, rfl⟩
  go_wp2
  rw [decide_eq_false (show ¬ (freeN bz < L.length) by omega)]
  go_loopw [8, 9, 39] (fun v _ i wr => ∃ k : Nat, k ≤ bz.length ∧ i = .int .i64 k ∧ wr.ownsRow w2.heap.size 3 1 v (takes (bz.take k) L.length).length (i64s (takes (bz.take k) L.length)) ∧ Below w2.heap.size w2 wr) (fun _ _ i _ => bz.length - (intOf i).toNat)
  case atStart => exact ⟨0, by omega, rfl, by simpa [takes, freeFrom, i64s] using World.ownsRow_nil _ _ _ _, Below.refl _ _⟩
  case round =>
    obtain ⟨k, hk, rfl, hown, hbe⟩ := hrel
    have HO := Lib.hid hown
    obtain ⟨bo, bcap, rfl, hbc, hbm⟩ := (Rd.of_own hown).form
    have hbc2 : bcap ≤ 9223372036854775807 := by unfold maxLen at hbm; omega
    have htl := takes_length (bz.take k) L.length
    have d8 : wr.cell? ⟨D, 8, none⟩ = some (.slice (some ⟨bs, 0, none⟩) bz.length bz.length) := (hbe.cell (World.block_lt_of_cell? w2 _ c8)).trans c8
    clear hown hbm
    by_cases hlt : k < bz.length
    · obtain ⟨b, hbk⟩ : ∃ b, bz[k]? = some b := ⟨_, List.getElem?_eq_getElem hlt⟩
      have HT := Lib.hid (takes_step (n := L.length) hbk)
      have hc : wr.cell? ⟨bs, k, none⟩ = some (.bool b) := by rw [((HS.out.belowH hb).belowH hbe).cell, List.getElem?_map, hbk]; rfl
      have htn : (takes (bz.take k) L.length).length ≤ 64 := by
        have := freeN_le (bz.take k)
        rw [List.length_take] at this
        omega
      generalize hTk : takes (bz.take k) L.length = T at *
      clear hbk htl hTk
      cases b
      · by_cases hTL : T.length < L.length
        · have HT' : Hid (takes (bz.take (k + 1)) L.length = T ++ [k]) := Lib.hid (by rw [HT.out]; simp [hTL])
          have hzs := hbe.size
          go_wp2_with (at_builtin; with_reducible refine wpList_app _ rfl (.tmp 57) (.tmp 59) _ rfl w2.heap.size 3 (.int .i64 0) 1 8 Try.underlying22 info_int rfl (by omega) _ T.length (i64s T) rfl (HO.out.alloc _) _ _ 1 [.int .i64 k] rfl (one_new _ _ _) (by simp [Value.oneCell']) ?_ ?_ ?_ ?_)
          · unfold maxLen; omega
          · omega
          · simp; omega
          intro v1 w3 hown1 hg1 _
          have hb1 := (hbe.alloc hzs _).grown hg1 (by simp; omega) (fun g hg => (HO.out.lt g hg).1)
          have hs : i64s T ++ [.int .i64 (k : Int)] = i64s (takes (bz.take (k + 1)) L.length) := by rw [HT'.out, i64s, i64s, List.map_append]; rfl
          have hn : T.length + 1 = (takes (bz.take (k + 1)) L.length).length := by rw [HT'.out]; simp
          rw [hs, hn] at hown1
          have HO1 := Lib.hid hown1
          clear hown1 hs hg1 hn
          go_wp2
          go_roundw
          case rel => exact ⟨k + 1, by omega, by go_num, HO1.out, hb1⟩
          case measure => simp [intOf]; omega
        · have HT' : Hid (takes (bz.take (k + 1)) L.length = T) := Lib.hid (by rw [HT.out]; simp [hTL])
          have hTL' : L.length ≤ T.length := by omega
          go_wp2
          go_roundw
          case rel => exact ⟨k + 1, by omega, by go_num, by rw [HT'.out]; exact HO.out, hbe⟩
          case measure => simp [intOf]; omega
      · have HT' : Hid (takes (bz.take (k + 1)) L.length = T) := Lib.hid (by rw [HT.out]; simp)
        go_wp2
        go_roundw
        case rel => exact ⟨k + 1, by omega, by go_num, by rw [HT'.out]; exact HO.out, hbe⟩
        case measure => simp [intOf]; omega
    · have hk' : k = bz.length := by omega
      subst hk'
      have hlen : (takes (bz.take bz.length) L.length).length = L.length := by
        rw [htl, List.take_length]; omega
      have HT := Lib.hid (show takes (bz.take bz.length) L.length = takes bz L.length by rw [List.take_length])
      generalize hown : takes (bz.take bz.length) L.length = own at *
      clear htl
      rw [hlen] at HO hbc
      rw [hlen]
      have hbu : bufsB L = true := HX.out
      have hL1 : 1 ≤ L.length := by simp [bufsB] at hbu; omega
      have hL2 : L.length ≤ 16 := by simp [bufsB] at hbu; omega
      have HMem : Hid (∀ x ∈ own, bz[x]? = some false) := Lib.hid (fun x hx => takes_mem (by rw [← HT.out, hown] at *; exact hx))
      obtain ⟨g, gcap, hv, hbg, hgl⟩ := own_form HO.out (by omega)
      injection hv with hv1 hv2 hv3
      subst hv1
      have hv4 : gcap = bcap := hv3.symm
      clear hv3
      subst hv4
      have hdl := (HM.out.belowH hb).bytes.lt
      have hbl := (HS.out.belowH hb).lt
      have hDd : D ≠ d := HW.out.ne HM.out.bytes (by decide)
      have hmb : m ≠ bs := HM.out.head.ne HS.out (by decide)
      have hdb : d ≠ bs := HM.out.bytes.ne HS.out (by decide)
      have hDb : D ≠ bs := HW.out.ne HS.out (by decide)
      have hDlt := (HW.out.belowH hb).lt
      have hDm : D ≠ m := HW.out.ne HM.out.head (by decide)
      clear hown hbu
      obtain ⟨wa, hwa⟩ : ∃ u, u = wr := ⟨_, rfl⟩
      subst hwa
      have HMw := Lib.hid ((HM.out.belowH hb).belowH hbe)
      have HWw := Lib.hid ((HW.out.belowH hb).belowH hbe)
      have HSw := Lib.hid ((HS.out.belowH hb).belowH hbe)
      go_wp2
      go_loopw [10, 11, 12, 13, 64] (fun _ _ _ _ i w' => ∃ j : Nat, j ≤ L.length ∧ i = .int .i64 j ∧ MemAt 114 w' m d (descsB B L own j) ∧ Whole w' bs 4 ((setAll bz (own.take j) true).map (.bool ·)) ∧ Left [d, bs] wa w') (fun _ _ _ _ i _ => L.length - (intOf i).toNat)
      case atStart => exact ⟨0, by omega, rfl, HMw.out, HSw.out, Left.refl _ _⟩
      case round =>
        obtain ⟨j, hj, rfl, hMj, hSj, hLj⟩ := hrel
        have HMj := Lib.hid hMj
        have HSj := Lib.hid hSj
        have HLj := Lib.hid hLj
        clear hMj hSj hLj
        by_cases hjl : j < L.length
        · obtain ⟨b, hbj⟩ : ∃ b, L[j]? = some b := ⟨_, List.getElem?_eq_getElem hjl⟩
          obtain ⟨x, hxj⟩ : ∃ x, own[j]? = some x := ⟨_, List.getElem?_eq_getElem (by omega)⟩
          obtain ⟨an, ln, ha, hl, ha2, hl1, hl2⟩ := bufsB_at HX.out hbj
          have HB := Lib.hid hbj
          have HX2 := Lib.hid hxj
          have hxb := (List.getElem?_eq_some_iff.1 (HMem.out x (List.mem_of_getElem? hxj))).1
          have hc0 : wr.cell? ⟨g, j, none⟩ = some (.int .i64 x) := by
            have := (own_left HO.out HLj.out (by simp; omega)).cellAt j (by omega)
            rw [this, i64s, List.getElem?_map, hxj]
            rfl
          have hd8 : wr.cell? ⟨D, 8, none⟩ = some (.slice (some ⟨bs, 0, none⟩) bz.length bz.length) := cell_left d8 HLj.out (by simp [hDd, hDb])
          have hfx := HSj.out.free x
          obtain ⟨bb, bo, hao, z1, z2, z3⟩ := bufs_cell ((HL.out.below hb).below (hbe.mono hb.size)) hbj
          subst hao
          have hn1 : bb ≠ d := fun e => hne.1 (by rw [e]; rfl)
          have hn2 : bb ≠ bs := fun e => hne.2 (by rw [e]; rfl)
          obtain ⟨bv, hcx⟩ : ∃ bv, wr.cell? ⟨bs, x, none⟩ = some (.bool bv) := by
            obtain ⟨bv, hbv⟩ : ∃ bv, (setAll bz (own.take j) true)[x]? = some bv := ⟨_, List.getElem?_eq_getElem (by rw [setAll_length]; exact hxb)⟩
            exact ⟨bv, by rw [HSj.out.cell, List.getElem?_map, hbv]; rfl⟩
          have hn3 := hn2.symm
          have hn4 : g ≠ bs := by omega
          have hn5 := hn4.symm
          have hn6 := hDb.symm
          have y1 := cell_left z1 HLj.out (by simp [hn1, hn2])
          have y2 := cell_left z2 HLj.out (by simp [hn1, hn2])
          have y3 := cell_left z3 HLj.out (by simp [hn1, hn2])
          rw [ha] at y1
          rw [hl] at y2
          have HA := Lib.hid ha
          have HLn := Lib.hid hl
          have hDh := HalfC.of_whole (HWw.out.left HLj.out (by simp [hDd, hDb]))
          have HDh := Lib.hid hDh
          clear hbj hxj z1 z2 z3 ha hl hDh
          obtain ⟨nx, hnx⟩ : ∃ nx, own[j + 1]? = nx := ⟨_, rfl⟩
          have HNX := Lib.hid hnx
          have hcn : ∀ x1, nx = some x1 → wr.cell? ⟨g, j + 1, none⟩ = some (.int .i64 x1) := by
            intro x1 h1
            have hx1 : own[j + 1]? = some x1 := hnx.trans h1
            have hlt1 := (List.getElem?_eq_some_iff.1 hx1).1
            have := (own_left HO.out HLj.out (by simp; omega)).cellAt (j + 1) (by omega)
            rw [this, i64s, List.getElem?_map, hx1]
            rfl
          have hnl : nx = none → ¬ (j + 1 < L.length) := by
            intro h1
            have := List.getElem?_eq_none_iff.1 (hnx.trans h1)
            omega
          have hns : ∀ x1, nx = some x1 → j + 1 < L.length ∧ x1 ≤ 63 := by
            intro x1 h1
            have hx1 : own[j + 1]? = some x1 := hnx.trans h1
            have hlt1 := (List.getElem?_eq_some_iff.1 hx1).1
            have := (List.getElem?_eq_some_iff.1 (HMem.out x1 (List.mem_of_getElem? hx1))).1
            exact ⟨by omega, by omega⟩
          have HCN := Lib.hid hcn
          have HNL := Lib.hid hnl
          have HNS := Lib.hid hns
          clear hnx hcn hnl hns
          go_upto_region 19 with fail
          obtain ⟨wS, hwS⟩ : ∃ wS, wS = wr.setCell ⟨bs, x, none⟩ (.bool true) := ⟨_, rfl⟩
          rw [← hwS]
          have hlS : Left [bs] wr wS := hwS ▸ (Left.refl _ _).setCell (Or.inl (by simp)) _
          have v1 := cell_left y1 hlS (by simp [hn2])
          have v2 := cell_left y2 hlS (by simp [hn2])
          have v3 := cell_left y3 hlS (by simp [hn2])
          have vc := cell_left hc0 hlS (by simp [hn4])
          have HSS : Hid (Whole wS bs 4 (((setAll bz (own.take j) true).set x true).map (.bool ·))) := Lib.hid (by
            have := HSj.out.put x (.bool true)
            rw [← hwS] at this
            rw [List.map_set]
            exact this)
          have HMS : Hid (MemAt 114 wS m d (descsB B L own j)) := Lib.hid (HMj.out.left hlS (by simp [hmb]) (by simp [hdb]))
          have HLS : Hid (Left [d, bs] wa wS) := Lib.hid (HLj.out.trans (T := [bs]) hlS (by simp))
          have HDS : Hid (HalfC wS D (bz.length : Nat) m false wrt rd) := Lib.hid (HalfC.of_whole (HWw.out.left HLS.out (by simp [hDd, hDb])))
          clear y1 y2 y3 hc0 hwS hcx hfx
          go_upto_if 79 with fail
          go_cut [12] (fun s wx => s = .int .i64 (if b.wr then 2 else 0) ∧ wx = wS)
          case first =>
            cases hwr : b.wr
            · rw [hwr] at v3
              have HWR := Lib.hid hwr
              clear hwr
              go_wp2
              go_meet
              exact ⟨by rw [HWR.out]; rfl, rfl⟩
            · rw [hwr] at v3
              have HWR := Lib.hid hwr
              clear hwr
              go_wp2
              go_meet
              exact ⟨by rw [HWR.out]; rfl, rfl⟩
          case rest =>
            obtain ⟨rfl, hcw⟩ := hcut
            subst hcw
            obtain ⟨fl, hfl⟩ : ∃ fl : Int, (if b.wr then 2 else 0) = fl := ⟨_, rfl⟩
            have hfl2 : fl = 0 ∨ fl = 2 := by rw [← hfl]; cases b.wr <;> simp
            rw [hfl]
            have HFL := Lib.hid hfl
            clear hfl
            go_upto_if 84 with fail
            go_cut [12, 13] (fun s t wx => s = .int .i64 (fl + if nx.isSome then 1 else 0) ∧ t = .int .i64 (nx.getD 0 : Nat) ∧ ∃ n, wx = wc.drewN n)
            case first =>
              cases nx with
              | none =>
                have hj1 := HNL.out rfl
                go_wp2
                go_meet
                exact ⟨by simp, by simp, 0, rfl⟩
              | some x1 =>
                obtain ⟨hj1, _⟩ := HNS.out x1 rfl
                have vn := cell_left (HCN.out x1 rfl) hlS (by simp [hn4])
                have hw1 : IntKind.i64.wrap ((j : Int) + 1) = (j : Int) + 1 := IntWalk.i64_in _ ⟨by omega, by omega⟩
                have hb0 : (0 : Int) ≤ (j : Int) + 1 := by omega
                have hb1 : (j : Int) + 1 < (L.length : Int) := by omega
                have htn : ((j : Int) + 1).toNat = j + 1 := by omega
                rcases hfl2 with rfl | rfl
                · go_wp2
                  refine wp_region_held_drew (S := fun wx => wx.cell? ⟨g, j + 1, none⟩ = some (.int .i64 x1)) (by kernel_rfl) vn (fun hHeld => ?_)
                  refine take_h 0 ⟨?_, ?_, ?_, by kernel_rfl, by kernel_rfl, by kernel_rfl, ?_, ?_, by assumption, ?_⟩
                  rotate_left 2
                  · (simp only [List.getElem?_toArray, List.getElem?_cons_zero]; exact rfl)
                  · exact fun _ _ _ h => h
                  · first
                      | (refine Or.inr ⟨by rfl, ?_⟩; exact rfl)
                      | (refine Or.inl ⟨by rfl, ?_⟩
                         intro w hSw
                         (try dsimp only at hSw)
                         (try go_split_ands)
                         go_simp
                         (first | done | with_reducible rfl))
                  try simp only [Act.put, List.setIfInBounds_toArray, List.set_cons_zero, List.set_cons_succ]
                  refine take_h 1 ⟨?_, ?_, ?_, by kernel_rfl, by kernel_rfl, by kernel_rfl, ?_, ?_, by assumption, ?_⟩
                  rotate_left 2
                  · (simp only [List.getElem?_toArray, List.getElem?_cons_succ, List.getElem?_cons_zero]; exact rfl)
                  · exact fun _ _ _ h => h
                  · first
                      | (refine Or.inr ⟨by rfl, ?_⟩; exact rfl)
                      | (refine Or.inl ⟨by rfl, ?_⟩
                         intro w hSw
                         (try dsimp only at hSw)
                         (try go_split_ands)
                         go_simp
                         (first | done | with_reducible rfl))
                  try simp only [Act.put, List.setIfInBounds_toArray, List.set_cons_zero, List.set_cons_succ]
                  refine take_h 2 ⟨?_, ?_, ?_, by kernel_rfl, by kernel_rfl, by kernel_rfl, ?_, ?_, by assumption, ?_⟩
                  rotate_left 2
                  · (simp only [List.getElem?_toArray, List.getElem?_cons_succ, List.getElem?_cons_zero]; exact rfl)
                  · exact fun _ _ _ h => h
                  · first
                      | (refine Or.inr ⟨by rfl, ?_⟩; exact rfl)
                      | (refine Or.inl ⟨by rfl, ?_⟩
                         intro w hSw
                         (try dsimp only at hSw)
                         (try go_split_ands)
                         go_simp
                         (first | done | with_reducible rfl))
                  try simp only [Act.put, List.setIfInBounds_toArray, List.set_cons_zero, List.set_cons_succ]
                  refine take_h 3 ⟨?_, ?_, ?_, by kernel_rfl, by kernel_rfl, by kernel_rfl, ?_, ?_, by assumption, ?_⟩
                  rotate_left 2
                  · (simp only [List.getElem?_toArray, List.getElem?_cons_succ, List.getElem?_cons_zero]; exact rfl)
                  · exact fun _ _ _ h => h
                  · first
                      | (refine Or.inr ⟨by rfl, ?_⟩; exact rfl)
                      | (refine Or.inl ⟨by rfl, ?_⟩
                         intro w hSw
                         (try dsimp only at hSw)
                         (try go_split_ands)
                         go_simp
                         (first | done | with_reducible rfl))
                  try simp only [Act.put, List.setIfInBounds_toArray, List.set_cons_zero, List.set_cons_succ]
                  refine take_h 4 ⟨?_, ?_, ?_, by kernel_rfl, by kernel_rfl, by kernel_rfl, ?_, ?_, by assumption, ?_⟩
                  rotate_left 2
                  · (simp only [List.getElem?_toArray, List.getElem?_cons_succ, List.getElem?_cons_zero]; exact rfl)
                  · exact fun _ _ _ h => h
                  · first
                      | (refine Or.inr ⟨by rfl, ?_⟩; exact rfl)
                      | (refine Or.inl ⟨by rfl, ?_⟩
                         intro w hSw
                         (try dsimp only at hSw)
                         (try go_split_ands)
                         go_simp
                         (first | done | with_reducible rfl))
                  try simp only [Act.put, List.setIfInBounds_toArray, List.set_cons_zero, List.set_cons_succ]
                  refine take_h 5 ⟨?_, ?_, ?_, by kernel_rfl, by kernel_rfl, by kernel_rfl, ?_, ?_, by assumption, ?_⟩
                  rotate_left 2
                  · (simp only [List.getElem?_toArray, List.getElem?_cons_succ, List.getElem?_cons_zero]; exact rfl)
                  · exact fun _ _ _ h => h
                  · first
                      | (refine Or.inr ⟨by rfl, ?_⟩; exact rfl)
                      | (refine Or.inl ⟨by rfl, ?_⟩
                         intro w hSw
                         (try dsimp only at hSw)
                         (try go_split_ands)
                         go_simp
                         (first | done | with_reducible rfl))
                  try simp only [Act.put, List.setIfInBounds_toArray, List.set_cons_zero, List.set_cons_succ]
                  refine take_h 6 ⟨?_, ?_, ?_, by kernel_rfl, by kernel_rfl, by kernel_rfl, ?_, ?_, by assumption, ?_⟩
                  rotate_left 2
                  · (simp only [List.getElem?_toArray, List.getElem?_cons_succ, List.getElem?_cons_zero]; exact rfl)
                  · exact fun _ _ _ h => h
                  · first
                      | (refine Or.inr ⟨by rfl, ?_⟩; exact rfl)
                      | (refine Or.inl ⟨by rfl, ?_⟩
                         intro w hSw
                         (try dsimp only at hSw)
                         (try go_split_ands)
                         go_simp
                         (first | done | with_reducible rfl))
                  try simp only [Act.put, List.setIfInBounds_toArray, List.set_cons_zero, List.set_cons_succ]
                  refine take_h 7 ⟨?_, ?_, ?_, by kernel_rfl, by kernel_rfl, by kernel_rfl, ?_, ?_, by assumption, ?_⟩
                  rotate_left 2
                  · (simp only [List.getElem?_toArray, List.getElem?_cons_succ, List.getElem?_cons_zero]; exact rfl)
                  · exact fun _ _ _ h => h
                  · first
                      | (refine Or.inr ⟨by rfl, ?_⟩; exact rfl)
                      | (refine Or.inl ⟨by rfl, ?_⟩
                         intro w hSw
                         (try dsimp only at hSw)
                         (try go_split_ands)
                         go_simp
                         (first | done | with_reducible rfl))
                  try simp only [Act.put, List.setIfInBounds_toArray, List.set_cons_zero, List.set_cons_succ]
                  refine take_h 8 ⟨?_, ?_, ?_, by kernel_rfl, by kernel_rfl, by kernel_rfl, ?_, ?_, by assumption, ?_⟩
                  rotate_left 2
                  · (simp only [List.getElem?_toArray, List.getElem?_cons_succ, List.getElem?_cons_zero]; exact rfl)
                  · exact fun _ _ _ h => h
                  · first
                      | (refine Or.inr ⟨by rfl, ?_⟩; exact rfl)
                      | (refine Or.inl ⟨by rfl, ?_⟩
                         intro w hSw
                         (try dsimp only at hSw)
                         (try go_split_ands)
                         go_simp
                         (first | done | with_reducible rfl))
                  try simp only [Act.put, List.setIfInBounds_toArray, List.set_cons_zero, List.set_cons_succ]
                  refine wpAnyH_done (by kernel_rfl) ?_ _
                  clear hHeld
                  go_wp2
                  go_meet
                  exact ⟨by simp; kernel_rfl, by simp, 1, rfl⟩
                · go_wp2
                  refine wp_region_held_drew (S := fun wx => wx.cell? ⟨g, j + 1, none⟩ = some (.int .i64 x1)) (by kernel_rfl) vn (fun hHeld => ?_)
                  refine take_h 0 ⟨?_, ?_, ?_, by kernel_rfl, by kernel_rfl, by kernel_rfl, ?_, ?_, by assumption, ?_⟩
                  rotate_left 2
                  · (simp only [List.getElem?_toArray, List.getElem?_cons_zero]; exact rfl)
                  · exact fun _ _ _ h => h
                  · first
                      | (refine Or.inr ⟨by rfl, ?_⟩; exact rfl)
                      | (refine Or.inl ⟨by rfl, ?_⟩
                         intro w hSw
                         (try dsimp only at hSw)
                         (try go_split_ands)
                         go_simp
                         (first | done | with_reducible rfl))
                  try simp only [Act.put, List.setIfInBounds_toArray, List.set_cons_zero, List.set_cons_succ]
                  refine take_h 1 ⟨?_, ?_, ?_, by kernel_rfl, by kernel_rfl, by kernel_rfl, ?_, ?_, by assumption, ?_⟩
                  rotate_left 2
                  · (simp only [List.getElem?_toArray, List.getElem?_cons_succ, List.getElem?_cons_zero]; exact rfl)
                  · exact fun _ _ _ h => h
                  · first
                      | (refine Or.inr ⟨by rfl, ?_⟩; exact rfl)
                      | (refine Or.inl ⟨by rfl, ?_⟩
                         intro w hSw
                         (try dsimp only at hSw)
                         (try go_split_ands)
                         go_simp
                         (first | done | with_reducible rfl))
                  try simp only [Act.put, List.setIfInBounds_toArray, List.set_cons_zero, List.set_cons_succ]
                  refine take_h 2 ⟨?_, ?_, ?_, by kernel_rfl, by kernel_rfl, by kernel_rfl, ?_, ?_, by assumption, ?_⟩
                  rotate_left 2
                  · (simp only [List.getElem?_toArray, List.getElem?_cons_succ, List.getElem?_cons_zero]; exact rfl)
                  · exact fun _ _ _ h => h
                  · first
                      | (refine Or.inr ⟨by rfl, ?_⟩; exact rfl)
                      | (refine Or.inl ⟨by rfl, ?_⟩
                         intro w hSw
                         (try dsimp only at hSw)
                         (try go_split_ands)
                         go_simp
                         (first | done | with_reducible rfl))
                  try simp only [Act.put, List.setIfInBounds_toArray, List.set_cons_zero, List.set_cons_succ]
                  refine take_h 3 ⟨?_, ?_, ?_, by kernel_rfl, by kernel_rfl, by kernel_rfl, ?_, ?_, by assumption, ?_⟩
                  rotate_left 2
                  · (simp only [List.getElem?_toArray, List.getElem?_cons_succ, List.getElem?_cons_zero]; exact rfl)
                  · exact fun _ _ _ h => h
                  · first
                      | (refine Or.inr ⟨by rfl, ?_⟩; exact rfl)
                      | (refine Or.inl ⟨by rfl, ?_⟩
                         intro w hSw
                         (try dsimp only at hSw)
                         (try go_split_ands)
                         go_simp
                         (first | done | with_reducible rfl))
                  try simp only [Act.put, List.setIfInBounds_toArray, List.set_cons_zero, List.set_cons_succ]
                  refine take_h 4 ⟨?_, ?_, ?_, by kernel_rfl, by kernel_rfl, by kernel_rfl, ?_, ?_, by assumption, ?_⟩
                  rotate_left 2
                  · (simp only [List.getElem?_toArray, List.getElem?_cons_succ, List.getElem?_cons_zero]; exact rfl)
                  · exact fun _ _ _ h => h
                  · first
                      | (refine Or.inr ⟨by rfl, ?_⟩; exact rfl)
                      | (refine Or.inl ⟨by rfl, ?_⟩
                         intro w hSw
                         (try dsimp only at hSw)
                         (try go_split_ands)
                         go_simp
                         (first | done | with_reducible rfl))
                  try simp only [Act.put, List.setIfInBounds_toArray, List.set_cons_zero, List.set_cons_succ]
                  refine take_h 5 ⟨?_, ?_, ?_, by kernel_rfl, by kernel_rfl, by kernel_rfl, ?_, ?_, by assumption, ?_⟩
                  rotate_left 2
                  · (simp only [List.getElem?_toArray, List.getElem?_cons_succ, List.getElem?_cons_zero]; exact rfl)
                  · exact fun _ _ _ h => h
                  · first
                      | (refine Or.inr ⟨by rfl, ?_⟩; exact rfl)
                      | (refine Or.inl ⟨by rfl, ?_⟩
                         intro w hSw
                         (try dsimp only at hSw)
                         (try go_split_ands)
                         go_simp
                         (first | done | with_reducible rfl))
                  try simp only [Act.put, List.setIfInBounds_toArray, List.set_cons_zero, List.set_cons_succ]
                  refine take_h 6 ⟨?_, ?_, ?_, by kernel_rfl, by kernel_rfl, by kernel_rfl, ?_, ?_, by assumption, ?_⟩
                  rotate_left 2
                  · (simp only [List.getElem?_toArray, List.getElem?_cons_succ, List.getElem?_cons_zero]; exact rfl)
                  · exact fun _ _ _ h => h
                  · first
                      | (refine Or.inr ⟨by rfl, ?_⟩; exact rfl)
                      | (refine Or.inl ⟨by rfl, ?_⟩
                         intro w hSw
                         (try dsimp only at hSw)
                         (try go_split_ands)
                         go_simp
                         (first | done | with_reducible rfl))
                  try simp only [Act.put, List.setIfInBounds_toArray, List.set_cons_zero, List.set_cons_succ]
                  refine take_h 7 ⟨?_, ?_, ?_, by kernel_rfl, by kernel_rfl, by kernel_rfl, ?_, ?_, by assumption, ?_⟩
                  rotate_left 2
                  · (simp only [List.getElem?_toArray, List.getElem?_cons_succ, List.getElem?_cons_zero]; exact rfl)
                  · exact fun _ _ _ h => h
                  · first
                      | (refine Or.inr ⟨by rfl, ?_⟩; exact rfl)
                      | (refine Or.inl ⟨by rfl, ?_⟩
                         intro w hSw
                         (try dsimp only at hSw)
                         (try go_split_ands)
                         go_simp
                         (first | done | with_reducible rfl))
                  try simp only [Act.put, List.setIfInBounds_toArray, List.set_cons_zero, List.set_cons_succ]
                  refine take_h 8 ⟨?_, ?_, ?_, by kernel_rfl, by kernel_rfl, by kernel_rfl, ?_, ?_, by assumption, ?_⟩
                  rotate_left 2
                  · (simp only [List.getElem?_toArray, List.getElem?_cons_succ, List.getElem?_cons_zero]; exact rfl)
                  · exact fun _ _ _ h => h
                  · first
                      | (refine Or.inr ⟨by rfl, ?_⟩; exact rfl)
                      | (refine Or.inl ⟨by rfl, ?_⟩
                         intro w hSw
                         (try dsimp only at hSw)
                         (try go_split_ands)
                         go_simp
                         (first | done | with_reducible rfl))
                  try simp only [Act.put, List.setIfInBounds_toArray, List.set_cons_zero, List.set_cons_succ]
                  refine wpAnyH_done (by kernel_rfl) ?_ _
                  clear hHeld
                  go_wp2
                  go_meet
                  exact ⟨by simp; kernel_rfl, by simp, 1, rfl⟩
            case rest =>
              obtain ⟨rfl, rfl, nd, hcw⟩ := hcut
              subst hcw
              obtain ⟨f2, hf2⟩ : ∃ f2 : Nat, fl + (if nx.isSome then 1 else 0) = (f2 : Int) := ⟨(fl + (if nx.isSome then 1 else 0)).toNat, by rcases hfl2 with rfl | rfl <;> cases nx <;> simp⟩
              have HF2 := Lib.hid hf2
              rw [hf2]
              have hf3 : f2 ≤ 3 := by rw [show (f2 ≤ 3) ↔ ((f2 : Int) ≤ 3) by omega, ← hf2]; rcases hfl2 with rfl | rfl <;> cases nx <;> simp
              obtain ⟨nv, hnv⟩ : ∃ nv : Nat, nx.getD 0 = nv := ⟨_, rfl⟩
              have hnv2 : nv ≤ 63 := by
                rw [← hnv]
                cases nx with
                | none => simp
                | some x1 => exact (HNS.out x1 rfl).2
              rw [hnv]
              have HNV := Lib.hid hnv
              clear hf2 hnv
              have hx63 : x ≤ 63 := by omega
              have hB0 : (descsB B L own j).length ≤ 65536 := by rw [descsB_length]; exact hB
              go_wp2
              refine wp_region_held_drew (S := fun wx => wx.cell? ⟨bb, bo + j * 3, none⟩ = some (.int .i64 an)) (by kernel_rfl) v1 (fun hHeld => ?_)
              refine take_h 0 ⟨?_, ?_, ?_, by kernel_rfl, by kernel_rfl, by kernel_rfl, ?_, ?_, by assumption, ?_⟩
              rotate_left 2
              · (simp only [List.getElem?_toArray, List.getElem?_cons_zero]; exact rfl)
              · exact fun _ _ _ h => h
              · first
                  | (refine Or.inr ⟨by rfl, ?_⟩; exact rfl)
                  | (refine Or.inl ⟨by rfl, ?_⟩
                     intro w hSw
                     (try dsimp only at hSw)
                     (try go_split_ands)
                     go_simp
                     (first | done | with_reducible rfl))
              try simp only [Act.put, List.setIfInBounds_toArray, List.set_cons_zero, List.set_cons_succ]
              refine take_h 1 ⟨?_, ?_, ?_, by kernel_rfl, by kernel_rfl, by kernel_rfl, ?_, ?_, by assumption, ?_⟩
              rotate_left 2
              · (simp only [List.getElem?_toArray, List.getElem?_cons_succ, List.getElem?_cons_zero]; exact rfl)
              · exact fun _ _ _ h => h
              · first
                  | (refine Or.inr ⟨by rfl, ?_⟩; exact rfl)
                  | (refine Or.inl ⟨by rfl, ?_⟩
                     intro w hSw
                     (try dsimp only at hSw)
                     (try go_split_ands)
                     go_simp
                     (first | done | with_reducible rfl))
              try simp only [Act.put, List.setIfInBounds_toArray, List.set_cons_zero, List.set_cons_succ]
              refine take_h 2 ⟨?_, ?_, ?_, by kernel_rfl, by kernel_rfl, by kernel_rfl, ?_, ?_, by assumption, ?_⟩
              rotate_left 2
              · (simp only [List.getElem?_toArray, List.getElem?_cons_succ, List.getElem?_cons_zero]; exact rfl)
              · exact fun _ _ _ h => h
              · first
                  | (refine Or.inr ⟨by rfl, ?_⟩; exact rfl)
                  | (refine Or.inl ⟨by rfl, ?_⟩
                     intro w hSw
                     (try dsimp only at hSw)
                     (try go_split_ands)
                     go_simp
                     (first | done | with_reducible rfl))
              try simp only [Act.put, List.setIfInBounds_toArray, List.set_cons_zero, List.set_cons_succ]
              refine take_h 3 ⟨?_, ?_, ?_, by kernel_rfl, by kernel_rfl, by kernel_rfl, ?_, ?_, by assumption, ?_⟩
              rotate_left 2
              · (simp only [List.getElem?_toArray, List.getElem?_cons_succ, List.getElem?_cons_zero]; exact rfl)
              · exact fun _ _ _ h => h
              · first
                  | (refine Or.inr ⟨by rfl, ?_⟩; exact rfl)
                  | (refine Or.inl ⟨by rfl, ?_⟩
                     intro w hSw
                     (try dsimp only at hSw)
                     (try go_split_ands)
                     go_simp
                     (first | done | with_reducible rfl))
              try simp only [Act.put, List.setIfInBounds_toArray, List.set_cons_zero, List.set_cons_succ]
              refine take_h 4 ⟨?_, ?_, ?_, by kernel_rfl, by kernel_rfl, by kernel_rfl, ?_, ?_, by assumption, ?_⟩
              rotate_left 2
              · (simp only [List.getElem?_toArray, List.getElem?_cons_succ, List.getElem?_cons_zero]; exact rfl)
              · exact fun _ _ _ h => h
              · first
                  | (refine Or.inr ⟨by rfl, ?_⟩; exact rfl)
                  | (refine Or.inl ⟨by rfl, ?_⟩
                     intro w hSw
                     (try dsimp only at hSw)
                     (try go_split_ands)
                     go_simp
                     (first | done | with_reducible rfl))
              try simp only [Act.put, List.setIfInBounds_toArray, List.set_cons_zero, List.set_cons_succ]
              refine take_h 5 ⟨?_, ?_, ?_, by kernel_rfl, by kernel_rfl, by kernel_rfl, ?_, ?_, by assumption, ?_⟩
              rotate_left 2
              · (simp only [List.getElem?_toArray, List.getElem?_cons_succ, List.getElem?_cons_zero]; exact rfl)
              · exact fun _ _ _ h => h
              · first
                  | (refine Or.inr ⟨by rfl, ?_⟩; exact rfl)
                  | (refine Or.inl ⟨by rfl, ?_⟩
                     intro w hSw
                     (try dsimp only at hSw)
                     (try go_split_ands)
                     go_simp
                     (first | done | with_reducible rfl))
              try simp only [Act.put, List.setIfInBounds_toArray, List.set_cons_zero, List.set_cons_succ]
              refine take_h 6 ⟨?_, ?_, ?_, by kernel_rfl, by kernel_rfl, by kernel_rfl, ?_, ?_, by assumption, ?_⟩
              rotate_left 2
              · (simp only [List.getElem?_toArray, List.getElem?_cons_succ, List.getElem?_cons_zero]; exact rfl)
              · exact fun _ _ _ h => h
              · first
                  | (refine Or.inr ⟨by rfl, ?_⟩; exact rfl)
                  | (refine Or.inl ⟨by rfl, ?_⟩
                     intro w hSw
                     (try dsimp only at hSw)
                     (try go_split_ands)
                     go_simp
                     (first | done | with_reducible rfl))
              try simp only [Act.put, List.setIfInBounds_toArray, List.set_cons_zero, List.set_cons_succ]
              refine take_h 7 ⟨?_, ?_, ?_, by kernel_rfl, by kernel_rfl, by kernel_rfl, ?_, ?_, by assumption, ?_⟩
              rotate_left 2
              · (simp only [List.getElem?_toArray, List.getElem?_cons_succ, List.getElem?_cons_zero]; exact rfl)
              · exact fun _ _ _ h => h
              · first
                  | (refine Or.inr ⟨by rfl, ?_⟩; exact rfl)
                  | (refine Or.inl ⟨by rfl, ?_⟩
                     intro w hSw
                     (try dsimp only at hSw)
                     (try go_split_ands)
                     go_simp
                     (first | done | with_reducible rfl))
              try simp only [Act.put, List.setIfInBounds_toArray, List.set_cons_zero, List.set_cons_succ]
              refine take_h 8 ⟨?_, ?_, ?_, by kernel_rfl, by kernel_rfl, by kernel_rfl, ?_, ?_, by assumption, ?_⟩
              rotate_left 2
              · (simp only [List.getElem?_toArray, List.getElem?_cons_succ, List.getElem?_cons_zero]; exact rfl)
              · exact fun _ _ _ h => h
              · first
                  | (refine Or.inr ⟨by rfl, ?_⟩; exact rfl)
                  | (refine Or.inl ⟨by rfl, ?_⟩
                     intro w hSw
                     (try dsimp only at hSw)
                     (try go_split_ands)
                     go_simp
                     (first | done | with_reducible rfl))
              try simp only [Act.put, List.setIfInBounds_toArray, List.set_cons_zero, List.set_cons_succ]
              refine take_h 9 ⟨?_, ?_, ?_, by kernel_rfl, by kernel_rfl, by kernel_rfl, ?_, ?_, by assumption, ?_⟩
              rotate_left 2
              · (simp only [List.getElem?_toArray, List.getElem?_cons_succ, List.getElem?_cons_zero]; exact rfl)
              · exact fun _ _ _ h => h
              · first
                  | (refine Or.inr ⟨by rfl, ?_⟩; exact rfl)
                  | (refine Or.inl ⟨by rfl, ?_⟩
                     intro w hSw
                     (try dsimp only at hSw)
                     (try go_split_ands)
                     go_simp
                     (first | done | with_reducible rfl))
              try simp only [Act.put, List.setIfInBounds_toArray, List.set_cons_zero, List.set_cons_succ]
              refine wpAnyH_ready (rs := [10]) (by kernel_rfl) (by simp) ?_
              refine call_h 10 ⟨?_, ?_, fun K hK => ?_⟩
              rotate_left 1
              · (simp only [List.getElem?_toArray, List.getElem?_cons_succ, List.getElem?_cons_zero]; exact rfl)
              go_simp
              (go_at_call 72; refine (hput_any _ D _ m d false wrt rd (descsB B L own j) _ _ an ((HDS.out.drewN _).drew) (HMS.out.drewN _).drew hB0 (by omega)).mono ?_; rintro e wp ⟨rfl, hmP, hlP⟩)
              go_wp2_with fail
              have hl1 : Left [d] wc wp := ⟨hlP.os, hlP.tape, hlP.output, hlP.size, hlP.block⟩
              have HL1 : Hid (Left [d, bs] wa wp) := Lib.hid (HLS.out.trans (T := [d]) hl1 (by simp))
              have HD1 : Hid (HalfC wp D (bz.length : Nat) m false wrt rd) := Lib.hid (HalfC.of_whole (HWw.out.left HL1.out (by simp [hDd, hDb])))
              have p1 := cell_left v1 hl1 (by simp [hn1])
              have p2 := cell_left v2 hl1 (by simp [hn1])
              have HM1 := Lib.hid hmP
              have HS1 := Lib.hid (HSS.out.left hl1 (by simp [hdb.symm]))
              clear v1 v2 v3 hmP hlP
              refine hK.out _ _ p1 (fun hHeld => ?_)
              clear hK K
              (try simp only [Act.put, List.setIfInBounds_toArray, List.set_cons_zero, List.set_cons_succ])
              refine wpAnyH_done (by kernel_rfl) ?_ _
              clear hHeld
              go_wp2
              refine wp_region_held_drew (S := fun wx => wx.cell? ⟨bb, bo + j * 3 + 1, none⟩ = some (.int .i64 ln)) (by kernel_rfl) p2 (fun hHeld => ?_)
              refine take_h 0 ⟨?_, ?_, ?_, by kernel_rfl, by kernel_rfl, by kernel_rfl, ?_, ?_, by assumption, ?_⟩
              rotate_left 2
              · (simp only [List.getElem?_toArray, List.getElem?_cons_zero]; exact rfl)
              · exact fun _ _ _ h => h
              · first
                  | (refine Or.inr ⟨by rfl, ?_⟩; exact rfl)
                  | (refine Or.inl ⟨by rfl, ?_⟩
                     intro w hSw
                     (try dsimp only at hSw)
                     (try go_split_ands)
                     go_simp
                     (first | done | with_reducible rfl))
              try simp only [Act.put, List.setIfInBounds_toArray, List.set_cons_zero, List.set_cons_succ]
              refine take_h 1 ⟨?_, ?_, ?_, by kernel_rfl, by kernel_rfl, by kernel_rfl, ?_, ?_, by assumption, ?_⟩
              rotate_left 2
              · (simp only [List.getElem?_toArray, List.getElem?_cons_succ, List.getElem?_cons_zero]; exact rfl)
              · exact fun _ _ _ h => h
              · first
                  | (refine Or.inr ⟨by rfl, ?_⟩; exact rfl)
                  | (refine Or.inl ⟨by rfl, ?_⟩
                     intro w hSw
                     (try dsimp only at hSw)
                     (try go_split_ands)
                     go_simp
                     (first | done | with_reducible rfl))
              try simp only [Act.put, List.setIfInBounds_toArray, List.set_cons_zero, List.set_cons_succ]
              refine take_h 2 ⟨?_, ?_, ?_, by kernel_rfl, by kernel_rfl, by kernel_rfl, ?_, ?_, by assumption, ?_⟩
              rotate_left 2
              · (simp only [List.getElem?_toArray, List.getElem?_cons_succ, List.getElem?_cons_zero]; exact rfl)
              · exact fun _ _ _ h => h
              · first
                  | (refine Or.inr ⟨by rfl, ?_⟩; exact rfl)
                  | (refine Or.inl ⟨by rfl, ?_⟩
                     intro w hSw
                     (try dsimp only at hSw)
                     (try go_split_ands)
                     go_simp
                     (first | done | with_reducible rfl))
              try simp only [Act.put, List.setIfInBounds_toArray, List.set_cons_zero, List.set_cons_succ]
              refine take_h 3 ⟨?_, ?_, ?_, by kernel_rfl, by kernel_rfl, by kernel_rfl, ?_, ?_, by assumption, ?_⟩
              rotate_left 2
              · (simp only [List.getElem?_toArray, List.getElem?_cons_succ, List.getElem?_cons_zero]; exact rfl)
              · exact fun _ _ _ h => h
              · first
                  | (refine Or.inr ⟨by rfl, ?_⟩; exact rfl)
                  | (refine Or.inl ⟨by rfl, ?_⟩
                     intro w hSw
                     (try dsimp only at hSw)
                     (try go_split_ands)
                     go_simp
                     (first | done | with_reducible rfl))
              try simp only [Act.put, List.setIfInBounds_toArray, List.set_cons_zero, List.set_cons_succ]
              refine take_h 4 ⟨?_, ?_, ?_, by kernel_rfl, by kernel_rfl, by kernel_rfl, ?_, ?_, by assumption, ?_⟩
              rotate_left 2
              · (simp only [List.getElem?_toArray, List.getElem?_cons_succ, List.getElem?_cons_zero]; exact rfl)
              · exact fun _ _ _ h => h
              · first
                  | (refine Or.inr ⟨by rfl, ?_⟩; exact rfl)
                  | (refine Or.inl ⟨by rfl, ?_⟩
                     intro w hSw
                     (try dsimp only at hSw)
                     (try go_split_ands)
                     go_simp
                     (first | done | with_reducible rfl))
              try simp only [Act.put, List.setIfInBounds_toArray, List.set_cons_zero, List.set_cons_succ]
              refine take_h 5 ⟨?_, ?_, ?_, by kernel_rfl, by kernel_rfl, by kernel_rfl, ?_, ?_, by assumption, ?_⟩
              rotate_left 2
              · (simp only [List.getElem?_toArray, List.getElem?_cons_succ, List.getElem?_cons_zero]; exact rfl)
              · exact fun _ _ _ h => h
              · first
                  | (refine Or.inr ⟨by rfl, ?_⟩; exact rfl)
                  | (refine Or.inl ⟨by rfl, ?_⟩
                     intro w hSw
                     (try dsimp only at hSw)
                     (try go_split_ands)
                     go_simp
                     (first | done | with_reducible rfl))
              try simp only [Act.put, List.setIfInBounds_toArray, List.set_cons_zero, List.set_cons_succ]
              refine take_h 6 ⟨?_, ?_, ?_, by kernel_rfl, by kernel_rfl, by kernel_rfl, ?_, ?_, by assumption, ?_⟩
              rotate_left 2
              · (simp only [List.getElem?_toArray, List.getElem?_cons_succ, List.getElem?_cons_zero]; exact rfl)
              · exact fun _ _ _ h => h
              · first
                  | (refine Or.inr ⟨by rfl, ?_⟩; exact rfl)
                  | (refine Or.inl ⟨by rfl, ?_⟩
                     intro w hSw
                     (try dsimp only at hSw)
                     (try go_split_ands)
                     go_simp
                     (first | done | with_reducible rfl))
              try simp only [Act.put, List.setIfInBounds_toArray, List.set_cons_zero, List.set_cons_succ]
              refine take_h 7 ⟨?_, ?_, ?_, by kernel_rfl, by kernel_rfl, by kernel_rfl, ?_, ?_, by assumption, ?_⟩
              rotate_left 2
              · (simp only [List.getElem?_toArray, List.getElem?_cons_succ, List.getElem?_cons_zero]; exact rfl)
              · exact fun _ _ _ h => h
              · first
                  | (refine Or.inr ⟨by rfl, ?_⟩; exact rfl)
                  | (refine Or.inl ⟨by rfl, ?_⟩
                     intro w hSw
                     (try dsimp only at hSw)
                     (try go_split_ands)
                     go_simp
                     (first | done | with_reducible rfl))
              try simp only [Act.put, List.setIfInBounds_toArray, List.set_cons_zero, List.set_cons_succ]
              refine take_h 8 ⟨?_, ?_, ?_, by kernel_rfl, by kernel_rfl, by kernel_rfl, ?_, ?_, by assumption, ?_⟩
              rotate_left 2
              · (simp only [List.getElem?_toArray, List.getElem?_cons_succ, List.getElem?_cons_zero]; exact rfl)
              · exact fun _ _ _ h => h
              · first
                  | (refine Or.inr ⟨by rfl, ?_⟩; exact rfl)
                  | (refine Or.inl ⟨by rfl, ?_⟩
                     intro w hSw
                     (try dsimp only at hSw)
                     (try go_split_ands)
                     go_simp
                     (first | done | with_reducible rfl))
              try simp only [Act.put, List.setIfInBounds_toArray, List.set_cons_zero, List.set_cons_succ]
              refine take_h 9 ⟨?_, ?_, ?_, by kernel_rfl, by kernel_rfl, by kernel_rfl, ?_, ?_, by assumption, ?_⟩
              rotate_left 2
              · (simp only [List.getElem?_toArray, List.getElem?_cons_succ, List.getElem?_cons_zero]; exact rfl)
              · exact fun _ _ _ h => h
              · first
                  | (refine Or.inr ⟨by rfl, ?_⟩; exact rfl)
                  | (refine Or.inl ⟨by rfl, ?_⟩
                     intro w hSw
                     (try dsimp only at hSw)
                     (try go_split_ands)
                     go_simp
                     (first | done | with_reducible rfl))
              try simp only [Act.put, List.setIfInBounds_toArray, List.set_cons_zero, List.set_cons_succ]
              refine take_h 10 ⟨?_, ?_, ?_, by kernel_rfl, by kernel_rfl, by kernel_rfl, ?_, ?_, by assumption, ?_⟩
              rotate_left 2
              · (simp only [List.getElem?_toArray, List.getElem?_cons_succ, List.getElem?_cons_zero]; exact rfl)
              · exact fun _ _ _ h => h
              · first
                  | (refine Or.inr ⟨by rfl, ?_⟩; exact rfl)
                  | (refine Or.inl ⟨by rfl, ?_⟩
                     intro w hSw
                     (try dsimp only at hSw)
                     (try go_split_ands)
                     go_simp
                     (first | done | with_reducible rfl))
              try simp only [Act.put, List.setIfInBounds_toArray, List.set_cons_zero, List.set_cons_succ]
              refine wpAnyH_ready (rs := [11]) (by kernel_rfl) (by simp) ?_
              refine call_h 11 ⟨?_, ?_, fun K hK => ?_⟩
              rotate_left 1
              · (simp only [List.getElem?_toArray, List.getElem?_cons_succ, List.getElem?_cons_zero]; exact rfl)
              go_simp
              (go_at_call 72; refine (hput_any _ D _ m d false wrt rd _ _ _ ln HD1.out.drew HM1.out.drew (by rw [putV_length]; exact hB0) (by omega)).mono ?_; rintro e wp2 ⟨rfl, hmP, hlP⟩)
              go_wp2_with fail
              have hl2' : Left [d] wp wp2 := ⟨hlP.os, hlP.tape, hlP.output, hlP.size, hlP.block⟩
              have HL2 : Hid (Left [d, bs] wa wp2) := Lib.hid (HL1.out.trans (T := [d]) hl2' (by simp))
              have HD2 : Hid (HalfC wp2 D (bz.length : Nat) m false wrt rd) := Lib.hid (HalfC.of_whole (HWw.out.left HL2.out (by simp [hDd, hDb])))
              have p3 := cell_left p2 hl2' (by simp [hn1])
              have HM2 := Lib.hid hmP
              have HS2 := Lib.hid (HS1.out.left hl2' (by simp [hdb.symm]))
              clear p1 p2 hmP hlP
              refine hK.out _ _ p3 (fun hHeld => ?_)
              clear hK K
              (try simp only [Act.put, List.setIfInBounds_toArray, List.set_cons_zero, List.set_cons_succ])
              refine wpAnyH_done (by kernel_rfl) ?_ _
              clear hHeld p3
              go_wp2_with fail
              refine (hput_any _ D _ m d false wrt rd _ _ _ f2 HD2.out HM2.out (by rw [putV_length, putV_length]; exact hB0) (by omega)).mono ?_
              rintro e wp3 ⟨rfl, hmP, hlP⟩
              have HL3 : Hid (Left [d, bs] wa wp3) := Lib.hid (HL2.out.trans (T := [d]) hlP (by simp))
              have HD3 : Hid (HalfC wp3 D (bz.length : Nat) m false wrt rd) := Lib.hid (HalfC.of_whole (HWw.out.left HL3.out (by simp [hDd, hDb])))
              have HM3 := Lib.hid hmP
              have HS3 := Lib.hid (HS2.out.left hlP (by simp [hdb.symm]))
              clear hmP hlP
              go_wp2_with fail
              refine (hput_any _ D _ m d false wrt rd _ _ _ nv HD3.out HM3.out (by rw [putV_length, putV_length, putV_length]; exact hB0) (by omega)).mono ?_
              rintro e wp4 ⟨rfl, hmP, hlP⟩
              have HL4 : Hid (Left [d, bs] wa wp4) := Lib.hid (HL3.out.trans (T := [d]) hlP (by simp))
              have HM4 := Lib.hid hmP
              have HS4 := Lib.hid (HS3.out.left hlP (by simp [hdb.symm]))
              clear hmP hlP
              go_wp2
              go_roundw
              case rel =>
                refine ⟨j + 1, by omega, by go_num, ?_, ?_, HL4.out⟩
                · rw [descsB_succ HB.out HX2.out, HNX.out]
                  unfold oneB
                  have e1 : b.addr.toNat = an := by rw [HA.out]; simp
                  have e2 : b.len.toNat = ln := by rw [HLn.out]; simp
                  have e3 : (if b.wr then 2 else 0) + (if nx.isSome then 1 else 0) = f2 := flags_nat _ _ _ (by rw [HFL.out]; exact HF2.out)
                  rw [e1, e2, e3, HNV.out]
                  have hx1 : IntKind.i64.wrap (16 * (x : Int)) = 16 * (x : Int) := IntWalk.i64_in _ ⟨by omega, by omega⟩
                  have hx2 : IntKind.i64.wrap (16 * (x : Int) + 8) = 16 * (x : Int) + 8 := IntWalk.i64_in _ ⟨by omega, by omega⟩
                  have hM4 := HM4.out
                  rw [hx1, hx2] at hM4
                  exact hM4
                · have e1 : own.take (j + 1) = own.take j ++ [x] := by rw [List.take_add_one, HX2.out]; rfl
                  rw [e1, setAll_snoc]
                  exact HS4.out
              case measure => simp [intOf]; omega
        · have hjL : j = L.length := by omega
          subst hjL
          have hol : own.take L.length = own := List.take_of_length_le (by omega)
          rw [hol] at HSj
          obtain ⟨o0, ho0⟩ : ∃ o0, own[0]? = some o0 := ⟨_, List.getElem?_eq_getElem (by omega)⟩
          have hc0 : wr.cell? ⟨g, 0, none⟩ = some (.int .i64 o0) := by
            have := (own_left HO.out HLj.out (by simp; omega)).cellAt 0 (by omega)
            rw [this, i64s, List.getElem?_map, ho0]
            rfl
          have HO0 := Lib.hid ho0
          have hWe := HWw.out.left HLj.out (by simp [hDd, hDb])
          have k0 : wr.cell? ⟨D, 0, none⟩ = some (.int .i64 (bz.length : Nat)) := by rw [hWe.cell]; rfl
          have k1 : wr.cell? ⟨D, 1, none⟩ = some (.int .i64 (16 * (bz.length : Nat))) := by rw [hWe.cell]; rfl
          have k6 : wr.cell? ⟨D, 6, none⟩ = some (.int .i64 wrt) := by rw [hWe.cell]; rfl
          have k9 : wr.cell? ⟨D, 9, none⟩ = some (.map (some bw)) := by rw [hWe.cell]; rfl
          have k10 : wr.cell? ⟨D, 10, none⟩ = some (.map (some bl)) := by rw [hWe.cell]; rfl
          have HWe := Lib.hid hWe
          have hfree := HMem.out o0 (List.mem_of_getElem? ho0)
          have HFR := Lib.hid hfree
          obtain ⟨kw1, kw2⟩ := HKW.out o0 hfree
          obtain ⟨W, hWI, hWA⟩ := HWY.out
          have hbwlt := (hWI.keep (hb.block bw hWI.lt)).lt
          have hbllt := ((HLS0.out).keep (hb.block bl HLS0.out.lt)).lt
          have hbw1 : bw ≠ d := fun e => by obtain ⟨es, c, h1, _⟩ := hWI.size; have := HM.out.bytes; unfold Whole at this; rw [← e, h1] at this; injection this with this; cases this
          have hbw2 : bw ≠ bs := fun e => by obtain ⟨es, c, h1, _⟩ := hWI.size; have := HS.out; unfold Whole at this; rw [← e, h1] at this; injection this with this; cases this
          have hbl1 : bl ≠ d := fun e => by obtain ⟨es, c, h1, _⟩ := HLS0.out.size; have := HM.out.bytes; unfold Whole at this; rw [← e, h1] at this; injection this with this; cases this
          have hbl2 : bl ≠ bs := fun e => by obtain ⟨es, c, h1, _⟩ := HLS0.out.size; have := HS.out; unfold Whole at this; rw [← e, h1] at this; injection this with this; cases this
          have hmw : m ≠ bw := fun e => by obtain ⟨es, c, h1, _⟩ := hWI.size; have := HM.out.head; unfold Whole at this; rw [e, h1] at this; injection this with this; cases this
          have hml : m ≠ bl := fun e => by obtain ⟨es, c, h1, _⟩ := HLS0.out.size; have := HM.out.head; unfold Whole at this; rw [e, h1] at this; injection this with this; cases this
          have hIW : IMap wr bw W := (((hWI.keep (hb.block bw hWI.lt)).keep (hbe.block bw hbwlt))).left HLj.out (by simp [hbw1, hbw2])
          have hIL : IMap wr bl (leastV ls) := (((HLS0.out.keep (hb.block bl HLS0.out.lt)).keep (hbe.block bl hbllt))).left HLj.out (by simp [hbl1, hbl2])
          obtain ⟨es, ck, hIM⟩ := hIW
          have hme := run_entry_new (P := Try.prog) (w := wr.drew) (t := 120) (kt := 3) (et := 22) (z := .slice none 0 0) (k := (o0 : Int)) hIM (by kernel_rfl) (by kernel_rfl) (by kernel_rfl) (look_no (fun p hp => by obtain ⟨p', h, e⟩ := way_keys hWA p hp; rw [← e]; exact kw1 p' h))
          clear hol ho0 hWe
          have hL0 : 0 < L.length := hL1
          go_wp2
          refine wp_region_held_drew (S := fun wx => wx.cell? ⟨D, 9, none⟩ = some (.map (some bw)) ∧ wx.cell? ⟨D, 10, none⟩ = some (.map (some bl)) ∧ wx.cell? ⟨g, 0, none⟩ = some (.int .i64 o0)) (by kernel_rfl) ⟨k9, k10, hc0⟩ (fun hHeld => ?_)
          refine take_h 0 ⟨?_, ?_, ?_, by kernel_rfl, by kernel_rfl, by kernel_rfl, ?_, ?_, by assumption, ?_⟩
          rotate_left 2
          · (simp only [List.getElem?_toArray, List.getElem?_cons_zero]; exact rfl)
          · exact fun _ _ _ h => h
          · first
              | (refine Or.inr ⟨by rfl, ?_⟩; exact rfl)
              | (refine Or.inl ⟨by rfl, ?_⟩
                 intro w hSw
                 (try dsimp only at hSw)
                 (try go_split_ands)
                 go_simp
                 (first | done | with_reducible rfl))
          try simp only [Act.put, List.setIfInBounds_toArray, List.set_cons_zero, List.set_cons_succ]
          refine take_h 1 ⟨?_, ?_, ?_, by kernel_rfl, by kernel_rfl, by kernel_rfl, ?_, ?_, by assumption, ?_⟩
          rotate_left 2
          · (simp only [List.getElem?_toArray, List.getElem?_cons_succ, List.getElem?_cons_zero]; exact rfl)
          · exact fun _ _ _ h => h
          · first
              | (refine Or.inr ⟨by rfl, ?_⟩; exact rfl)
              | (refine Or.inl ⟨by rfl, ?_⟩
                 intro w hSw
                 (try dsimp only at hSw)
                 (try go_split_ands)
                 go_simp
                 (first | done | with_reducible rfl))
          try simp only [Act.put, List.setIfInBounds_toArray, List.set_cons_zero, List.set_cons_succ]
          refine take_h 2 ⟨?_, ?_, ?_, by kernel_rfl, by kernel_rfl, by kernel_rfl, ?_, ?_, by assumption, ?_⟩
          rotate_left 2
          · (simp only [List.getElem?_toArray, List.getElem?_cons_succ, List.getElem?_cons_zero]; exact rfl)
          · exact fun _ _ _ h => h
          · first
              | (refine Or.inr ⟨by rfl, ?_⟩; exact rfl)
              | (refine Or.inl ⟨by rfl, ?_⟩
                 intro w hSw
                 (try dsimp only at hSw)
                 (try go_split_ands)
                 go_simp
                 (first | done | with_reducible rfl))
          try simp only [Act.put, List.setIfInBounds_toArray, List.set_cons_zero, List.set_cons_succ]
          refine take_h 3 ⟨?_, ?_, ?_, by kernel_rfl, by kernel_rfl, by kernel_rfl, ?_, ?_, by assumption, ?_⟩
          rotate_left 2
          · (simp only [List.getElem?_toArray, List.getElem?_cons_succ, List.getElem?_cons_zero]; exact rfl)
          · exact fun _ _ _ h => h
          · first
              | (refine Or.inr ⟨by rfl, ?_⟩; exact rfl)
              | (refine Or.inl ⟨by rfl, ?_⟩
                 intro w hSw
                 (try dsimp only at hSw)
                 (try go_split_ands)
                 go_simp
                 (first | done | with_reducible rfl))
          try simp only [Act.put, List.setIfInBounds_toArray, List.set_cons_zero, List.set_cons_succ]
          refine take_h 4 ⟨?_, ?_, ?_, by kernel_rfl, by kernel_rfl, by kernel_rfl, ?_, ?_, by assumption, ?_⟩
          rotate_left 2
          · (simp only [List.getElem?_toArray, List.getElem?_cons_succ, List.getElem?_cons_zero]; exact rfl)
          · exact fun _ _ _ h => h
          · first
              | (refine Or.inr ⟨by rfl, ?_⟩; exact rfl)
              | (refine Or.inl ⟨by rfl, ?_⟩
                 intro w hSw
                 (try dsimp only at hSw)
                 (try go_split_ands)
                 go_simp
                 (first | done | with_reducible rfl))
          try simp only [Act.put, List.setIfInBounds_toArray, List.set_cons_zero, List.set_cons_succ]
          refine take_h 5 ⟨?_, ?_, ?_, by kernel_rfl, by kernel_rfl, by kernel_rfl, ?_, ?_, by assumption, ?_⟩
          rotate_left 2
          · (simp only [List.getElem?_toArray, List.getElem?_cons_succ, List.getElem?_cons_zero]; exact rfl)
          · exact fun _ _ _ h => h
          · first
              | (refine Or.inr ⟨by rfl, ?_⟩; exact rfl)
              | (refine Or.inl ⟨by rfl, ?_⟩
                 intro w hSw
                 (try dsimp only at hSw)
                 (try go_split_ands)
                 go_simp
                 (first | done | with_reducible rfl))
          try simp only [Act.put, List.setIfInBounds_toArray, List.set_cons_zero, List.set_cons_succ]
          refine take_h 6 ⟨?_, ?_, ?_, by kernel_rfl, by kernel_rfl, by kernel_rfl, ?_, ?_, by assumption, ?_⟩
          rotate_left 2
          · (simp only [List.getElem?_toArray, List.getElem?_cons_succ, List.getElem?_cons_zero]; exact rfl)
          · exact fun _ _ _ h => h
          · first
              | (refine Or.inr ⟨by rfl, ?_⟩; exact rfl)
              | (refine Or.inl ⟨by rfl, ?_⟩
                 intro w hSw
                 (try dsimp only at hSw)
                 (try go_split_ands)
                 go_simp
                 (first | done | with_reducible rfl))
          try simp only [Act.put, List.setIfInBounds_toArray, List.set_cons_zero, List.set_cons_succ]
          refine take_h 7 ⟨?_, ?_, ?_, by kernel_rfl, by kernel_rfl, by kernel_rfl, ?_, ?_, by assumption, ?_⟩
          rotate_left 2
          · (simp only [List.getElem?_toArray, List.getElem?_cons_succ, List.getElem?_cons_zero]; exact rfl)
          · exact fun _ _ _ h => h
          · first
              | (refine Or.inr ⟨by rfl, ?_⟩; exact rfl)
              | (refine Or.inl ⟨by rfl, ?_⟩
                 intro w hSw
                 (try dsimp only at hSw)
                 (try go_split_ands)
                 go_simp
                 (first | done | with_reducible rfl))
          try simp only [Act.put, List.setIfInBounds_toArray, List.set_cons_zero, List.set_cons_succ]
          refine take_h 8 ⟨?_, ?_, ?_, by kernel_rfl, by kernel_rfl, by kernel_rfl, ?_, ?_, by assumption, ?_⟩
          rotate_left 2
          · (simp only [List.getElem?_toArray, List.getElem?_cons_succ, List.getElem?_cons_zero]; exact rfl)
          · exact fun _ _ _ h => h
          · first
              | (refine Or.inr ⟨by rfl, ?_⟩; exact rfl)
              | (refine Or.inl ⟨by rfl, ?_⟩
                 intro w hSw
                 (try dsimp only at hSw)
                 (try go_split_ands)
                 go_simp
                 (first | done | with_reducible rfl))
          try simp only [Act.put, List.setIfInBounds_toArray, List.set_cons_zero, List.set_cons_succ]
          refine take_h 9 ⟨?_, ?_, ?_, by kernel_rfl, by kernel_rfl, by kernel_rfl, ?_, ?_, by assumption, ?_⟩
          rotate_left 2
          · (simp only [List.getElem?_toArray, List.getElem?_cons_succ, List.getElem?_cons_zero]; exact rfl)
          · exact fun _ _ _ h => h
          · first
              | (refine Or.inr ⟨by rfl, ?_⟩; exact rfl)
              | (refine Or.inl ⟨by rfl, ?_⟩
                 intro w hSw
                 (try dsimp only at hSw)
                 (try go_split_ands)
                 go_simp
                 (first | done | with_reducible rfl))
          try simp only [Act.put, List.setIfInBounds_toArray, List.set_cons_zero, List.set_cons_succ]
          refine take_h 10 ⟨?_, ?_, ?_, by kernel_rfl, by kernel_rfl, by kernel_rfl, ?_, ?_, by assumption, ?_⟩
          rotate_left 2
          · (simp only [List.getElem?_toArray, List.getElem?_cons_succ, List.getElem?_cons_zero]; exact rfl)
          · exact fun _ _ _ h => h
          · first
              | (refine Or.inr ⟨by rfl, ?_⟩; exact rfl)
              | (refine Or.inl ⟨by rfl, ?_⟩
                 intro w hSw
                 (try dsimp only at hSw)
                 (try go_split_ands)
                 go_simp
                 (first | done | with_reducible rfl))
          try simp only [Act.put, List.setIfInBounds_toArray, List.set_cons_zero, List.set_cons_succ]
          refine take_h 11 ⟨?_, ?_, ?_, by kernel_rfl, by kernel_rfl, by kernel_rfl, ?_, ?_, by assumption, ?_⟩
          rotate_left 2
          · (simp only [List.getElem?_toArray, List.getElem?_cons_succ, List.getElem?_cons_zero]; exact rfl)
          · exact fun _ _ _ h => h
          · first
              | (refine Or.inr ⟨by rfl, ?_⟩; exact rfl)
              | (refine Or.inl ⟨by rfl, ?_⟩
                 intro w hSw
                 (try dsimp only at hSw)
                 (try go_split_ands)
                 go_simp
                 (first | done | with_reducible rfl))
          try simp only [Act.put, List.setIfInBounds_toArray, List.set_cons_zero, List.set_cons_succ]
          refine take_h 12 ⟨?_, ?_, ?_, by kernel_rfl, by kernel_rfl, by kernel_rfl, ?_, ?_, by assumption, ?_⟩
          rotate_left 2
          · (simp only [List.getElem?_toArray, List.getElem?_cons_succ, List.getElem?_cons_zero]; exact rfl)
          · exact fun _ _ _ h => h
          · first
              | (refine Or.inr ⟨by rfl, ?_⟩; exact rfl)
              | (refine Or.inl ⟨by rfl, ?_⟩
                 intro w hSw
                 (try dsimp only at hSw)
                 (try go_split_ands)
                 go_simp
                 (first | done | with_reducible rfl))
          try simp only [Act.put, List.setIfInBounds_toArray, List.set_cons_zero, List.set_cons_succ]
          refine take_h 13 ⟨?_, ?_, ?_, by kernel_rfl, by kernel_rfl, by kernel_rfl, ?_, ?_, by assumption, ?_⟩
          rotate_left 2
          · (simp only [List.getElem?_toArray, List.getElem?_cons_succ, List.getElem?_cons_zero]; exact rfl)
          · exact fun _ _ _ h => h
          · first
              | (refine Or.inr ⟨by rfl, ?_⟩; exact rfl)
              | (refine Or.inl ⟨by rfl, ?_⟩
                 intro w hSw
                 (try dsimp only at hSw)
                 (try go_split_ands)
                 go_simp
                 (first | done | with_reducible rfl))
          try simp only [Act.put, List.setIfInBounds_toArray, List.set_cons_zero, List.set_cons_succ]
          refine take_h 14 ⟨?_, ?_, ?_, by kernel_rfl, by kernel_rfl, by kernel_rfl, ?_, ?_, by assumption, ?_⟩
          rotate_left 2
          · (simp only [List.getElem?_toArray, List.getElem?_cons_succ, List.getElem?_cons_zero]; exact rfl)
          · exact fun _ _ _ h => h
          · first
              | (refine Or.inr ⟨by rfl, ?_⟩; exact rfl)
              | (refine Or.inl ⟨by rfl, ?_⟩
                 intro w hSw
                 (try dsimp only at hSw)
                 (try go_split_ands)
                 go_simp
                 (first | done | with_reducible rfl))
          try simp only [Act.put, List.setIfInBounds_toArray, List.set_cons_zero, List.set_cons_succ]
          refine take_h 15 ⟨?_, ?_, ?_, by kernel_rfl, by kernel_rfl, by kernel_rfl, ?_, ?_, by assumption, ?_⟩
          rotate_left 2
          · (simp only [List.getElem?_toArray, List.getElem?_cons_succ, List.getElem?_cons_zero]; exact rfl)
          · exact fun _ _ _ h => h
          · first
              | (refine Or.inr ⟨by rfl, ?_⟩; exact rfl)
              | (refine Or.inl ⟨by rfl, ?_⟩
                 intro w hSw
                 (try dsimp only at hSw)
                 (try go_split_ands)
                 go_simp
                 (first | done | with_reducible rfl))
          try simp only [Act.put, List.setIfInBounds_toArray, List.set_cons_zero, List.set_cons_succ]
          refine wpAnyH_ready (rs := [16]) (by kernel_rfl) (by simp) ?_
          refine call_h 16 ⟨?_, ?_, fun K hK => ?_⟩
          rotate_left 1
          · (simp only [List.getElem?_toArray, List.getElem?_cons_succ, List.getElem?_cons_zero]; exact rfl)
          go_simp
          refine gen_world (w := wr) (b := bw) (o := .map (es.push ⟨.int .i64 o0, .slice none 0 0, ck⟩) (ck + 1)) rfl rfl rfl rfl ?_
          intro wm1 hm1 hlm1
          clear hme
          have hbwr := hIM.1
          have hm1b : wm1.heap[bw]? = some (.map (es.push ⟨.int .i64 o0, .slice none 0 0, ck⟩) (ck + 1)) := by
            rw [hm1, Array.getElem?_setIfInBounds_self_of_lt (Array.getElem?_eq_some_iff.1 hbwr).1]
          clear hm1
          have hDw : D ≠ bw := fun e => by rw [← e] at hbwr; have h := HWe.out; unfold Whole at h; rw [h] at hbwr; injection hbwr with hbwr; cases hbwr
          have hgw : g ≠ bw := by omega
          refine hK.out _ _ ⟨cell_left k9 hlm1 (by simp [hDw]), cell_left k10 hlm1 (by simp [hDw]), cell_left hc0 hlm1 (by simp [hgw])⟩ (fun hHeld => ?_)
          clear hK K
          (try simp only [Act.put, List.setIfInBounds_toArray, List.set_cons_zero, List.set_cons_succ])
          refine take_h 17 ⟨?_, ?_, ?_, by kernel_rfl, by kernel_rfl, by kernel_rfl, ?_, ?_, by assumption, ?_⟩
          rotate_left 2
          · (simp only [List.getElem?_toArray, List.getElem?_cons_succ, List.getElem?_cons_zero]; exact rfl)
          · exact fun _ _ _ h => h
          · first
              | (refine Or.inr ⟨by rfl, ?_⟩; exact rfl)
              | (refine Or.inl ⟨by rfl, ?_⟩
                 intro w hSw
                 (try dsimp only at hSw)
                 (try go_split_ands)
                 go_simp
                 (first | done | with_reducible rfl))
          try simp only [Act.put, List.setIfInBounds_toArray, List.set_cons_zero, List.set_cons_succ]
          have hst := run_entry_store (P := Try.prog) (w := wm1) (t := 120) hIM.2.1 (k := (o0 : Int)) (z := .slice none 0 0) (v := .slice (some ⟨g, 0, none⟩) L.length gcap) hm1b
          simp only [goInt] at hst
          refine wpAnyH_ready (rs := [18]) (by kernel_rfl) (by simp) ?_
          refine call_h 18 ⟨?_, ?_, fun K hK => ?_⟩
          rotate_left 1
          · (simp only [List.getElem?_toArray, List.getElem?_cons_succ, List.getElem?_cons_zero]; exact rfl)
          go_simp
          refine gen_world (w := wm1) (b := bw) (o := .map (es.push ⟨.int .i64 o0, .slice (some ⟨g, 0, none⟩) L.length gcap, ck⟩) (ck + 1)) rfl rfl rfl rfl ?_
          intro wm2 hm2 hlm2
          clear hst
          have hm2b : wm2.heap[bw]? = some (.map (es.push ⟨.int .i64 o0, .slice (some ⟨g, 0, none⟩) L.length gcap, ck⟩) (ck + 1)) := by
            rw [hm2, Array.getElem?_setIfInBounds_self_of_lt (Array.getElem?_eq_some_iff.1 hm1b).1]
          clear hm2
          have hl02 : Left [bw] wr wm2 := hlm1.trans (T := [bw]) hlm2 (by simp)
          have HWP := Lib.hid (hIM.pushed (look_no (fun p hp => by obtain ⟨p', h, e⟩ := way_keys hWA p hp; rw [← e]; exact kw1 p' h)) (.slice (some ⟨g, 0, none⟩) L.length gcap) hm2b)
          have hIL2 := hIL.left hl02 (by simp [HNE.out.symm])
          obtain ⟨es2, ck2, hIM2⟩ := hIL2
          have hme2 := run_entry_new (P := Try.prog) (w := wm2) (t := 121) (kt := 3) (et := 3) (z := .int .i64 0) (k := (o0 : Int)) hIM2 (by kernel_rfl) (by kernel_rfl) (by kernel_rfl) (look_no (fun p hp => by obtain ⟨p', h, rfl⟩ := List.mem_map.1 hp; exact kw2 p' h))
          refine hK.out _ _ ⟨cell_left k9 hl02 (by simp [hDw]), cell_left k10 hl02 (by simp [hDw]), cell_left hc0 hl02 (by simp [hgw])⟩ (fun hHeld => ?_)
          clear hK K
          (try simp only [Act.put, List.setIfInBounds_toArray, List.set_cons_zero, List.set_cons_succ])
          refine wpAnyH_ready (rs := [19]) (by kernel_rfl) (by simp) ?_
          refine call_h 19 ⟨?_, ?_, fun K hK => ?_⟩
          rotate_left 1
          · (simp only [List.getElem?_toArray, List.getElem?_cons_succ, List.getElem?_cons_zero]; exact rfl)
          go_simp
          refine gen_world (w := wm2) (b := bl) (o := .map (es2.push ⟨.int .i64 o0, .int .i64 0, ck2⟩) (ck2 + 1)) rfl rfl rfl rfl ?_
          intro wm3 hm3 hlm3
          clear hme2
          have hblr := hIM2.1
          have hm3b : wm3.heap[bl]? = some (.map (es2.push ⟨.int .i64 o0, .int .i64 0, ck2⟩) (ck2 + 1)) := by
            rw [hm3, Array.getElem?_setIfInBounds_self_of_lt (Array.getElem?_eq_some_iff.1 hblr).1]
          clear hm3
          have hDl : D ≠ bl := fun e => by rw [← e] at hblr; have h := HWe.out.left hl02 (by simp [hDw]); unfold Whole at h; rw [h] at hblr; injection hblr with hblr; cases hblr
          have hgl2 : g ≠ bl := by omega
          have hl03 : Left [bw, bl] wr wm3 := (hl02.mono (by simp)).trans (T := [bl]) hlm3 (by simp)
          refine hK.out _ _ ⟨cell_left k9 hl03 (by simp [hDw, hDl]), cell_left k10 hl03 (by simp [hDw, hDl]), cell_left hc0 hl03 (by simp [hgw, hgl2])⟩ (fun hHeld => ?_)
          clear hK K
          (try simp only [Act.put, List.setIfInBounds_toArray, List.set_cons_zero, List.set_cons_succ])
          refine take_h 20 ⟨?_, ?_, ?_, by kernel_rfl, by kernel_rfl, by kernel_rfl, ?_, ?_, by assumption, ?_⟩
          rotate_left 2
          · (simp only [List.getElem?_toArray, List.getElem?_cons_succ, List.getElem?_cons_zero]; exact rfl)
          · exact fun _ _ _ h => h
          · first
              | (refine Or.inr ⟨by rfl, ?_⟩; exact rfl)
              | (refine Or.inl ⟨by rfl, ?_⟩
                 intro w hSw
                 (try dsimp only at hSw)
                 (try go_split_ands)
                 go_simp
                 (first | done | with_reducible rfl))
          try simp only [Act.put, List.setIfInBounds_toArray, List.set_cons_zero, List.set_cons_succ]
          have hst := run_entry_store (P := Try.prog) (w := wm3) (t := 121) hIM2.2.1 (k := (o0 : Int)) (z := .int .i64 0) (v := .int .i64 (wsum L)) hm3b
          simp only [goInt] at hst
          refine wpAnyH_ready (rs := [21]) (by kernel_rfl) (by simp) ?_
          refine call_h 21 ⟨?_, ?_, fun K hK => ?_⟩
          rotate_left 1
          · (simp only [List.getElem?_toArray, List.getElem?_cons_succ, List.getElem?_cons_zero]; exact rfl)
          go_simp
          refine gen_world (w := wm3) (b := bl) (o := .map (es2.push ⟨.int .i64 o0, .int .i64 (wsum L), ck2⟩) (ck2 + 1)) rfl rfl rfl rfl ?_
          intro wm4 hm4 hlm4
          clear hst
          have hm4b : wm4.heap[bl]? = some (.map (es2.push ⟨.int .i64 o0, .int .i64 (wsum L), ck2⟩) (ck2 + 1)) := by
            rw [hm4, Array.getElem?_setIfInBounds_self_of_lt (Array.getElem?_eq_some_iff.1 hm3b).1]
          clear hm4
          have HLP := Lib.hid (hIM2.pushed (look_no (fun p hp => by obtain ⟨p', h, rfl⟩ := List.mem_map.1 hp; exact kw2 p' h)) (.int .i64 (wsum L)) hm4b)
          have hl24 : Left [bl] wm2 wm4 := hlm3.trans (T := [bl]) hlm4 (by simp)
          have HWP4 := Lib.hid (HWP.out.left hl24 (by simp [HNE.out]))
          have hl04 : Left [bw, bl] wr wm4 := (hl02.mono (by simp)).trans (T := [bl]) hl24 (by simp)
          refine hK.out _ _ ⟨cell_left k9 hl04 (by simp [hDw, hDl]), cell_left k10 hl04 (by simp [hDw, hDl]), cell_left hc0 hl04 (by simp [hgw, hgl2])⟩ (fun hHeld => ?_)
          clear hK K
          (try simp only [Act.put, List.setIfInBounds_toArray, List.set_cons_zero, List.set_cons_succ])
          refine wpAnyH_done (by kernel_rfl) ?_ _
          clear hHeld hm1b hm2b hm3b hm4b k9 k10
          have j0 := cell_left k0 hl04 (by simp [hDw, hDl])
          have j1 := cell_left k1 hl04 (by simp [hDw, hDl])
          have j6 := cell_left k6 hl04 (by simp [hDw, hDl])
          have jc := cell_left hc0 hl04 (by simp [hgw, hgl2])
          have HL04 := Lib.hid hl04
          have HM4 := Lib.hid (HMj.out.left hl04 (by simp [hmw, hml]) (by simp [hbw1.symm, hbl1.symm]))
          have HW4 := Lib.hid (HWe.out.left hl04 (by simp [hDw, hDl]))
          have HD4 := Lib.hid (HalfC.of_whole HW4.out)
          have ho63 : o0 ≤ 63 := by have := (List.getElem?_eq_some_iff.1 HFR.out).1; omega
          clear k0 k1 k6 hc0 hl02 hl03 hl24 hlm1 hlm2 hlm3 hlm4 hl04
          have hbn1 : 0 < bz.length := by have := (List.getElem?_eq_some_iff.1 HFR.out).1; omega
          have hbn : ¬ bz = [] := fun e => by rw [e] at hbn1; simp at hbn1
          obtain ⟨rr, hrr⟩ : ∃ rr : Nat, wrt % bz.length = rr := ⟨_, rfl⟩
          have hrr2 : rr ≤ 63 := by have := Nat.mod_lt wrt hbn1; omega
          have htm : ((wrt : Int)).tmod (bz.length : Int) = (rr : Int) := by rw [← hrr]; rfl
          have hw1 : IntKind.i64.wrap (16 * (bz.length : Int) + 4) = 16 * (bz.length : Int) + 4 := IntWalk.i64_in _ ⟨by omega, by omega⟩
          have hw2 : IntKind.i64.wrap (2 * (rr : Int)) = 2 * (rr : Int) := IntWalk.i64_in _ ⟨by omega, by omega⟩
          have hw3 : IntKind.i64.wrap (16 * (bz.length : Int) + 4 + 2 * (rr : Int)) = 16 * (bz.length : Int) + 4 + 2 * (rr : Int) := IntWalk.i64_in _ ⟨by omega, by omega⟩
          have HRR := Lib.hid hrr
          clear hrr
          go_wp2
          refine wp_region_held_drew (S := fun wx => wx.cell? ⟨D, 0, none⟩ = some (.int .i64 (bz.length : Nat)) ∧ wx.cell? ⟨D, 1, none⟩ = some (.int .i64 (16 * (bz.length : Nat))) ∧ wx.cell? ⟨D, 6, none⟩ = some (.int .i64 wrt) ∧ wx.cell? ⟨g, 0, none⟩ = some (.int .i64 o0)) (by kernel_rfl) ⟨j0, j1, j6, jc⟩ (fun hHeld => ?_)
          refine take_h 0 ⟨?_, ?_, ?_, by kernel_rfl, by kernel_rfl, by kernel_rfl, ?_, ?_, by assumption, ?_⟩
          rotate_left 2
          · (simp only [List.getElem?_toArray, List.getElem?_cons_zero]; exact rfl)
          · exact fun _ _ _ h => h
          · first
              | (refine Or.inr ⟨by rfl, ?_⟩; exact rfl)
              | (refine Or.inl ⟨by rfl, ?_⟩
                 intro w hSw
                 (try dsimp only at hSw)
                 (try go_split_ands)
                 go_simp
                 (first | done | with_reducible rfl))
          try simp only [Act.put, List.setIfInBounds_toArray, List.set_cons_zero, List.set_cons_succ]
          refine take_h 1 ⟨?_, ?_, ?_, by kernel_rfl, by kernel_rfl, by kernel_rfl, ?_, ?_, by assumption, ?_⟩
          rotate_left 2
          · (simp only [List.getElem?_toArray, List.getElem?_cons_succ, List.getElem?_cons_zero]; exact rfl)
          · exact fun _ _ _ h => h
          · first
              | (refine Or.inr ⟨by rfl, ?_⟩; exact rfl)
              | (refine Or.inl ⟨by rfl, ?_⟩
                 intro w hSw
                 (try dsimp only at hSw)
                 (try go_split_ands)
                 go_simp
                 (first | done | with_reducible rfl))
          try simp only [Act.put, List.setIfInBounds_toArray, List.set_cons_zero, List.set_cons_succ]
          refine take_h 2 ⟨?_, ?_, ?_, by kernel_rfl, by kernel_rfl, by kernel_rfl, ?_, ?_, by assumption, ?_⟩
          rotate_left 2
          · (simp only [List.getElem?_toArray, List.getElem?_cons_succ, List.getElem?_cons_zero]; exact rfl)
          · exact fun _ _ _ h => h
          · first
              | (refine Or.inr ⟨by rfl, ?_⟩; exact rfl)
              | (refine Or.inl ⟨by rfl, ?_⟩
                 intro w hSw
                 (try dsimp only at hSw)
                 (try go_split_ands)
                 go_simp
                 (first | done | with_reducible rfl))
          try simp only [Act.put, List.setIfInBounds_toArray, List.set_cons_zero, List.set_cons_succ]
          refine take_h 3 ⟨?_, ?_, ?_, by kernel_rfl, by kernel_rfl, by kernel_rfl, ?_, ?_, by assumption, ?_⟩
          rotate_left 2
          · (simp only [List.getElem?_toArray, List.getElem?_cons_succ, List.getElem?_cons_zero]; exact rfl)
          · exact fun _ _ _ h => h
          · first
              | (refine Or.inr ⟨by rfl, ?_⟩; exact rfl)
              | (refine Or.inl ⟨by rfl, ?_⟩
                 intro w hSw
                 (try dsimp only at hSw)
                 (try go_split_ands)
                 go_simp
                 (first | done | with_reducible rfl))
          try simp only [Act.put, List.setIfInBounds_toArray, List.set_cons_zero, List.set_cons_succ]
          refine take_h 4 ⟨?_, ?_, ?_, by kernel_rfl, by kernel_rfl, by kernel_rfl, ?_, ?_, by assumption, ?_⟩
          rotate_left 2
          · (simp only [List.getElem?_toArray, List.getElem?_cons_succ, List.getElem?_cons_zero]; exact rfl)
          · exact fun _ _ _ h => h
          · first
              | (refine Or.inr ⟨by rfl, ?_⟩; exact rfl)
              | (refine Or.inl ⟨by rfl, ?_⟩
                 intro w hSw
                 (try dsimp only at hSw)
                 (try go_split_ands)
                 go_simp
                 (first | done | with_reducible rfl))
          try simp only [Act.put, List.setIfInBounds_toArray, List.set_cons_zero, List.set_cons_succ]
          refine take_h 5 ⟨?_, ?_, ?_, by kernel_rfl, by kernel_rfl, by kernel_rfl, ?_, ?_, by assumption, ?_⟩
          rotate_left 2
          · (simp only [List.getElem?_toArray, List.getElem?_cons_succ, List.getElem?_cons_zero]; exact rfl)
          · exact fun _ _ _ h => h
          · first
              | (refine Or.inr ⟨by rfl, ?_⟩; exact rfl)
              | (refine Or.inl ⟨by rfl, ?_⟩
                 intro w hSw
                 (try dsimp only at hSw)
                 (try go_split_ands)
                 go_simp
                 (first | done | with_reducible rfl))
          try simp only [Act.put, List.setIfInBounds_toArray, List.set_cons_zero, List.set_cons_succ]
          refine take_h 6 ⟨?_, ?_, ?_, by kernel_rfl, by kernel_rfl, by kernel_rfl, ?_, ?_, by assumption, ?_⟩
          rotate_left 2
          · (simp only [List.getElem?_toArray, List.getElem?_cons_succ, List.getElem?_cons_zero]; exact rfl)
          · exact fun _ _ _ h => h
          · first
              | (refine Or.inr ⟨by rfl, ?_⟩; exact rfl)
              | (refine Or.inl ⟨by rfl, ?_⟩
                 intro w hSw
                 (try dsimp only at hSw)
                 (try go_split_ands)
                 go_simp
                 (first | done | with_reducible rfl))
          try simp only [Act.put, List.setIfInBounds_toArray, List.set_cons_zero, List.set_cons_succ]
          refine take_h 7 ⟨?_, ?_, ?_, by kernel_rfl, by kernel_rfl, by kernel_rfl, ?_, ?_, by assumption, ?_⟩
          rotate_left 2
          · (simp only [List.getElem?_toArray, List.getElem?_cons_succ, List.getElem?_cons_zero]; exact rfl)
          · exact fun _ _ _ h => h
          · first
              | (refine Or.inr ⟨by rfl, ?_⟩; exact rfl)
              | (refine Or.inl ⟨by rfl, ?_⟩
                 intro w hSw
                 (try dsimp only at hSw)
                 (try go_split_ands)
                 go_simp
                 (first | done | with_reducible rfl))
          try simp only [Act.put, List.setIfInBounds_toArray, List.set_cons_zero, List.set_cons_succ]
          refine take_h 8 ⟨?_, ?_, ?_, by kernel_rfl, by kernel_rfl, by kernel_rfl, ?_, ?_, by assumption, ?_⟩
          rotate_left 2
          · (simp only [List.getElem?_toArray, List.getElem?_cons_succ, List.getElem?_cons_zero]; exact rfl)
          · exact fun _ _ _ h => h
          · first
              | (refine Or.inr ⟨by rfl, ?_⟩; exact rfl)
              | (refine Or.inl ⟨by rfl, ?_⟩
                 intro w hSw
                 (try dsimp only at hSw)
                 (try go_split_ands)
                 go_simp
                 (first | done | with_reducible rfl))
          try simp only [Act.put, List.setIfInBounds_toArray, List.set_cons_zero, List.set_cons_succ]
          refine take_h 9 ⟨?_, ?_, ?_, by kernel_rfl, by kernel_rfl, by kernel_rfl, ?_, ?_, by assumption, ?_⟩
          rotate_left 2
          · (simp only [List.getElem?_toArray, List.getElem?_cons_succ, List.getElem?_cons_zero]; exact rfl)
          · exact fun _ _ _ h => h
          · first
              | (refine Or.inr ⟨by rfl, ?_⟩; exact rfl)
              | (refine Or.inl ⟨by rfl, ?_⟩
                 intro w hSw
                 (try dsimp only at hSw)
                 (try go_split_ands)
                 go_simp
                 (first | done | with_reducible rfl))
          try simp only [Act.put, List.setIfInBounds_toArray, List.set_cons_zero, List.set_cons_succ]
          refine take_h 10 ⟨?_, ?_, ?_, by kernel_rfl, by kernel_rfl, by kernel_rfl, ?_, ?_, by assumption, ?_⟩
          rotate_left 2
          · (simp only [List.getElem?_toArray, List.getElem?_cons_succ, List.getElem?_cons_zero]; exact rfl)
          · exact fun _ _ _ h => h
          · first
              | (refine Or.inr ⟨by rfl, ?_⟩; exact rfl)
              | (refine Or.inl ⟨by rfl, ?_⟩
                 intro w hSw
                 (try dsimp only at hSw)
                 (try go_split_ands)
                 go_simp
                 (first | done | with_reducible rfl))
          try simp only [Act.put, List.setIfInBounds_toArray, List.set_cons_zero, List.set_cons_succ]
          refine take_h 11 ⟨?_, ?_, ?_, by kernel_rfl, by kernel_rfl, by kernel_rfl, ?_, ?_, by assumption, ?_⟩
          rotate_left 2
          · (simp only [List.getElem?_toArray, List.getElem?_cons_succ, List.getElem?_cons_zero]; exact rfl)
          · exact fun _ _ _ h => h
          · first
              | (refine Or.inr ⟨by rfl, ?_⟩; exact rfl)
              | (refine Or.inl ⟨by rfl, ?_⟩
                 intro w hSw
                 (try dsimp only at hSw)
                 (try go_split_ands)
                 go_simp
                 (first | done | with_reducible rfl))
          try simp only [Act.put, List.setIfInBounds_toArray, List.set_cons_zero, List.set_cons_succ]
          refine take_h 12 ⟨?_, ?_, ?_, by kernel_rfl, by kernel_rfl, by kernel_rfl, ?_, ?_, by assumption, ?_⟩
          rotate_left 2
          · (simp only [List.getElem?_toArray, List.getElem?_cons_succ, List.getElem?_cons_zero]; exact rfl)
          · exact fun _ _ _ h => h
          · first
              | (refine Or.inr ⟨by rfl, ?_⟩; exact rfl)
              | (refine Or.inl ⟨by rfl, ?_⟩
                 intro w hSw
                 (try dsimp only at hSw)
                 (try go_split_ands)
                 go_simp
                 (first | done | with_reducible rfl))
          try simp only [Act.put, List.setIfInBounds_toArray, List.set_cons_zero, List.set_cons_succ]
          refine take_h 13 ⟨?_, ?_, ?_, by kernel_rfl, by kernel_rfl, by kernel_rfl, ?_, ?_, by assumption, ?_⟩
          rotate_left 2
          · (simp only [List.getElem?_toArray, List.getElem?_cons_succ, List.getElem?_cons_zero]; exact rfl)
          · exact fun _ _ _ h => h
          · first
              | (refine Or.inr ⟨by rfl, ?_⟩; exact rfl)
              | (refine Or.inl ⟨by rfl, ?_⟩
                 intro w hSw
                 (try dsimp only at hSw)
                 (try go_split_ands)
                 go_simp
                 (first | done | with_reducible rfl))
          try simp only [Act.put, List.setIfInBounds_toArray, List.set_cons_zero, List.set_cons_succ]
          refine take_h 14 ⟨?_, ?_, ?_, by kernel_rfl, by kernel_rfl, by kernel_rfl, ?_, ?_, by assumption, ?_⟩
          rotate_left 2
          · (simp only [List.getElem?_toArray, List.getElem?_cons_succ, List.getElem?_cons_zero]; exact rfl)
          · exact fun _ _ _ h => h
          · first
              | (refine Or.inr ⟨by rfl, ?_⟩; exact rfl)
              | (refine Or.inl ⟨by rfl, ?_⟩
                 intro w hSw
                 (try dsimp only at hSw)
                 (try go_split_ands)
                 go_simp
                 (first | done | with_reducible rfl))
          try simp only [Act.put, List.setIfInBounds_toArray, List.set_cons_zero, List.set_cons_succ]
          refine take_h 15 ⟨?_, ?_, ?_, by kernel_rfl, by kernel_rfl, by kernel_rfl, ?_, ?_, by assumption, ?_⟩
          rotate_left 2
          · (simp only [List.getElem?_toArray, List.getElem?_cons_succ, List.getElem?_cons_zero]; exact rfl)
          · exact fun _ _ _ h => h
          · first
              | (refine Or.inr ⟨by rfl, ?_⟩; exact rfl)
              | (refine Or.inl ⟨by rfl, ?_⟩
                 intro w hSw
                 (try dsimp only at hSw)
                 (try go_split_ands)
                 go_simp
                 (first | done | with_reducible rfl))
          try simp only [Act.put, List.setIfInBounds_toArray, List.set_cons_zero, List.set_cons_succ]
          refine take_h 16 ⟨?_, ?_, ?_, by kernel_rfl, by kernel_rfl, by kernel_rfl, ?_, ?_, by assumption, ?_⟩
          rotate_left 2
          · (simp only [List.getElem?_toArray, List.getElem?_cons_succ, List.getElem?_cons_zero]; exact rfl)
          · exact fun _ _ _ h => h
          · first
              | (refine Or.inr ⟨by rfl, ?_⟩; exact rfl)
              | (refine Or.inl ⟨by rfl, ?_⟩
                 intro w hSw
                 (try dsimp only at hSw)
                 (try go_split_ands)
                 go_simp
                 (first | done | with_reducible rfl))
          try simp only [Act.put, List.setIfInBounds_toArray, List.set_cons_zero, List.set_cons_succ]
          refine take_h 17 ⟨?_, ?_, ?_, by kernel_rfl, by kernel_rfl, by kernel_rfl, ?_, ?_, by assumption, ?_⟩
          rotate_left 2
          · (simp only [List.getElem?_toArray, List.getElem?_cons_succ, List.getElem?_cons_zero]; exact rfl)
          · exact fun _ _ _ h => h
          · first
              | (refine Or.inr ⟨by rfl, ?_⟩; exact rfl)
              | (refine Or.inl ⟨by rfl, ?_⟩
                 intro w hSw
                 (try dsimp only at hSw)
                 (try go_split_ands)
                 go_simp
                 (first | done | with_reducible rfl))
          try simp only [Act.put, List.setIfInBounds_toArray, List.set_cons_zero, List.set_cons_succ]
          refine take_h 18 ⟨?_, ?_, ?_, by kernel_rfl, by kernel_rfl, by kernel_rfl, ?_, ?_, by assumption, ?_⟩
          rotate_left 2
          · (simp only [List.getElem?_toArray, List.getElem?_cons_succ, List.getElem?_cons_zero]; exact rfl)
          · exact fun _ _ _ h => h
          · first
              | (refine Or.inr ⟨by rfl, ?_⟩; exact rfl)
              | (refine Or.inl ⟨by rfl, ?_⟩
                 intro w hSw
                 (try dsimp only at hSw)
                 (try go_split_ands)
                 go_simp
                 (first | done | with_reducible rfl))
          try simp only [Act.put, List.setIfInBounds_toArray, List.set_cons_zero, List.set_cons_succ]
          refine take_h 19 ⟨?_, ?_, ?_, by kernel_rfl, by kernel_rfl, by kernel_rfl, ?_, ?_, by assumption, ?_⟩
          rotate_left 2
          · (simp only [List.getElem?_toArray, List.getElem?_cons_succ, List.getElem?_cons_zero]; exact rfl)
          · exact fun _ _ _ h => h
          · first
              | (refine Or.inr ⟨by rfl, ?_⟩; exact rfl)
              | (refine Or.inl ⟨by rfl, ?_⟩
                 intro w hSw
                 (try dsimp only at hSw)
                 (try go_split_ands)
                 go_simp
                 (first | done | with_reducible rfl))
          try simp only [Act.put, List.setIfInBounds_toArray, List.set_cons_zero, List.set_cons_succ]
          refine take_h 20 ⟨?_, ?_, ?_, by kernel_rfl, by kernel_rfl, by kernel_rfl, ?_, ?_, by assumption, ?_⟩
          rotate_left 2
          · (simp only [List.getElem?_toArray, List.getElem?_cons_succ, List.getElem?_cons_zero]; exact rfl)
          · exact fun _ _ _ h => h
          · first
              | (refine Or.inr ⟨by rfl, ?_⟩; exact rfl)
              | (refine Or.inl ⟨by rfl, ?_⟩
                 intro w hSw
                 (try dsimp only at hSw)
                 (try go_split_ands)
                 go_simp
                 (first | done | with_reducible rfl))
          try simp only [Act.put, List.setIfInBounds_toArray, List.set_cons_zero, List.set_cons_succ]
          refine take_h 21 ⟨?_, ?_, ?_, by kernel_rfl, by kernel_rfl, by kernel_rfl, ?_, ?_, by assumption, ?_⟩
          rotate_left 2
          · (simp only [List.getElem?_toArray, List.getElem?_cons_succ, List.getElem?_cons_zero]; exact rfl)
          · exact fun _ _ _ h => h
          · first
              | (refine Or.inr ⟨by rfl, ?_⟩; exact rfl)
              | (refine Or.inl ⟨by rfl, ?_⟩
                 intro w hSw
                 (try dsimp only at hSw)
                 (try go_split_ands)
                 go_simp
                 (first | done | with_reducible rfl))
          try simp only [Act.put, List.setIfInBounds_toArray, List.set_cons_zero, List.set_cons_succ]
          refine take_h 22 ⟨?_, ?_, ?_, by kernel_rfl, by kernel_rfl, by kernel_rfl, ?_, ?_, by assumption, ?_⟩
          rotate_left 2
          · (simp only [List.getElem?_toArray, List.getElem?_cons_succ, List.getElem?_cons_zero]; exact rfl)
          · exact fun _ _ _ h => h
          · first
              | (refine Or.inr ⟨by rfl, ?_⟩; exact rfl)
              | (refine Or.inl ⟨by rfl, ?_⟩
                 intro w hSw
                 (try dsimp only at hSw)
                 (try go_split_ands)
                 go_simp
                 (first | done | with_reducible rfl))
          try simp only [Act.put, List.setIfInBounds_toArray, List.set_cons_zero, List.set_cons_succ]
          refine take_h 23 ⟨?_, ?_, ?_, by kernel_rfl, by kernel_rfl, by kernel_rfl, ?_, ?_, by assumption, ?_⟩
          rotate_left 2
          · (simp only [List.getElem?_toArray, List.getElem?_cons_succ, List.getElem?_cons_zero]; exact rfl)
          · exact fun _ _ _ h => h
          · first
              | (refine Or.inr ⟨by rfl, ?_⟩; exact rfl)
              | (refine Or.inl ⟨by rfl, ?_⟩
                 intro w hSw
                 (try dsimp only at hSw)
                 (try go_split_ands)
                 go_simp
                 (first | done | with_reducible rfl))
          try simp only [Act.put, List.setIfInBounds_toArray, List.set_cons_zero, List.set_cons_succ]
          refine take_h 24 ⟨?_, ?_, ?_, by kernel_rfl, by kernel_rfl, by kernel_rfl, ?_, ?_, by assumption, ?_⟩
          rotate_left 2
          · (simp only [List.getElem?_toArray, List.getElem?_cons_succ, List.getElem?_cons_zero]; exact rfl)
          · exact fun _ _ _ h => h
          · first
              | (refine Or.inr ⟨by rfl, ?_⟩; exact rfl)
              | (refine Or.inl ⟨by rfl, ?_⟩
                 intro w hSw
                 (try dsimp only at hSw)
                 (try go_split_ands)
                 go_simp
                 (first | done | with_reducible rfl))
          try simp only [Act.put, List.setIfInBounds_toArray, List.set_cons_zero, List.set_cons_succ]
          refine take_h 25 ⟨?_, ?_, ?_, by kernel_rfl, by kernel_rfl, by kernel_rfl, ?_, ?_, by assumption, ?_⟩
          rotate_left 2
          · (simp only [List.getElem?_toArray, List.getElem?_cons_succ, List.getElem?_cons_zero]; exact rfl)
          · exact fun _ _ _ h => h
          · first
              | (refine Or.inr ⟨by rfl, ?_⟩; exact rfl)
              | (refine Or.inl ⟨by rfl, ?_⟩
                 intro w hSw
                 (try dsimp only at hSw)
                 (try go_split_ands)
                 go_simp
                 (first | done | with_reducible rfl))
          try simp only [Act.put, List.setIfInBounds_toArray, List.set_cons_zero, List.set_cons_succ]
          refine take_h 26 ⟨?_, ?_, ?_, by kernel_rfl, by kernel_rfl, by kernel_rfl, ?_, ?_, by assumption, ?_⟩
          rotate_left 2
          · (simp only [List.getElem?_toArray, List.getElem?_cons_succ, List.getElem?_cons_zero]; exact rfl)
          · exact fun _ _ _ h => h
          · first
              | (refine Or.inr ⟨by rfl, ?_⟩; exact rfl)
              | (refine Or.inl ⟨by rfl, ?_⟩
                 intro w hSw
                 (try dsimp only at hSw)
                 (try go_split_ands)
                 go_simp
                 (first | done | with_reducible rfl))
          try simp only [Act.put, List.setIfInBounds_toArray, List.set_cons_zero, List.set_cons_succ]
          have hBL : (descsB B L own L.length).length ≤ 65536 := by rw [descsB_length]; exact hB
          refine wpAnyH_ready (rs := [27]) (by kernel_rfl) (by simp) ?_
          refine call_h 27 ⟨?_, ?_, fun K hK => ?_⟩
          rotate_left 1
          · (simp only [List.getElem?_toArray, List.getElem?_cons_succ, List.getElem?_cons_zero]; exact rfl)
          go_simp
          (go_at_call 72; refine (hput_any _ D _ m d false wrt rd _ _ _ o0 HD4.out.drew HM4.out.drew hBL (by omega)).mono ?_; rintro e wp5 ⟨rfl, hmP, hlP⟩)
          go_wp2_with fail
          have hl5 : Left [d] wm4 wp5 := ⟨hlP.os, hlP.tape, hlP.output, hlP.size, hlP.block⟩
          have j0' := cell_left j0 hl5 (by simp [hDd])
          have j1' := cell_left j1 hl5 (by simp [hDd])
          have j6' := cell_left j6 hl5 (by simp [hDd])
          have jc' := cell_left jc hl5 (by simp; omega)
          have HM5 := Lib.hid hmP
          have HL5 := Lib.hid hl5
          have HW5 := Lib.hid (HW4.out.left hl5 (by simp [hDd]))
          clear hmP hlP hl5 j0 j1 j6 jc
          refine hK.out _ _ ⟨j0', j1', j6', jc'⟩ (fun hHeld => ?_)
          clear hK K
          (try simp only [Act.put, List.setIfInBounds_toArray, List.set_cons_zero, List.set_cons_succ])
          refine wpAnyH_done (by kernel_rfl) ?_ _
          clear hHeld htm hw1 hw2 hw3
          have z6 := HW5.out.free 6
          go_upto_region 32 with fail
          have hwt : ((wrt : Int) + 1) % 65536 = (((wrt + 1) % 65536 : Nat) : Int) := by omega
          rw [hwt]
          obtain ⟨wn, hwn⟩ : ∃ wn : Nat, (wrt + 1) % 65536 = wn := ⟨_, rfl⟩
          rw [hwn]
          have hwn2 : wn ≤ 65535 := by omega
          obtain ⟨wp6, hwp6⟩ : ∃ wp6, wp6 = wp5.setCell ⟨D, 6, none⟩ (.int .i64 wn) := ⟨_, rfl⟩
          rw [← hwp6]
          have hl6 : Left [D] wp5 wp6 := hwp6 ▸ (Left.refl _ _).setCell (Or.inl (by simp)) _
          have hW6 : Whole wp6 D 123 (halfCells (bz.length : Nat) m false wn rd ++ [.slice (some ⟨bs, 0, none⟩) bz.length bz.length, .map (some bw), .map (some bl)]) := by
            have := HW5.out.put 6 (.int .i64 wn)
            rw [← hwp6] at this
            exact this
          have HW6 := Lib.hid hW6
          have i1 : wp6.cell? ⟨D, 1, none⟩ = some (.int .i64 (16 * (bz.length : Nat))) := by rw [hW6.cell]; rfl
          have i6 : wp6.cell? ⟨D, 6, none⟩ = some (.int .i64 wn) := by rw [hW6.cell]; rfl
          have ic := cell_left jc' hl6 (by simp; omega)
          have HM6 := Lib.hid (HM5.out.left hl6 (by simp [hDm.symm]) (by simp [hDd.symm]))
          have HD6 := Lib.hid (HalfC.of_whole hW6)
          have HL6 := Lib.hid hl6
          have HWN := Lib.hid hwn
          have hw4 : IntKind.i64.wrap (16 * (bz.length : Int) + 2) = 16 * (bz.length : Int) + 2 := IntWalk.i64_in _ ⟨by omega, by omega⟩
          clear hwt hwn hwp6 hl6 hW6 z6 j0' j1' j6' jc'
          refine wp_region_held_drew (S := fun wx => wx.cell? ⟨D, 1, none⟩ = some (.int .i64 (16 * (bz.length : Nat))) ∧ wx.cell? ⟨D, 6, none⟩ = some (.int .i64 wn) ∧ wx.cell? ⟨g, 0, none⟩ = some (.int .i64 o0)) (by kernel_rfl) ⟨i1, i6, ic⟩ (fun hHeld => ?_)
          refine take_h 0 ⟨?_, ?_, ?_, by kernel_rfl, by kernel_rfl, by kernel_rfl, ?_, ?_, by assumption, ?_⟩
          rotate_left 2
          · (simp only [List.getElem?_toArray, List.getElem?_cons_zero]; exact rfl)
          · exact fun _ _ _ h => h
          · first
              | (refine Or.inr ⟨by rfl, ?_⟩; exact rfl)
              | (refine Or.inl ⟨by rfl, ?_⟩
                 intro w hSw
                 (try dsimp only at hSw)
                 (try go_split_ands)
                 go_simp
                 (first | done | with_reducible rfl))
          try simp only [Act.put, List.setIfInBounds_toArray, List.set_cons_zero, List.set_cons_succ]
          refine take_h 1 ⟨?_, ?_, ?_, by kernel_rfl, by kernel_rfl, by kernel_rfl, ?_, ?_, by assumption, ?_⟩
          rotate_left 2
          · (simp only [List.getElem?_toArray, List.getElem?_cons_succ, List.getElem?_cons_zero]; exact rfl)
          · exact fun _ _ _ h => h
          · first
              | (refine Or.inr ⟨by rfl, ?_⟩; exact rfl)
              | (refine Or.inl ⟨by rfl, ?_⟩
                 intro w hSw
                 (try dsimp only at hSw)
                 (try go_split_ands)
                 go_simp
                 (first | done | with_reducible rfl))
          try simp only [Act.put, List.setIfInBounds_toArray, List.set_cons_zero, List.set_cons_succ]
          refine take_h 2 ⟨?_, ?_, ?_, by kernel_rfl, by kernel_rfl, by kernel_rfl, ?_, ?_, by assumption, ?_⟩
          rotate_left 2
          · (simp only [List.getElem?_toArray, List.getElem?_cons_succ, List.getElem?_cons_zero]; exact rfl)
          · exact fun _ _ _ h => h
          · first
              | (refine Or.inr ⟨by rfl, ?_⟩; exact rfl)
              | (refine Or.inl ⟨by rfl, ?_⟩
                 intro w hSw
                 (try dsimp only at hSw)
                 (try go_split_ands)
                 go_simp
                 (first | done | with_reducible rfl))
          try simp only [Act.put, List.setIfInBounds_toArray, List.set_cons_zero, List.set_cons_succ]
          refine take_h 3 ⟨?_, ?_, ?_, by kernel_rfl, by kernel_rfl, by kernel_rfl, ?_, ?_, by assumption, ?_⟩
          rotate_left 2
          · (simp only [List.getElem?_toArray, List.getElem?_cons_succ, List.getElem?_cons_zero]; exact rfl)
          · exact fun _ _ _ h => h
          · first
              | (refine Or.inr ⟨by rfl, ?_⟩; exact rfl)
              | (refine Or.inl ⟨by rfl, ?_⟩
                 intro w hSw
                 (try dsimp only at hSw)
                 (try go_split_ands)
                 go_simp
                 (first | done | with_reducible rfl))
          try simp only [Act.put, List.setIfInBounds_toArray, List.set_cons_zero, List.set_cons_succ]
          refine take_h 4 ⟨?_, ?_, ?_, by kernel_rfl, by kernel_rfl, by kernel_rfl, ?_, ?_, by assumption, ?_⟩
          rotate_left 2
          · (simp only [List.getElem?_toArray, List.getElem?_cons_succ, List.getElem?_cons_zero]; exact rfl)
          · exact fun _ _ _ h => h
          · first
              | (refine Or.inr ⟨by rfl, ?_⟩; exact rfl)
              | (refine Or.inl ⟨by rfl, ?_⟩
                 intro w hSw
                 (try dsimp only at hSw)
                 (try go_split_ands)
                 go_simp
                 (first | done | with_reducible rfl))
          try simp only [Act.put, List.setIfInBounds_toArray, List.set_cons_zero, List.set_cons_succ]
          refine take_h 5 ⟨?_, ?_, ?_, by kernel_rfl, by kernel_rfl, by kernel_rfl, ?_, ?_, by assumption, ?_⟩
          rotate_left 2
          · (simp only [List.getElem?_toArray, List.getElem?_cons_succ, List.getElem?_cons_zero]; exact rfl)
          · exact fun _ _ _ h => h
          · first
              | (refine Or.inr ⟨by rfl, ?_⟩; exact rfl)
              | (refine Or.inl ⟨by rfl, ?_⟩
                 intro w hSw
                 (try dsimp only at hSw)
                 (try go_split_ands)
                 go_simp
                 (first | done | with_reducible rfl))
          try simp only [Act.put, List.setIfInBounds_toArray, List.set_cons_zero, List.set_cons_succ]
          refine take_h 6 ⟨?_, ?_, ?_, by kernel_rfl, by kernel_rfl, by kernel_rfl, ?_, ?_, by assumption, ?_⟩
          rotate_left 2
          · (simp only [List.getElem?_toArray, List.getElem?_cons_succ, List.getElem?_cons_zero]; exact rfl)
          · exact fun _ _ _ h => h
          · first
              | (refine Or.inr ⟨by rfl, ?_⟩; exact rfl)
              | (refine Or.inl ⟨by rfl, ?_⟩
                 intro w hSw
                 (try dsimp only at hSw)
                 (try go_split_ands)
                 go_simp
                 (first | done | with_reducible rfl))
          try simp only [Act.put, List.setIfInBounds_toArray, List.set_cons_zero, List.set_cons_succ]
          refine take_h 7 ⟨?_, ?_, ?_, by kernel_rfl, by kernel_rfl, by kernel_rfl, ?_, ?_, by assumption, ?_⟩
          rotate_left 2
          · (simp only [List.getElem?_toArray, List.getElem?_cons_succ, List.getElem?_cons_zero]; exact rfl)
          · exact fun _ _ _ h => h
          · first
              | (refine Or.inr ⟨by rfl, ?_⟩; exact rfl)
              | (refine Or.inl ⟨by rfl, ?_⟩
                 intro w hSw
                 (try dsimp only at hSw)
                 (try go_split_ands)
                 go_simp
                 (first | done | with_reducible rfl))
          try simp only [Act.put, List.setIfInBounds_toArray, List.set_cons_zero, List.set_cons_succ]
          refine take_h 8 ⟨?_, ?_, ?_, by kernel_rfl, by kernel_rfl, by kernel_rfl, ?_, ?_, by assumption, ?_⟩
          rotate_left 2
          · (simp only [List.getElem?_toArray, List.getElem?_cons_succ, List.getElem?_cons_zero]; exact rfl)
          · exact fun _ _ _ h => h
          · first
              | (refine Or.inr ⟨by rfl, ?_⟩; exact rfl)
              | (refine Or.inl ⟨by rfl, ?_⟩
                 intro w hSw
                 (try dsimp only at hSw)
                 (try go_split_ands)
                 go_simp
                 (first | done | with_reducible rfl))
          try simp only [Act.put, List.setIfInBounds_toArray, List.set_cons_zero, List.set_cons_succ]
          refine take_h 9 ⟨?_, ?_, ?_, by kernel_rfl, by kernel_rfl, by kernel_rfl, ?_, ?_, by assumption, ?_⟩
          rotate_left 2
          · (simp only [List.getElem?_toArray, List.getElem?_cons_succ, List.getElem?_cons_zero]; exact rfl)
          · exact fun _ _ _ h => h
          · first
              | (refine Or.inr ⟨by rfl, ?_⟩; exact rfl)
              | (refine Or.inl ⟨by rfl, ?_⟩
                 intro w hSw
                 (try dsimp only at hSw)
                 (try go_split_ands)
                 go_simp
                 (first | done | with_reducible rfl))
          try simp only [Act.put, List.setIfInBounds_toArray, List.set_cons_zero, List.set_cons_succ]
          refine take_h 10 ⟨?_, ?_, ?_, by kernel_rfl, by kernel_rfl, by kernel_rfl, ?_, ?_, by assumption, ?_⟩
          rotate_left 2
          · (simp only [List.getElem?_toArray, List.getElem?_cons_succ, List.getElem?_cons_zero]; exact rfl)
          · exact fun _ _ _ h => h
          · first
              | (refine Or.inr ⟨by rfl, ?_⟩; exact rfl)
              | (refine Or.inl ⟨by rfl, ?_⟩
                 intro w hSw
                 (try dsimp only at hSw)
                 (try go_split_ands)
                 go_simp
                 (first | done | with_reducible rfl))
          try simp only [Act.put, List.setIfInBounds_toArray, List.set_cons_zero, List.set_cons_succ]
          refine take_h 11 ⟨?_, ?_, ?_, by kernel_rfl, by kernel_rfl, by kernel_rfl, ?_, ?_, by assumption, ?_⟩
          rotate_left 2
          · (simp only [List.getElem?_toArray, List.getElem?_cons_succ, List.getElem?_cons_zero]; exact rfl)
          · exact fun _ _ _ h => h
          · first
              | (refine Or.inr ⟨by rfl, ?_⟩; exact rfl)
              | (refine Or.inl ⟨by rfl, ?_⟩
                 intro w hSw
                 (try dsimp only at hSw)
                 (try go_split_ands)
                 go_simp
                 (first | done | with_reducible rfl))
          try simp only [Act.put, List.setIfInBounds_toArray, List.set_cons_zero, List.set_cons_succ]
          refine take_h 12 ⟨?_, ?_, ?_, by kernel_rfl, by kernel_rfl, by kernel_rfl, ?_, ?_, by assumption, ?_⟩
          rotate_left 2
          · (simp only [List.getElem?_toArray, List.getElem?_cons_succ, List.getElem?_cons_zero]; exact rfl)
          · exact fun _ _ _ h => h
          · first
              | (refine Or.inr ⟨by rfl, ?_⟩; exact rfl)
              | (refine Or.inl ⟨by rfl, ?_⟩
                 intro w hSw
                 (try dsimp only at hSw)
                 (try go_split_ands)
                 go_simp
                 (first | done | with_reducible rfl))
          try simp only [Act.put, List.setIfInBounds_toArray, List.set_cons_zero, List.set_cons_succ]
          refine take_h 13 ⟨?_, ?_, ?_, by kernel_rfl, by kernel_rfl, by kernel_rfl, ?_, ?_, by assumption, ?_⟩
          rotate_left 2
          · (simp only [List.getElem?_toArray, List.getElem?_cons_succ, List.getElem?_cons_zero]; exact rfl)
          · exact fun _ _ _ h => h
          · first
              | (refine Or.inr ⟨by rfl, ?_⟩; exact rfl)
              | (refine Or.inl ⟨by rfl, ?_⟩
                 intro w hSw
                 (try dsimp only at hSw)
                 (try go_split_ands)
                 go_simp
                 (first | done | with_reducible rfl))
          try simp only [Act.put, List.setIfInBounds_toArray, List.set_cons_zero, List.set_cons_succ]
          refine take_h 14 ⟨?_, ?_, ?_, by kernel_rfl, by kernel_rfl, by kernel_rfl, ?_, ?_, by assumption, ?_⟩
          rotate_left 2
          · (simp only [List.getElem?_toArray, List.getElem?_cons_succ, List.getElem?_cons_zero]; exact rfl)
          · exact fun _ _ _ h => h
          · first
              | (refine Or.inr ⟨by rfl, ?_⟩; exact rfl)
              | (refine Or.inl ⟨by rfl, ?_⟩
                 intro w hSw
                 (try dsimp only at hSw)
                 (try go_split_ands)
                 go_simp
                 (first | done | with_reducible rfl))
          try simp only [Act.put, List.setIfInBounds_toArray, List.set_cons_zero, List.set_cons_succ]
          refine wpAnyH_ready (rs := [15]) (by kernel_rfl) (by simp) ?_
          refine call_h 15 ⟨?_, ?_, fun K hK => ?_⟩
          rotate_left 1
          · (simp only [List.getElem?_toArray, List.getElem?_cons_succ, List.getElem?_cons_zero]; exact rfl)
          go_simp
          (go_at_call 72; refine (hput_any _ D _ m d false wn rd _ _ _ wn HD6.out.drew HM6.out.drew (by rw [putV_length]; exact hBL) (by omega)).mono ?_; rintro e wp7 ⟨rfl, hmP, hlP⟩)
          go_wp2_with fail
          have hl7 : Left [d] wp6 wp7 := ⟨hlP.os, hlP.tape, hlP.output, hlP.size, hlP.block⟩
          have n1 := cell_left i1 hl7 (by simp [hDd])
          have n6 := cell_left i6 hl7 (by simp [hDd])
          have nc := cell_left ic hl7 (by simp; omega)
          have HM7 := Lib.hid hmP
          have HL7 := Lib.hid hl7
          clear hmP hlP hl7 i1 i6 ic
          refine hK.out _ _ ⟨n1, n6, nc⟩ (fun hHeld => ?_)
          clear hK K
          (try simp only [Act.put, List.setIfInBounds_toArray, List.set_cons_zero, List.set_cons_succ])
          refine wpAnyH_done (by kernel_rfl) ?_ _
          clear hHeld hw4
          go_wp2
          go_ret2
          have hTO := HT.out
          rw [← hTO]
          have hLw : Left [D, d, bs, bw, bl] w wa := ((Left.of_below hb []).trans (T := []) (Left.of_below hbe []) (by simp)).mono (by simp)
          have hLa : Left [D, d, bs, bw, bl] wa wp7 := ((((HLj.out.mono (T := [D, d, bs, bw, bl]) (by simp)).trans (T := [bw, bl]) HL04.out (by simp)).trans (T := [d]) HL5.out (by simp)).trans (T := [D]) HL6.out (by simp)).trans (T := [d]) HL7.out (by simp)
          have hLt : Left [D, d, bs, bw, bl] w wp7 := hLw.trans (T := [D, d, bs, bw, bl]) hLa (by simp)
          have hMap : IMap wp7 bw (W ++ [((o0 : Int), .slice (some ⟨g, 0, none⟩) L.length gcap)]) := ((HWP4.out.left HL5.out (by simp [hbw1])).left HL6.out (by simp [hDw.symm])).left HL7.out (by simp [hbw1])
          refine ⟨o0, HO0.out, rfl, ⟨?_, ?_, ⟨W ++ [((o0 : Int), .slice (some ⟨g, 0, none⟩) L.length gcap)], ?_, ?_⟩, ?_, HNE.out, ?_⟩, ?_, hLt, ?_⟩
          · rw [setAll_length, HWN.out]
            exact HW6.out.left HL7.out (by simp [hDd])
          · exact (((HSj.out.left HL04.out (by simp [hbw2.symm, hbl2.symm])).left HL5.out (by simp [hdb.symm])).left HL6.out (by simp [hDb.symm])).left HL7.out (by simp [hdb.symm])
          · exact hMap
          · refine way_snoc (hWA.left hLt ?_) rfl ?_
            · intro k hk
              simp only [List.mem_cons, List.mem_nil_iff, or_false] at hk
              rcases hk with rfl | rfl | rfl | rfl | rfl
              · exact NoInt.of_whole HW.out (by decide)
              · exact NoInt.of_whole HM.out.bytes (by decide)
              · exact NoInt.of_whole HS.out (by decide)
              · exact NoInt.of_imap hWI
              · exact NoInt.of_imap HLS0.out
            · unfold OwnI
              rw [hlen]
              refine own_base (own_left HO.out hLa ?_) (Nat.zero_le _)
              intro k hk
              simp only [List.mem_cons, List.mem_nil_iff, or_false] at hk
              rcases hk with rfl | rfl | rfl | rfl | rfl <;> omega
          · unfold leastV
            rw [List.map_append]
            exact ((HLP.out.left HL5.out (by simp [hbl1])).left HL6.out (by simp [hDl.symm])).left HL7.out (by simp [hbl1])
          · rw [setAll_length]
          · unfold addB
            rw [HRR.out, HWN.out]
            exact HM7.out
          · intro k hk hno W' hW' p hp
            rw [imap_uniq hW' hMap] at hp
            rcases List.mem_append.1 hp with hp | hp
            · exact hno W hWI p hp
            · simp only [List.mem_singleton] at hp
              subst hp
              intro e
              have e' : g = k := by simpa [Value.ownBlock] using e
              have h1 := hb.size
              have h2 : k < w.heap.size := hk
              omega
end Go.Proofs.Ytfffehbipcikoaa
