/- The page's ring: Add, where it takes the chain. -/


import Derived.Test.YtfffehbipcikoaaRgRef8
namespace Go.Proofs.Ytfffehbipcikoaa
open Go.RowKit

def AddP (w : World) (R bt bc bw m d q : Nat) (added last : Nat) (tk : List Bool) (ch : List (List Nat)) (ws : List Int) (F : List Nat) (B : List UInt8) (L : List Buf) (e : Ending) (w' : World) : Prop :=
  ∃ o0 g : Nat, (takes tk L.length)[0]? = some o0 ∧ e = .returned (.tuple #[.int .i64 o0, .int .i64 0]) ∧ w.heap.size ≤ g ∧ g < w'.heap.size ∧
    RefAt w' R bt bc bw m q false ((added + 1) % 65536) last (setAll tk (takes tk L.length) true) (ch.set o0 (takes tk L.length)) (ws.set o0 (wsum L)) (g :: F) ∧
    MemAt 52 w' m d (addB B L (takes tk L.length) o0 q added) ∧ Left [R, bt, bc, bw, d] w w'
set_option maxRecDepth 20000 in
set_option maxHeartbeats 8000000 in
theorem rAdd_ok (w : World) (R bt bc bw m d q : Nat) (added last : Nat) (tk : List Bool) (ch : List (List Nat)) (ws : List Int) (F : List Nat) (B : List UInt8) (v : Value) (L : List Buf) (h : RefAt w R bt bc bw m q false added last tk ch ws F) (hM : MemAt 52 w m d B) (hB : B.length ≤ 65536) (hr : added ≤ 65535) (hq : 1 ≤ q ∧ q ≤ 64) (hL : Rd w w.heap.size 3 v L.length (bufCells L)) (hx : bufsB L = true) (hf : L.length ≤ freeN tk) (hdF : d ∉ F) (hFl : ∀ k ∈ F, k < w.heap.size) (hn1 : v.ownBlock ≠ some d) (hn2 : v.ownBlock ≠ some bt) :
    Calls Try.prog 80 #[.pointer (some ⟨R, 0, none⟩), v] w (AddP w R bt bc bw m d q added last tk ch ws F B L) := by
  have c9 : w.cell? ⟨R, 9, none⟩ = some (.bool false) := by rw [h.head.cell]; rfl
  have HC : Hid (Calls Try.prog 44 #[v] w fun e w' => e = .returned (.bool true) ∧ Below w.heap.size w w') := Lib.hid ((rBufs_any w v L _ hL (Nat.le_refl _)).mono fun e w' ⟨h1, h2⟩ => ⟨by rw [h1, hx], h2⟩)
  obtain ⟨ao, cap, rfl, hcp, hmx⟩ := hL.form
  have hcp2 : cap ≤ 9223372036854775807 := by unfold maxLen at hmx; omega
  have HR := Lib.hid h
  have HM := Lib.hid hM
  have HL := Lib.hid hL
  have HX := Lib.hid hx
  have HFl := Lib.hid hFl
  obtain ⟨fn, hfn⟩ : ∃ fn, freeN tk = fn := ⟨_, rfl⟩
  rw [hfn] at hf
  have HFN := Lib.hid hfn
  have hf' : ¬ (fn : Int) < (L.length : Int) := by omega
  have hL1 : 1 ≤ L.length := by simp [bufsB] at hx; omega
  have hL2 : L.length ≤ 16 := by simp [bufsB] at hx; omega
  clear h hL hx hfn hM hFl hmx
  go_enter Try.func80, Try.ntmps80
  go_wp2_with fail
  refine HC.out.mono ?_
  rintro e w1 ⟨rfl, hb⟩
  have HF : Hid (Calls Try.prog 81 #[.pointer (some ⟨R, 0, none⟩)] w1 fun e w' => e = .returned (.int .i64 (fn : Nat)) ∧ w1 = w') := Lib.hid ((rFree_any _ _ _ _ _ _ _ _ _ _ _ _ _ _ (HR.out.below hb) hq.2).mono fun e w' ⟨h1, h2⟩ => ⟨by rw [h1, HFN.out], h2.symm⟩)
  go_wp2_with fail
  refine HF.out.mono ?_
  rintro e w' ⟨rfl, rfl⟩
  clear HF HC c9
  have HR1 := Lib.hid (HR.out.below hb)
  have HM1 := Lib.hid (HM.out.belowH hb)
  have HL1 := Lib.hid (HL.out.below hb)
  have hz1 := hb.size
  obtain ⟨C, hC, hCr⟩ := HR1.out.chain
  have HC1 := Lib.hid hC
  have HCr1 := Lib.hid hCr
  have hRd : R ≠ d := HR1.out.head.ne HM1.out.bytes (by decide)
  have hRm : R ≠ m := HR1.out.head.ne HM1.out.head (by decide)
  have hbtd : bt ≠ d := HR1.out.taken.ne HM1.out.bytes (by decide)
  have hbtm : bt ≠ m := HR1.out.taken.ne HM1.out.head (by decide)
  have hbcd : bc ≠ d := hC.ne HM1.out.bytes (by decide)
  have hbcm : bc ≠ m := hC.ne HM1.out.head (by decide)
  have hbwd : bw ≠ d := HR1.out.writes.ne HM1.out.bytes (by decide)
  have hbwm : bw ≠ m := HR1.out.writes.ne HM1.out.head (by decide)
  obtain ⟨n1, n2, n3, n4, n5, n6⟩ := HR1.out.nes
  have hlen := HR1.out.len.1
  have lR := HR1.out.head.lt
  have lt_ := HR1.out.taken.lt
  have lc := hC.lt
  have lw := HR1.out.writes.lt
  have ld := HM1.out.bytes.lt
  have lm := HM1.out.head.lt
  have c6 : w1.cell? ⟨R, 6, none⟩ = some (.slice (some ⟨bt, 0, none⟩) q q) := by rw [HR1.out.head.cell]; rfl
  have HBel := Lib.hid hb
  clear hC hCr hb
  go_wp2
  rw [decide_eq_false (show ¬ (fn < L.length) by omega)]
  go_loopw [6, 7] (fun v i wx => ∃ k : Nat, k ≤ q ∧ i = .int .i64 k ∧ (freeFrom 0 (tk.take k)).length ≤ L.length ∧ wx.ownsRow w1.heap.size 3 1 v (freeFrom 0 (tk.take k)).length (i64s (freeFrom 0 (tk.take k))) ∧ Whole wx bt 4 ((setAll tk (freeFrom 0 (tk.take k)) true).map (.bool ·)) ∧ Left [bt] w1 wx) (fun _ i _ => q - (intOf i).toNat)
  case atStart => exact ⟨0, by omega, rfl, by simp [freeFrom], by simpa [freeFrom, i64s] using World.ownsRow_nil _ _ _ _, by simpa [freeFrom, setAll] using HR1.out.taken, Left.refl _ _⟩
  case round =>
    obtain ⟨k, hk, rfl, hcl, hown, hSk, hLk⟩ := hrel
    have HO := Lib.hid hown
    have HSk := Lib.hid hSk
    have HLk := Lib.hid hLk
    obtain ⟨bo, bcap, rfl, hbc, hbm⟩ := (Rd.of_own hown).form
    have hbc2 : bcap ≤ 9223372036854775807 := by unfold maxLen at hbm; omega
    have d6 := cell_left' c6 HLk.out (by simp [n1])
    clear hown hbm hSk hLk
    by_cases hlt : (freeFrom 0 (tk.take k)).length < L.length
    · have hkq : k < q := by
        rcases Nat.lt_or_ge k q with h | h
        · exact h
        · have h1 : tk.take k = tk := List.take_of_length_le (by omega)
          rw [h1, freeFrom_length, HFN.out] at hlt
          omega
      obtain ⟨b, hbk⟩ : ∃ b, tk[k]? = some b := ⟨_, List.getElem?_eq_getElem (by omega)⟩
      have HT := Lib.hid (freeFrom_take hbk)
      have hni : k ∉ freeFrom 0 (tk.take k) := fun hm => Nat.lt_irrefl _ (freeFrom_lt hm)
      have hck : wr.cell? ⟨bt, k, none⟩ = some (.bool b) := by
        rw [HSk.out.cell, List.getElem?_map, setAll_get_ne _ _ _ hni, hbk]
        rfl
      have hfk := HSk.out.free k
      generalize hTk : freeFrom 0 (tk.take k) = T at *
      clear hbk hni hTk
      cases b
      · have HT' : Hid (freeFrom 0 (tk.take (k + 1)) = T ++ [k]) := Lib.hid (by rw [HT.out]; rfl)
        have hzs := HLk.out.size
        go_wp2_with (at_builtin; with_reducible refine wpList_app _ rfl (.tmp 39) (.tmp 41) _ rfl w1.heap.size 3 (.int .i64 0) 1 8 Try.underlying22 info_int rfl (by omega) _ T.length (i64s T) rfl (HO.out.alloc _) _ _ 1 [.int .i64 k] rfl (one_new _ _ _) (by simp [Value.oneCell']) ?_ ?_ ?_ ?_)
        · unfold maxLen; omega
        · omega
        · simp; omega
        intro v1 w3 hown1 hg1 _
        have hb1 : Left [bt] w1 w3 := left_grown (HLk.out.alloc _) hg1 (fun g hg => Or.inr (HO.out.lt g hg).1)
        have hs : i64s T ++ [.int .i64 (k : Int)] = i64s (freeFrom 0 (tk.take (k + 1))) := by rw [HT'.out, i64s, i64s, List.map_append]; rfl
        have hn : T.length + 1 = (freeFrom 0 (tk.take (k + 1))).length := by rw [HT'.out]; simp
        have hgr : ∀ g, w3.heap.size ≤ g ∨ True := fun _ => Or.inr trivial
        have hS3 : Whole w3 bt 4 ((setAll tk T true).map (.bool ·)) := by
          have := HSk.out.alloc (.cells #[.int .i64 (k : Int)] 3)
          refine (hg1.block bt (by have := (HSk.out.alloc (.cells #[.int .i64 (k : Int)] 3)).lt; exact this) (fun e => ?_)).trans this
          have := (HO.out.lt bt e.symm).1
          omega
        rw [hs, hn] at hown1
        have HO1 := Lib.hid hown1
        have HS3 := Lib.hid hS3
        have HB1 := Lib.hid hb1
        have e6 := cell_left' c6 hb1 (by simp [n1])
        have ek : w3.cell? ⟨bt, k, none⟩ = some (.bool false) := by
          rw [hS3.cell, ← hck, HSk.out.cell]
        have fk := hS3.free k
        clear hown1 hs hg1 hgr hS3 hb1 hck hfk d6 hn
        go_wp2
        go_roundw
        case rel =>
          refine ⟨k + 1, by omega, by go_num, ?_, own_left HO1.out ((Left.refl [bt] _).setCell (Or.inl (by simp)) _) (by simp; omega), ?_, HB1.out.setCell (Or.inl (by simp)) _⟩
          · rw [HT'.out, List.length_append, List.length_singleton]; omega
          · rw [HT'.out, setAll_snoc, List.map_set]
            exact HS3.out.put k (.bool true)
        case measure => simp [intOf]; omega
      · have HT' : Hid (freeFrom 0 (tk.take (k + 1)) = T) := Lib.hid (by rw [HT.out]; simp)
        go_wp2
        go_roundw
        case rel => exact ⟨k + 1, by omega, by go_num, by rw [HT'.out]; exact hcl, by rw [HT'.out]; exact HO.out, by rw [HT'.out]; exact HSk.out, HLk.out⟩
        case measure => simp [intOf]; omega
    · have hTl : (freeFrom 0 (tk.take k)).length = L.length := by omega
      have HTe := Lib.hid (takes_eq hTl)
      have HMem : Hid (∀ x ∈ freeFrom 0 (tk.take k), tk[x]? = some false) := Lib.hid (fun x hx => takes_mem (n := L.length) (by rw [HTe.out]; exact hx))
      rw [hTl] at HO hbc
      rw [hTl]
      generalize hTk : freeFrom 0 (tk.take k) = own at *
      have HOwn := Lib.hid hTl
      clear hTl hlt hTk hcl
      obtain ⟨g, gcap, hv, hbg, hgl⟩ := own_form' HO.out (by omega)
      injection hv with hv1 hv2 hv3
      subst hv1
      subst hv3
      clear hv2
      obtain ⟨wa, hwa⟩ : ∃ u, u = wr := ⟨_, rfl⟩
      subst hwa
      have hgs : g ≠ bt ∧ g ≠ d ∧ g ≠ R ∧ g ≠ bc ∧ g ≠ bw ∧ g ≠ m := ⟨by omega, by omega, by omega, by omega, by omega, by omega⟩
      obtain ⟨g1, g2, g3, g4, g5, g6⟩ := hgs
      have HMa := Lib.hid (HM1.out.left HLk.out (by simp [hbtm.symm]) (by simp [hbtd.symm]))
      have h0a : wa.cell? ⟨R, 0, none⟩ = some (.pointer (some ⟨m, 0, none⟩)) := cell_left' (by rw [HR1.out.head.cell]; rfl) HLk.out (by simp [n1])
      have HLa := Lib.hid (HL1.out)
      clear d6 c6
      go_wp2
      go_loopw [8, 9] (fun sv i w' => ∃ j : Nat, j ≤ L.length ∧ i = .int .i64 j ∧ sv = .int .i64 (wsum (L.take j)) ∧ MemAt 52 w' m d (descsB B L own j) ∧ Left [d] wa w') (fun _ i _ => L.length - (intOf i).toNat)
      case atStart => exact ⟨0, by omega, rfl, rfl, HMa.out, Left.refl _ _⟩
      case round =>
        obtain ⟨j, hj, rfl, rfl, hMj, hLj⟩ := hrel
        have HMj := Lib.hid hMj
        have HLj := Lib.hid hLj
        have i0 := cell_left' h0a hLj (by simp [hRd])
        clear hMj hLj
        by_cases hjl : j < L.length
        · obtain ⟨b, hbj⟩ : ∃ b, L[j]? = some b := ⟨_, List.getElem?_eq_getElem hjl⟩
          obtain ⟨x, hxj⟩ : ∃ x, own[j]? = some x := ⟨_, List.getElem?_eq_getElem (by rw [HOwn.out]; exact hjl)⟩
          obtain ⟨an, ln, ha, hl, ha2, hl1, hl2⟩ := bufsB_at HX.out hbj
          have HB := Lib.hid hbj
          have HX2 := Lib.hid hxj
          have hxb : x < q := by rw [← hlen]; exact (List.getElem?_eq_some_iff.1 (HMem.out x (List.mem_of_getElem? hxj))).1
          have hc0 : wr.cell? ⟨g, j, none⟩ = some (.int .i64 x) := by
            have := (own_left HO.out HLj.out (by simp; omega)).cellAt j (by omega)
            rw [this, i64s, List.getElem?_map, hxj]
            rfl
          obtain ⟨bb, bo, hao, z1, z2, z3⟩ := bufs_cell (HLa.out) hbj
          subst hao
          have hn1' : bb ≠ d := fun e => hn1 (by rw [e]; rfl)
          have hn2' : bb ≠ bt := fun e => hn2 (by rw [e]; rfl)
          have y1 := cell_left' (cell_left' z1 HLk.out (by simp [hn2'])) HLj.out (by simp [hn1'])
          have y2 := cell_left' (cell_left' z2 HLk.out (by simp [hn2'])) HLj.out (by simp [hn1'])
          have y3 := cell_left' (cell_left' z3 HLk.out (by simp [hn2'])) HLj.out (by simp [hn1'])
          rw [ha] at y1
          rw [hl] at y2
          have HA := Lib.hid ha
          have HLn := Lib.hid hl
          have hsb := wsum_bound HX.out j hj
          have HWS := Lib.hid (wsum_snoc hbj)
          obtain ⟨s0, hs0⟩ : ∃ s0, wsum (L.take j) = s0 := ⟨_, rfl⟩
          rw [hs0] at hsb HWS ⊢
          obtain ⟨hsb1, hsb2⟩ := hsb
          have HS0 := Lib.hid hs0
          obtain ⟨nx, hnx⟩ : ∃ nx, own[j + 1]? = nx := ⟨_, rfl⟩
          have HNX := Lib.hid hnx
          have hcn : ∀ x1, nx = some x1 → wr.cell? ⟨g, j + 1, none⟩ = some (.int .i64 x1) := by
            intro x1 h1
            have hx1 : own[j + 1]? = some x1 := hnx.trans h1
            have hlt1 := (List.getElem?_eq_some_iff.1 hx1).1
            rw [HOwn.out] at hlt1
            have := (own_left HO.out HLj.out (by simp; omega)).cellAt (j + 1) (by omega)
            rw [this, i64s, List.getElem?_map, hx1]
            rfl
          have hnl : nx = none → ¬ (j + 1 < L.length) := by
            intro h1
            have := List.getElem?_eq_none_iff.1 (hnx.trans h1)
            rw [HOwn.out] at this
            omega
          have hns : ∀ x1, nx = some x1 → j + 1 < L.length ∧ x1 ≤ 63 := by
            intro x1 h1
            have hx1 : own[j + 1]? = some x1 := hnx.trans h1
            have hlt1 := (List.getElem?_eq_some_iff.1 hx1).1
            rw [HOwn.out] at hlt1
            have := (List.getElem?_eq_some_iff.1 (HMem.out x1 (List.mem_of_getElem? hx1))).1
            exact ⟨by omega, by omega⟩
          have HCN := Lib.hid hcn
          have HNL := Lib.hid hnl
          have HNS := Lib.hid hns
          clear hnx hcn hnl hns hbj hxj z1 z2 z3 ha hl hs0
          go_upto_if 59 with fail
          go_cut [8, 10] (fun s t wx => s = .int .i64 (s0 + if b.wr then (ln : Int) else 0) ∧ t = .int .u64 (if b.wr then 2 else 0) ∧ wx = wr)
          case first =>
            cases hwr : b.wr
            · rw [hwr] at y3
              have HWR := Lib.hid hwr
              clear hwr
              go_wp2
              go_meet
              exact ⟨by rw [HWR.out]; simp, by rw [HWR.out]; rfl, rfl⟩
            · rw [hwr] at y3
              have HWR := Lib.hid hwr
              clear hwr
              go_wp2
              go_meet
              exact ⟨by rw [HWR.out]; rfl, by rw [HWR.out]; rfl, rfl⟩
          case rest =>
            obtain ⟨rfl, rfl, hcw⟩ := hcut
            subst hcw
            obtain ⟨fl, hfl⟩ : ∃ fl : Int, (if b.wr then 2 else 0) = fl := ⟨_, rfl⟩
            have hfl2 : fl = 0 ∨ fl = 2 := by rw [← hfl]; cases b.wr <;> simp
            rw [hfl]
            obtain ⟨s1, hs1⟩ : ∃ s1 : Int, (s0 + if b.wr then (ln : Int) else 0) = s1 := ⟨_, rfl⟩
            rw [hs1]
            have HS1 := Lib.hid hs1
            have HFL := Lib.hid hfl
            clear hfl hs1
            go_upto_if 71 with fail
            go_cut [10, 11] (fun s t wx => s = .int .u64 (fl + if nx.isSome then 1 else 0) ∧ t = .int .u64 (nx.getD 0 : Nat) ∧ ∃ n, wx = wc.drewN n)
            case first =>
              cases nx with
              | none =>
                have hj1 := HNL.out rfl
                go_wp2
                go_meet
                exact ⟨by simp, by simp, 0, rfl⟩
              | some x1 =>
                obtain ⟨hj1, hj2⟩ := HNS.out x1 rfl
                have vn := HCN.out x1 rfl
                have hw1 : IntKind.i64.wrap ((j : Int) + 1) = (j : Int) + 1 := IntWalk.i64_in _ ⟨by omega, by omega⟩
                have hw2 : IntKind.u64.wrap (x1 : Int) = x1 := IntWalk.u64_in _ ⟨by omega, by omega⟩
                have hb0 : (0 : Int) ≤ (j : Int) + 1 := by omega
                have hb1 : (j : Int) + 1 < (L.length : Int) := by omega
                have htn : ((j : Int) + 1).toNat = j + 1 := by omega
                rcases hfl2 with rfl | rfl
                · go_wp2
                  refine wp_region_held_drew (S := fun wx => wx.cell? ⟨g, j + 1, none⟩ = some (.int .i64 x1)) (by kernel_rfl) vn (fun hHeld => ?_)
                  refine take_h 0 ⟨?_, ?_, ?_, by kernel_rfl, by kernel_rfl, by kernel_rfl, ?_, ?_, by assumption, ?_⟩
                  rotate_left 2
                  · (simp only [List.getElem?_toArray, List.getElem?_cons_zero]; exact rfl)
                  · exact fun _ _ _ h => h
                  · first
                      | (refine Or.inr ⟨by rfl, ?_⟩; exact rfl)
                      | (refine Or.inl ⟨by rfl, ?_⟩
                         intro w hSw
                         (try dsimp only at hSw)
                         (try go_split_ands)
                         go_simp
                         (first | done | with_reducible rfl))
                  try simp only [Act.put, List.setIfInBounds_toArray, List.set_cons_zero, List.set_cons_succ]
                  refine take_h 1 ⟨?_, ?_, ?_, by kernel_rfl, by kernel_rfl, by kernel_rfl, ?_, ?_, by assumption, ?_⟩
                  rotate_left 2
                  · (simp only [List.getElem?_toArray, List.getElem?_cons_succ, List.getElem?_cons_zero]; exact rfl)
                  · exact fun _ _ _ h => h
                  · first
                      | (refine Or.inr ⟨by rfl, ?_⟩; exact rfl)
                      | (refine Or.inl ⟨by rfl, ?_⟩
                         intro w hSw
                         (try dsimp only at hSw)
                         (try go_split_ands)
                         go_simp
                         (first | done | with_reducible rfl))
                  try simp only [Act.put, List.setIfInBounds_toArray, List.set_cons_zero, List.set_cons_succ]
                  refine take_h 2 ⟨?_, ?_, ?_, by kernel_rfl, by kernel_rfl, by kernel_rfl, ?_, ?_, by assumption, ?_⟩
                  rotate_left 2
                  · (simp only [List.getElem?_toArray, List.getElem?_cons_succ, List.getElem?_cons_zero]; exact rfl)
                  · exact fun _ _ _ h => h
                  · first
                      | (refine Or.inr ⟨by rfl, ?_⟩; exact rfl)
                      | (refine Or.inl ⟨by rfl, ?_⟩
                         intro w hSw
                         (try dsimp only at hSw)
                         (try go_split_ands)
                         go_simp
                         (first | done | with_reducible rfl))
                  try simp only [Act.put, List.setIfInBounds_toArray, List.set_cons_zero, List.set_cons_succ]
                  refine take_h 3 ⟨?_, ?_, ?_, by kernel_rfl, by kernel_rfl, by kernel_rfl, ?_, ?_, by assumption, ?_⟩
                  rotate_left 2
                  · (simp only [List.getElem?_toArray, List.getElem?_cons_succ, List.getElem?_cons_zero]; exact rfl)
                  · exact fun _ _ _ h => h
                  · first
                      | (refine Or.inr ⟨by rfl, ?_⟩; exact rfl)
                      | (refine Or.inl ⟨by rfl, ?_⟩
                         intro w hSw
                         (try dsimp only at hSw)
                         (try go_split_ands)
                         go_simp
                         (first | done | with_reducible rfl))
                  try simp only [Act.put, List.setIfInBounds_toArray, List.set_cons_zero, List.set_cons_succ]
                  refine take_h 4 ⟨?_, ?_, ?_, by kernel_rfl, by kernel_rfl, by kernel_rfl, ?_, ?_, by assumption, ?_⟩
                  rotate_left 2
                  · (simp only [List.getElem?_toArray, List.getElem?_cons_succ, List.getElem?_cons_zero]; exact rfl)
                  · exact fun _ _ _ h => h
                  · first
                      | (refine Or.inr ⟨by rfl, ?_⟩; exact rfl)
                      | (refine Or.inl ⟨by rfl, ?_⟩
                         intro w hSw
                         (try dsimp only at hSw)
                         (try go_split_ands)
                         go_simp
                         (first | done | with_reducible rfl))
                  try simp only [Act.put, List.setIfInBounds_toArray, List.set_cons_zero, List.set_cons_succ]
                  refine take_h 5 ⟨?_, ?_, ?_, by kernel_rfl, by kernel_rfl, by kernel_rfl, ?_, ?_, by assumption, ?_⟩
                  rotate_left 2
                  · (simp only [List.getElem?_toArray, List.getElem?_cons_succ, List.getElem?_cons_zero]; exact rfl)
                  · exact fun _ _ _ h => h
                  · first
                      | (refine Or.inr ⟨by rfl, ?_⟩; exact rfl)
                      | (refine Or.inl ⟨by rfl, ?_⟩
                         intro w hSw
                         (try dsimp only at hSw)
                         (try go_split_ands)
                         go_simp
                         (first | done | with_reducible rfl))
                  try simp only [Act.put, List.setIfInBounds_toArray, List.set_cons_zero, List.set_cons_succ]
                  refine take_h 6 ⟨?_, ?_, ?_, by kernel_rfl, by kernel_rfl, by kernel_rfl, ?_, ?_, by assumption, ?_⟩
                  rotate_left 2
                  · (simp only [List.getElem?_toArray, List.getElem?_cons_succ, List.getElem?_cons_zero]; exact rfl)
                  · exact fun _ _ _ h => h
                  · first
                      | (refine Or.inr ⟨by rfl, ?_⟩; exact rfl)
                      | (refine Or.inl ⟨by rfl, ?_⟩
                         intro w hSw
                         (try dsimp only at hSw)
                         (try go_split_ands)
                         go_simp
                         (first | done | with_reducible rfl))
                  try simp only [Act.put, List.setIfInBounds_toArray, List.set_cons_zero, List.set_cons_succ]
                  refine take_h 7 ⟨?_, ?_, ?_, by kernel_rfl, by kernel_rfl, by kernel_rfl, ?_, ?_, by assumption, ?_⟩
                  rotate_left 2
                  · (simp only [List.getElem?_toArray, List.getElem?_cons_succ, List.getElem?_cons_zero]; exact rfl)
                  · exact fun _ _ _ h => h
                  · first
                      | (refine Or.inr ⟨by rfl, ?_⟩; exact rfl)
                      | (refine Or.inl ⟨by rfl, ?_⟩
                         intro w hSw
                         (try dsimp only at hSw)
                         (try go_split_ands)
                         go_simp
                         (first | done | with_reducible rfl))
                  try simp only [Act.put, List.setIfInBounds_toArray, List.set_cons_zero, List.set_cons_succ]
                  refine take_h 8 ⟨?_, ?_, ?_, by kernel_rfl, by kernel_rfl, by kernel_rfl, ?_, ?_, by assumption, ?_⟩
                  rotate_left 2
                  · (simp only [List.getElem?_toArray, List.getElem?_cons_succ, List.getElem?_cons_zero]; exact rfl)
                  · exact fun _ _ _ h => h
                  · first
                      | (refine Or.inr ⟨by rfl, ?_⟩; exact rfl)
                      | (refine Or.inl ⟨by rfl, ?_⟩
                         intro w hSw
                         (try dsimp only at hSw)
                         (try go_split_ands)
                         go_simp
                         (first | done | with_reducible rfl))
                  try simp only [Act.put, List.setIfInBounds_toArray, List.set_cons_zero, List.set_cons_succ]
                  refine take_h 9 ⟨?_, ?_, ?_, by kernel_rfl, by kernel_rfl, by kernel_rfl, ?_, ?_, by assumption, ?_⟩
                  rotate_left 2
                  · (simp only [List.getElem?_toArray, List.getElem?_cons_succ, List.getElem?_cons_zero]; exact rfl)
                  · exact fun _ _ _ h => h
                  · first
                      | (refine Or.inr ⟨by rfl, ?_⟩; exact rfl)
                      | (refine Or.inl ⟨by rfl, ?_⟩
                         intro w hSw
                         (try dsimp only at hSw)
                         (try go_split_ands)
                         go_simp
                         (first | done | with_reducible rfl))
                  try simp only [Act.put, List.setIfInBounds_toArray, List.set_cons_zero, List.set_cons_succ]
                  refine wpAnyH_done (by kernel_rfl) ?_ _
                  clear hHeld
                  go_wp2
                  go_meet
                  exact ⟨by simp; kernel_rfl, by simp, 1, rfl⟩
                · go_wp2
                  refine wp_region_held_drew (S := fun wx => wx.cell? ⟨g, j + 1, none⟩ = some (.int .i64 x1)) (by kernel_rfl) vn (fun hHeld => ?_)
                  refine take_h 0 ⟨?_, ?_, ?_, by kernel_rfl, by kernel_rfl, by kernel_rfl, ?_, ?_, by assumption, ?_⟩
                  rotate_left 2
                  · (simp only [List.getElem?_toArray, List.getElem?_cons_zero]; exact rfl)
                  · exact fun _ _ _ h => h
                  · first
                      | (refine Or.inr ⟨by rfl, ?_⟩; exact rfl)
                      | (refine Or.inl ⟨by rfl, ?_⟩
                         intro w hSw
                         (try dsimp only at hSw)
                         (try go_split_ands)
                         go_simp
                         (first | done | with_reducible rfl))
                  try simp only [Act.put, List.setIfInBounds_toArray, List.set_cons_zero, List.set_cons_succ]
                  refine take_h 1 ⟨?_, ?_, ?_, by kernel_rfl, by kernel_rfl, by kernel_rfl, ?_, ?_, by assumption, ?_⟩
                  rotate_left 2
                  · (simp only [List.getElem?_toArray, List.getElem?_cons_succ, List.getElem?_cons_zero]; exact rfl)
                  · exact fun _ _ _ h => h
                  · first
                      | (refine Or.inr ⟨by rfl, ?_⟩; exact rfl)
                      | (refine Or.inl ⟨by rfl, ?_⟩
                         intro w hSw
                         (try dsimp only at hSw)
                         (try go_split_ands)
                         go_simp
                         (first | done | with_reducible rfl))
                  try simp only [Act.put, List.setIfInBounds_toArray, List.set_cons_zero, List.set_cons_succ]
                  refine take_h 2 ⟨?_, ?_, ?_, by kernel_rfl, by kernel_rfl, by kernel_rfl, ?_, ?_, by assumption, ?_⟩
                  rotate_left 2
                  · (simp only [List.getElem?_toArray, List.getElem?_cons_succ, List.getElem?_cons_zero]; exact rfl)
                  · exact fun _ _ _ h => h
                  · first
                      | (refine Or.inr ⟨by rfl, ?_⟩; exact rfl)
                      | (refine Or.inl ⟨by rfl, ?_⟩
                         intro w hSw
                         (try dsimp only at hSw)
                         (try go_split_ands)
                         go_simp
                         (first | done | with_reducible rfl))
                  try simp only [Act.put, List.setIfInBounds_toArray, List.set_cons_zero, List.set_cons_succ]
                  refine take_h 3 ⟨?_, ?_, ?_, by kernel_rfl, by kernel_rfl, by kernel_rfl, ?_, ?_, by assumption, ?_⟩
                  rotate_left 2
                  · (simp only [List.getElem?_toArray, List.getElem?_cons_succ, List.getElem?_cons_zero]; exact rfl)
                  · exact fun _ _ _ h => h
                  · first
                      | (refine Or.inr ⟨by rfl, ?_⟩; exact rfl)
                      | (refine Or.inl ⟨by rfl, ?_⟩
                         intro w hSw
                         (try dsimp only at hSw)
                         (try go_split_ands)
                         go_simp
                         (first | done | with_reducible rfl))
                  try simp only [Act.put, List.setIfInBounds_toArray, List.set_cons_zero, List.set_cons_succ]
                  refine take_h 4 ⟨?_, ?_, ?_, by kernel_rfl, by kernel_rfl, by kernel_rfl, ?_, ?_, by assumption, ?_⟩
                  rotate_left 2
                  · (simp only [List.getElem?_toArray, List.getElem?_cons_succ, List.getElem?_cons_zero]; exact rfl)
                  · exact fun _ _ _ h => h
                  · first
                      | (refine Or.inr ⟨by rfl, ?_⟩; exact rfl)
                      | (refine Or.inl ⟨by rfl, ?_⟩
                         intro w hSw
                         (try dsimp only at hSw)
                         (try go_split_ands)
                         go_simp
                         (first | done | with_reducible rfl))
                  try simp only [Act.put, List.setIfInBounds_toArray, List.set_cons_zero, List.set_cons_succ]
                  refine take_h 5 ⟨?_, ?_, ?_, by kernel_rfl, by kernel_rfl, by kernel_rfl, ?_, ?_, by assumption, ?_⟩
                  rotate_left 2
                  · (simp only [List.getElem?_toArray, List.getElem?_cons_succ, List.getElem?_cons_zero]; exact rfl)
                  · exact fun _ _ _ h => h
                  · first
                      | (refine Or.inr ⟨by rfl, ?_⟩; exact rfl)
                      | (refine Or.inl ⟨by rfl, ?_⟩
                         intro w hSw
                         (try dsimp only at hSw)
                         (try go_split_ands)
                         go_simp
                         (first | done | with_reducible rfl))
                  try simp only [Act.put, List.setIfInBounds_toArray, List.set_cons_zero, List.set_cons_succ]
                  refine take_h 6 ⟨?_, ?_, ?_, by kernel_rfl, by kernel_rfl, by kernel_rfl, ?_, ?_, by assumption, ?_⟩
                  rotate_left 2
                  · (simp only [List.getElem?_toArray, List.getElem?_cons_succ, List.getElem?_cons_zero]; exact rfl)
                  · exact fun _ _ _ h => h
                  · first
                      | (refine Or.inr ⟨by rfl, ?_⟩; exact rfl)
                      | (refine Or.inl ⟨by rfl, ?_⟩
                         intro w hSw
                         (try dsimp only at hSw)
                         (try go_split_ands)
                         go_simp
                         (first | done | with_reducible rfl))
                  try simp only [Act.put, List.setIfInBounds_toArray, List.set_cons_zero, List.set_cons_succ]
                  refine take_h 7 ⟨?_, ?_, ?_, by kernel_rfl, by kernel_rfl, by kernel_rfl, ?_, ?_, by assumption, ?_⟩
                  rotate_left 2
                  · (simp only [List.getElem?_toArray, List.getElem?_cons_succ, List.getElem?_cons_zero]; exact rfl)
                  · exact fun _ _ _ h => h
                  · first
                      | (refine Or.inr ⟨by rfl, ?_⟩; exact rfl)
                      | (refine Or.inl ⟨by rfl, ?_⟩
                         intro w hSw
                         (try dsimp only at hSw)
                         (try go_split_ands)
                         go_simp
                         (first | done | with_reducible rfl))
                  try simp only [Act.put, List.setIfInBounds_toArray, List.set_cons_zero, List.set_cons_succ]
                  refine take_h 8 ⟨?_, ?_, ?_, by kernel_rfl, by kernel_rfl, by kernel_rfl, ?_, ?_, by assumption, ?_⟩
                  rotate_left 2
                  · (simp only [List.getElem?_toArray, List.getElem?_cons_succ, List.getElem?_cons_zero]; exact rfl)
                  · exact fun _ _ _ h => h
                  · first
                      | (refine Or.inr ⟨by rfl, ?_⟩; exact rfl)
                      | (refine Or.inl ⟨by rfl, ?_⟩
                         intro w hSw
                         (try dsimp only at hSw)
                         (try go_split_ands)
                         go_simp
                         (first | done | with_reducible rfl))
                  try simp only [Act.put, List.setIfInBounds_toArray, List.set_cons_zero, List.set_cons_succ]
                  refine take_h 9 ⟨?_, ?_, ?_, by kernel_rfl, by kernel_rfl, by kernel_rfl, ?_, ?_, by assumption, ?_⟩
                  rotate_left 2
                  · (simp only [List.getElem?_toArray, List.getElem?_cons_succ, List.getElem?_cons_zero]; exact rfl)
                  · exact fun _ _ _ h => h
                  · first
                      | (refine Or.inr ⟨by rfl, ?_⟩; exact rfl)
                      | (refine Or.inl ⟨by rfl, ?_⟩
                         intro w hSw
                         (try dsimp only at hSw)
                         (try go_split_ands)
                         go_simp
                         (first | done | with_reducible rfl))
                  try simp only [Act.put, List.setIfInBounds_toArray, List.set_cons_zero, List.set_cons_succ]
                  refine wpAnyH_done (by kernel_rfl) ?_ _
                  clear hHeld
                  go_wp2
                  go_meet
                  exact ⟨by simp; kernel_rfl, by simp, 1, rfl⟩
            case rest =>
              obtain ⟨rfl, rfl, nd, hcw⟩ := hcut
              subst hcw
              obtain ⟨f2, hf2⟩ : ∃ f2 : Nat, fl + (if nx.isSome then 1 else 0) = (f2 : Int) := ⟨(fl + (if nx.isSome then 1 else 0)).toNat, by rcases hfl2 with rfl | rfl <;> cases nx <;> simp⟩
              have HF2 := Lib.hid hf2
              rw [hf2]
              have hf3 : f2 ≤ 3 := by rw [show (f2 ≤ 3) ↔ ((f2 : Int) ≤ 3) by omega, ← hf2]; rcases hfl2 with rfl | rfl <;> cases nx <;> simp
              obtain ⟨nv, hnv⟩ : ∃ nv : Nat, nx.getD 0 = nv := ⟨_, rfl⟩
              have hnv2 : nv ≤ 63 := by
                rw [← hnv]
                cases nx with
                | none => simp
                | some x1 => exact (HNS.out x1 rfl).2
              rw [hnv]
              have HNV := Lib.hid hnv
              have hB0 : (descsB B L own j).length ≤ 65536 := by rw [descsB_length]; exact hB
              have HMW : Hid (MemAt 52 (wc.drewN nd) m d (descsB B L own j)) := Lib.hid (HMj.out.drewN nd)
              have HLW : Hid (Left [d] wa (wc.drewN nd)) := Lib.hid (HLj.out.drewN nd)
              replace i0 : (wc.drewN nd).cell? ⟨R, 0, none⟩ = some (.pointer (some ⟨m, 0, none⟩)) := i0
              replace hc0 : (wc.drewN nd).cell? ⟨g, j, none⟩ = some (.int .i64 x) := hc0
              replace y1 : (wc.drewN nd).cell? ⟨bb, bo + j * 3, none⟩ = some (.int .i64 an) := y1
              replace y2 : (wc.drewN nd).cell? ⟨bb, bo + j * 3 + 1, none⟩ = some (.int .i64 ln) := y2
              clear hf2 hnv y3
              generalize wc.drewN nd = wd at HMW HLW i0 hc0 y1 y2 ⊢
              have hb0 : (0 : Int) ≤ (j : Int) := by omega
              have hb1 : (j : Int) < (L.length : Int) := by omega
              have hu1 : IntKind.u64.wrap (an : Int) = an := IntWalk.u64_in _ ⟨by omega, by omega⟩
              have hu2 : IntKind.u64.wrap (ln : Int) = ln := IntWalk.u64_in _ ⟨by omega, by omega⟩
              have hx1 : IntKind.i64.wrap (16 * (x : Int)) = 16 * (x : Int) := IntWalk.i64_in _ ⟨by omega, by omega⟩
              have hx2 : IntKind.i64.wrap (16 * (x : Int) + 8) = 16 * (x : Int) + 8 := IntWalk.i64_in _ ⟨by omega, by omega⟩
              have hx3 : IntKind.i64.wrap (16 * (x : Int) + 12) = 16 * (x : Int) + 12 := IntWalk.i64_in _ ⟨by omega, by omega⟩
              have hx4 : IntKind.i64.wrap (16 * (x : Int) + 14) = 16 * (x : Int) + 14 := IntWalk.i64_in _ ⟨by omega, by omega⟩
              go_wp2
              refine wp_region_held_drew (S := fun wx => wx.cell? ⟨R, 0, none⟩ = some (.pointer (some ⟨m, 0, none⟩)) ∧ wx.cell? ⟨g, j, none⟩ = some (.int .i64 x) ∧ wx.cell? ⟨bb, bo + j * 3, none⟩ = some (.int .i64 an)) (by kernel_rfl) ⟨i0, hc0, y1⟩ (fun hHeld => ?_)
              refine take_h 0 ⟨?_, ?_, ?_, by kernel_rfl, by kernel_rfl, by kernel_rfl, ?_, ?_, by assumption, ?_⟩
              rotate_left 2
              · (simp only [List.getElem?_toArray, List.getElem?_cons_zero]; exact rfl)
              · exact fun _ _ _ h => h
              · first
                  | (refine Or.inr ⟨by rfl, ?_⟩; exact rfl)
                  | (refine Or.inl ⟨by rfl, ?_⟩
                     intro w hSw
                     (try dsimp only at hSw)
                     (try go_split_ands)
                     go_simp
                     (first | done | with_reducible rfl))
              try simp only [Act.put, List.setIfInBounds_toArray, List.set_cons_zero, List.set_cons_succ]
              refine take_h 1 ⟨?_, ?_, ?_, by kernel_rfl, by kernel_rfl, by kernel_rfl, ?_, ?_, by assumption, ?_⟩
              rotate_left 2
              · (simp only [List.getElem?_toArray, List.getElem?_cons_succ, List.getElem?_cons_zero]; exact rfl)
              · exact fun _ _ _ h => h
              · first
                  | (refine Or.inr ⟨by rfl, ?_⟩; exact rfl)
                  | (refine Or.inl ⟨by rfl, ?_⟩
                     intro w hSw
                     (try dsimp only at hSw)
                     (try go_split_ands)
                     go_simp
                     (first | done | with_reducible rfl))
              try simp only [Act.put, List.setIfInBounds_toArray, List.set_cons_zero, List.set_cons_succ]
              refine take_h 2 ⟨?_, ?_, ?_, by kernel_rfl, by kernel_rfl, by kernel_rfl, ?_, ?_, by assumption, ?_⟩
              rotate_left 2
              · (simp only [List.getElem?_toArray, List.getElem?_cons_succ, List.getElem?_cons_zero]; exact rfl)
              · exact fun _ _ _ h => h
              · first
                  | (refine Or.inr ⟨by rfl, ?_⟩; exact rfl)
                  | (refine Or.inl ⟨by rfl, ?_⟩
                     intro w hSw
                     (try dsimp only at hSw)
                     (try go_split_ands)
                     go_simp
                     (first | done | with_reducible rfl))
              try simp only [Act.put, List.setIfInBounds_toArray, List.set_cons_zero, List.set_cons_succ]
              refine take_h 3 ⟨?_, ?_, ?_, by kernel_rfl, by kernel_rfl, by kernel_rfl, ?_, ?_, by assumption, ?_⟩
              rotate_left 2
              · (simp only [List.getElem?_toArray, List.getElem?_cons_succ, List.getElem?_cons_zero]; exact rfl)
              · exact fun _ _ _ h => h
              · first
                  | (refine Or.inr ⟨by rfl, ?_⟩; exact rfl)
                  | (refine Or.inl ⟨by rfl, ?_⟩
                     intro w hSw
                     (try dsimp only at hSw)
                     (try go_split_ands)
                     go_simp
                     (first | done | with_reducible rfl))
              try simp only [Act.put, List.setIfInBounds_toArray, List.set_cons_zero, List.set_cons_succ]
              refine take_h 4 ⟨?_, ?_, ?_, by kernel_rfl, by kernel_rfl, by kernel_rfl, ?_, ?_, by assumption, ?_⟩
              rotate_left 2
              · (simp only [List.getElem?_toArray, List.getElem?_cons_succ, List.getElem?_cons_zero]; exact rfl)
              · exact fun _ _ _ h => h
              · first
                  | (refine Or.inr ⟨by rfl, ?_⟩; exact rfl)
                  | (refine Or.inl ⟨by rfl, ?_⟩
                     intro w hSw
                     (try dsimp only at hSw)
                     (try go_split_ands)
                     go_simp
                     (first | done | with_reducible rfl))
              try simp only [Act.put, List.setIfInBounds_toArray, List.set_cons_zero, List.set_cons_succ]
              refine take_h 5 ⟨?_, ?_, ?_, by kernel_rfl, by kernel_rfl, by kernel_rfl, ?_, ?_, by assumption, ?_⟩
              rotate_left 2
              · (simp only [List.getElem?_toArray, List.getElem?_cons_succ, List.getElem?_cons_zero]; exact rfl)
              · exact fun _ _ _ h => h
              · first
                  | (refine Or.inr ⟨by rfl, ?_⟩; exact rfl)
                  | (refine Or.inl ⟨by rfl, ?_⟩
                     intro w hSw
                     (try dsimp only at hSw)
                     (try go_split_ands)
                     go_simp
                     (first | done | with_reducible rfl))
              try simp only [Act.put, List.setIfInBounds_toArray, List.set_cons_zero, List.set_cons_succ]
              refine take_h 6 ⟨?_, ?_, ?_, by kernel_rfl, by kernel_rfl, by kernel_rfl, ?_, ?_, by assumption, ?_⟩
              rotate_left 2
              · (simp only [List.getElem?_toArray, List.getElem?_cons_succ, List.getElem?_cons_zero]; exact rfl)
              · exact fun _ _ _ h => h
              · first
                  | (refine Or.inr ⟨by rfl, ?_⟩; exact rfl)
                  | (refine Or.inl ⟨by rfl, ?_⟩
                     intro w hSw
                     (try dsimp only at hSw)
                     (try go_split_ands)
                     go_simp
                     (first | done | with_reducible rfl))
              try simp only [Act.put, List.setIfInBounds_toArray, List.set_cons_zero, List.set_cons_succ]
              refine take_h 7 ⟨?_, ?_, ?_, by kernel_rfl, by kernel_rfl, by kernel_rfl, ?_, ?_, by assumption, ?_⟩
              rotate_left 2
              · (simp only [List.getElem?_toArray, List.getElem?_cons_succ, List.getElem?_cons_zero]; exact rfl)
              · exact fun _ _ _ h => h
              · first
                  | (refine Or.inr ⟨by rfl, ?_⟩; exact rfl)
                  | (refine Or.inl ⟨by rfl, ?_⟩
                     intro w hSw
                     (try dsimp only at hSw)
                     (try go_split_ands)
                     go_simp
                     (first | done | with_reducible rfl))
              try simp only [Act.put, List.setIfInBounds_toArray, List.set_cons_zero, List.set_cons_succ]
              refine take_h 8 ⟨?_, ?_, ?_, by kernel_rfl, by kernel_rfl, by kernel_rfl, ?_, ?_, by assumption, ?_⟩
              rotate_left 2
              · (simp only [List.getElem?_toArray, List.getElem?_cons_succ, List.getElem?_cons_zero]; exact rfl)
              · exact fun _ _ _ h => h
              · first
                  | (refine Or.inr ⟨by rfl, ?_⟩; exact rfl)
                  | (refine Or.inl ⟨by rfl, ?_⟩
                     intro w hSw
                     (try dsimp only at hSw)
                     (try go_split_ands)
                     go_simp
                     (first | done | with_reducible rfl))
              try simp only [Act.put, List.setIfInBounds_toArray, List.set_cons_zero, List.set_cons_succ]
              refine take_h 9 ⟨?_, ?_, ?_, by kernel_rfl, by kernel_rfl, by kernel_rfl, ?_, ?_, by assumption, ?_⟩
              rotate_left 2
              · (simp only [List.getElem?_toArray, List.getElem?_cons_succ, List.getElem?_cons_zero]; exact rfl)
              · exact fun _ _ _ h => h
              · first
                  | (refine Or.inr ⟨by rfl, ?_⟩; exact rfl)
                  | (refine Or.inl ⟨by rfl, ?_⟩
                     intro w hSw
                     (try dsimp only at hSw)
                     (try go_split_ands)
                     go_simp
                     (first | done | with_reducible rfl))
              try simp only [Act.put, List.setIfInBounds_toArray, List.set_cons_zero, List.set_cons_succ]
              refine take_h 10 ⟨?_, ?_, ?_, by kernel_rfl, by kernel_rfl, by kernel_rfl, ?_, ?_, by assumption, ?_⟩
              rotate_left 2
              · (simp only [List.getElem?_toArray, List.getElem?_cons_succ, List.getElem?_cons_zero]; exact rfl)
              · exact fun _ _ _ h => h
              · first
                  | (refine Or.inr ⟨by rfl, ?_⟩; exact rfl)
                  | (refine Or.inl ⟨by rfl, ?_⟩
                     intro w hSw
                     (try dsimp only at hSw)
                     (try go_split_ands)
                     go_simp
                     (first | done | with_reducible rfl))
              try simp only [Act.put, List.setIfInBounds_toArray, List.set_cons_zero, List.set_cons_succ]
              refine take_h 11 ⟨?_, ?_, ?_, by kernel_rfl, by kernel_rfl, by kernel_rfl, ?_, ?_, by assumption, ?_⟩
              rotate_left 2
              · (simp only [List.getElem?_toArray, List.getElem?_cons_succ, List.getElem?_cons_zero]; exact rfl)
              · exact fun _ _ _ h => h
              · first
                  | (refine Or.inr ⟨by rfl, ?_⟩; exact rfl)
                  | (refine Or.inl ⟨by rfl, ?_⟩
                     intro w hSw
                     (try dsimp only at hSw)
                     (try go_split_ands)
                     go_simp
                     (first | done | with_reducible rfl))
              try simp only [Act.put, List.setIfInBounds_toArray, List.set_cons_zero, List.set_cons_succ]
              refine take_h 12 ⟨?_, ?_, ?_, by kernel_rfl, by kernel_rfl, by kernel_rfl, ?_, ?_, by assumption, ?_⟩
              rotate_left 2
              · (simp only [List.getElem?_toArray, List.getElem?_cons_succ, List.getElem?_cons_zero]; exact rfl)
              · exact fun _ _ _ h => h
              · first
                  | (refine Or.inr ⟨by rfl, ?_⟩; exact rfl)
                  | (refine Or.inl ⟨by rfl, ?_⟩
                     intro w hSw
                     (try dsimp only at hSw)
                     (try go_split_ands)
                     go_simp
                     (first | done | with_reducible rfl))
              try simp only [Act.put, List.setIfInBounds_toArray, List.set_cons_zero, List.set_cons_succ]
              refine take_h 13 ⟨?_, ?_, ?_, by kernel_rfl, by kernel_rfl, by kernel_rfl, ?_, ?_, by assumption, ?_⟩
              rotate_left 2
              · (simp only [List.getElem?_toArray, List.getElem?_cons_succ, List.getElem?_cons_zero]; exact rfl)
              · exact fun _ _ _ h => h
              · first
                  | (refine Or.inr ⟨by rfl, ?_⟩; exact rfl)
                  | (refine Or.inl ⟨by rfl, ?_⟩
                     intro w hSw
                     (try dsimp only at hSw)
                     (try go_split_ands)
                     go_simp
                     (first | done | with_reducible rfl))
              try simp only [Act.put, List.setIfInBounds_toArray, List.set_cons_zero, List.set_cons_succ]
              refine take_h 14 ⟨?_, ?_, ?_, by kernel_rfl, by kernel_rfl, by kernel_rfl, ?_, ?_, by assumption, ?_⟩
              rotate_left 2
              · (simp only [List.getElem?_toArray, List.getElem?_cons_succ, List.getElem?_cons_zero]; exact rfl)
              · exact fun _ _ _ h => h
              · first
                  | (refine Or.inr ⟨by rfl, ?_⟩; exact rfl)
                  | (refine Or.inl ⟨by rfl, ?_⟩
                     intro w hSw
                     (try dsimp only at hSw)
                     (try go_split_ands)
                     go_simp
                     (first | done | with_reducible rfl))
              try simp only [Act.put, List.setIfInBounds_toArray, List.set_cons_zero, List.set_cons_succ]
              refine wpAnyH_ready (rs := [15]) (by kernel_rfl) (by simp) ?_
              refine call_h 15 ⟨?_, ?_, fun K hK => ?_⟩
              rotate_left 1
              · (simp only [List.getElem?_toArray, List.getElem?_cons_succ, List.getElem?_cons_zero]; exact rfl)
              go_simp
              (go_at_call 27; refine (rputN HMW.out.drew hB0 _ 8 an).mono ?_; rintro e wp ⟨⟨x_, rfl⟩, hmP, hlP⟩)
              go_wp2_with fail
              have hl1 : Left [d] wd wp := ⟨hlP.os, hlP.tape, hlP.output, hlP.size, hlP.block⟩
              have HM1' := Lib.hid hmP
              have HLW1 : Hid (Left [d] wa wp) := Lib.hid (HLW.out.trans (T := [d]) hl1 (by simp))
              have i1 := cell_left' i0 hl1 (by simp [hRd])
              have j1 := cell_left' hc0 hl1 (by simp [g2])
              have p1 := cell_left' y1 hl1 (by simp [hn1'])
              have p2 := cell_left' y2 hl1 (by simp [hn1'])
              clear hmP hlP hl1 i0 hc0 y1 y2
              refine hK.out _ _ ⟨i1, j1, p1⟩ (fun hHeld => ?_)
              clear hK K
              (try simp only [Act.put, List.setIfInBounds_toArray, List.set_cons_zero, List.set_cons_succ])
              refine wpAnyH_done (by kernel_rfl) ?_ _
              clear hHeld
              clear p1
              go_wp2
              refine wp_region_held_drew (S := fun wx => wx.cell? ⟨R, 0, none⟩ = some (.pointer (some ⟨m, 0, none⟩)) ∧ wx.cell? ⟨g, j, none⟩ = some (.int .i64 x) ∧ wx.cell? ⟨bb, bo + j * 3 + 1, none⟩ = some (.int .i64 ln)) (by kernel_rfl) ⟨i1, j1, p2⟩ (fun hHeld => ?_)
              refine take_h 0 ⟨?_, ?_, ?_, by kernel_rfl, by kernel_rfl, by kernel_rfl, ?_, ?_, by assumption, ?_⟩
              rotate_left 2
              · (simp only [List.getElem?_toArray, List.getElem?_cons_zero]; exact rfl)
              · exact fun _ _ _ h => h
              · first
                  | (refine Or.inr ⟨by rfl, ?_⟩; exact rfl)
                  | (refine Or.inl ⟨by rfl, ?_⟩
                     intro w hSw
                     (try dsimp only at hSw)
                     (try go_split_ands)
                     go_simp
                     (first | done | with_reducible rfl))
              try simp only [Act.put, List.setIfInBounds_toArray, List.set_cons_zero, List.set_cons_succ]
              refine take_h 1 ⟨?_, ?_, ?_, by kernel_rfl, by kernel_rfl, by kernel_rfl, ?_, ?_, by assumption, ?_⟩
              rotate_left 2
              · (simp only [List.getElem?_toArray, List.getElem?_cons_succ, List.getElem?_cons_zero]; exact rfl)
              · exact fun _ _ _ h => h
              · first
                  | (refine Or.inr ⟨by rfl, ?_⟩; exact rfl)
                  | (refine Or.inl ⟨by rfl, ?_⟩
                     intro w hSw
                     (try dsimp only at hSw)
                     (try go_split_ands)
                     go_simp
                     (first | done | with_reducible rfl))
              try simp only [Act.put, List.setIfInBounds_toArray, List.set_cons_zero, List.set_cons_succ]
              refine take_h 2 ⟨?_, ?_, ?_, by kernel_rfl, by kernel_rfl, by kernel_rfl, ?_, ?_, by assumption, ?_⟩
              rotate_left 2
              · (simp only [List.getElem?_toArray, List.getElem?_cons_succ, List.getElem?_cons_zero]; exact rfl)
              · exact fun _ _ _ h => h
              · first
                  | (refine Or.inr ⟨by rfl, ?_⟩; exact rfl)
                  | (refine Or.inl ⟨by rfl, ?_⟩
                     intro w hSw
                     (try dsimp only at hSw)
                     (try go_split_ands)
                     go_simp
                     (first | done | with_reducible rfl))
              try simp only [Act.put, List.setIfInBounds_toArray, List.set_cons_zero, List.set_cons_succ]
              refine take_h 3 ⟨?_, ?_, ?_, by kernel_rfl, by kernel_rfl, by kernel_rfl, ?_, ?_, by assumption, ?_⟩
              rotate_left 2
              · (simp only [List.getElem?_toArray, List.getElem?_cons_succ, List.getElem?_cons_zero]; exact rfl)
              · exact fun _ _ _ h => h
              · first
                  | (refine Or.inr ⟨by rfl, ?_⟩; exact rfl)
                  | (refine Or.inl ⟨by rfl, ?_⟩
                     intro w hSw
                     (try dsimp only at hSw)
                     (try go_split_ands)
                     go_simp
                     (first | done | with_reducible rfl))
              try simp only [Act.put, List.setIfInBounds_toArray, List.set_cons_zero, List.set_cons_succ]
              refine take_h 4 ⟨?_, ?_, ?_, by kernel_rfl, by kernel_rfl, by kernel_rfl, ?_, ?_, by assumption, ?_⟩
              rotate_left 2
              · (simp only [List.getElem?_toArray, List.getElem?_cons_succ, List.getElem?_cons_zero]; exact rfl)
              · exact fun _ _ _ h => h
              · first
                  | (refine Or.inr ⟨by rfl, ?_⟩; exact rfl)
                  | (refine Or.inl ⟨by rfl, ?_⟩
                     intro w hSw
                     (try dsimp only at hSw)
                     (try go_split_ands)
                     go_simp
                     (first | done | with_reducible rfl))
              try simp only [Act.put, List.setIfInBounds_toArray, List.set_cons_zero, List.set_cons_succ]
              refine take_h 5 ⟨?_, ?_, ?_, by kernel_rfl, by kernel_rfl, by kernel_rfl, ?_, ?_, by assumption, ?_⟩
              rotate_left 2
              · (simp only [List.getElem?_toArray, List.getElem?_cons_succ, List.getElem?_cons_zero]; exact rfl)
              · exact fun _ _ _ h => h
              · first
                  | (refine Or.inr ⟨by rfl, ?_⟩; exact rfl)
                  | (refine Or.inl ⟨by rfl, ?_⟩
                     intro w hSw
                     (try dsimp only at hSw)
                     (try go_split_ands)
                     go_simp
                     (first | done | with_reducible rfl))
              try simp only [Act.put, List.setIfInBounds_toArray, List.set_cons_zero, List.set_cons_succ]
              refine take_h 6 ⟨?_, ?_, ?_, by kernel_rfl, by kernel_rfl, by kernel_rfl, ?_, ?_, by assumption, ?_⟩
              rotate_left 2
              · (simp only [List.getElem?_toArray, List.getElem?_cons_succ, List.getElem?_cons_zero]; exact rfl)
              · exact fun _ _ _ h => h
              · first
                  | (refine Or.inr ⟨by rfl, ?_⟩; exact rfl)
                  | (refine Or.inl ⟨by rfl, ?_⟩
                     intro w hSw
                     (try dsimp only at hSw)
                     (try go_split_ands)
                     go_simp
                     (first | done | with_reducible rfl))
              try simp only [Act.put, List.setIfInBounds_toArray, List.set_cons_zero, List.set_cons_succ]
              refine take_h 7 ⟨?_, ?_, ?_, by kernel_rfl, by kernel_rfl, by kernel_rfl, ?_, ?_, by assumption, ?_⟩
              rotate_left 2
              · (simp only [List.getElem?_toArray, List.getElem?_cons_succ, List.getElem?_cons_zero]; exact rfl)
              · exact fun _ _ _ h => h
              · first
                  | (refine Or.inr ⟨by rfl, ?_⟩; exact rfl)
                  | (refine Or.inl ⟨by rfl, ?_⟩
                     intro w hSw
                     (try dsimp only at hSw)
                     (try go_split_ands)
                     go_simp
                     (first | done | with_reducible rfl))
              try simp only [Act.put, List.setIfInBounds_toArray, List.set_cons_zero, List.set_cons_succ]
              refine take_h 8 ⟨?_, ?_, ?_, by kernel_rfl, by kernel_rfl, by kernel_rfl, ?_, ?_, by assumption, ?_⟩
              rotate_left 2
              · (simp only [List.getElem?_toArray, List.getElem?_cons_succ, List.getElem?_cons_zero]; exact rfl)
              · exact fun _ _ _ h => h
              · first
                  | (refine Or.inr ⟨by rfl, ?_⟩; exact rfl)
                  | (refine Or.inl ⟨by rfl, ?_⟩
                     intro w hSw
                     (try dsimp only at hSw)
                     (try go_split_ands)
                     go_simp
                     (first | done | with_reducible rfl))
              try simp only [Act.put, List.setIfInBounds_toArray, List.set_cons_zero, List.set_cons_succ]
              refine take_h 9 ⟨?_, ?_, ?_, by kernel_rfl, by kernel_rfl, by kernel_rfl, ?_, ?_, by assumption, ?_⟩
              rotate_left 2
              · (simp only [List.getElem?_toArray, List.getElem?_cons_succ, List.getElem?_cons_zero]; exact rfl)
              · exact fun _ _ _ h => h
              · first
                  | (refine Or.inr ⟨by rfl, ?_⟩; exact rfl)
                  | (refine Or.inl ⟨by rfl, ?_⟩
                     intro w hSw
                     (try dsimp only at hSw)
                     (try go_split_ands)
                     go_simp
                     (first | done | with_reducible rfl))
              try simp only [Act.put, List.setIfInBounds_toArray, List.set_cons_zero, List.set_cons_succ]
              refine take_h 10 ⟨?_, ?_, ?_, by kernel_rfl, by kernel_rfl, by kernel_rfl, ?_, ?_, by assumption, ?_⟩
              rotate_left 2
              · (simp only [List.getElem?_toArray, List.getElem?_cons_succ, List.getElem?_cons_zero]; exact rfl)
              · exact fun _ _ _ h => h
              · first
                  | (refine Or.inr ⟨by rfl, ?_⟩; exact rfl)
                  | (refine Or.inl ⟨by rfl, ?_⟩
                     intro w hSw
                     (try dsimp only at hSw)
                     (try go_split_ands)
                     go_simp
                     (first | done | with_reducible rfl))
              try simp only [Act.put, List.setIfInBounds_toArray, List.set_cons_zero, List.set_cons_succ]
              refine take_h 11 ⟨?_, ?_, ?_, by kernel_rfl, by kernel_rfl, by kernel_rfl, ?_, ?_, by assumption, ?_⟩
              rotate_left 2
              · (simp only [List.getElem?_toArray, List.getElem?_cons_succ, List.getElem?_cons_zero]; exact rfl)
              · exact fun _ _ _ h => h
              · first
                  | (refine Or.inr ⟨by rfl, ?_⟩; exact rfl)
                  | (refine Or.inl ⟨by rfl, ?_⟩
                     intro w hSw
                     (try dsimp only at hSw)
                     (try go_split_ands)
                     go_simp
                     (first | done | with_reducible rfl))
              try simp only [Act.put, List.setIfInBounds_toArray, List.set_cons_zero, List.set_cons_succ]
              refine take_h 12 ⟨?_, ?_, ?_, by kernel_rfl, by kernel_rfl, by kernel_rfl, ?_, ?_, by assumption, ?_⟩
              rotate_left 2
              · (simp only [List.getElem?_toArray, List.getElem?_cons_succ, List.getElem?_cons_zero]; exact rfl)
              · exact fun _ _ _ h => h
              · first
                  | (refine Or.inr ⟨by rfl, ?_⟩; exact rfl)
                  | (refine Or.inl ⟨by rfl, ?_⟩
                     intro w hSw
                     (try dsimp only at hSw)
                     (try go_split_ands)
                     go_simp
                     (first | done | with_reducible rfl))
              try simp only [Act.put, List.setIfInBounds_toArray, List.set_cons_zero, List.set_cons_succ]
              refine take_h 13 ⟨?_, ?_, ?_, by kernel_rfl, by kernel_rfl, by kernel_rfl, ?_, ?_, by assumption, ?_⟩
              rotate_left 2
              · (simp only [List.getElem?_toArray, List.getElem?_cons_succ, List.getElem?_cons_zero]; exact rfl)
              · exact fun _ _ _ h => h
              · first
                  | (refine Or.inr ⟨by rfl, ?_⟩; exact rfl)
                  | (refine Or.inl ⟨by rfl, ?_⟩
                     intro w hSw
                     (try dsimp only at hSw)
                     (try go_split_ands)
                     go_simp
                     (first | done | with_reducible rfl))
              try simp only [Act.put, List.setIfInBounds_toArray, List.set_cons_zero, List.set_cons_succ]
              refine take_h 14 ⟨?_, ?_, ?_, by kernel_rfl, by kernel_rfl, by kernel_rfl, ?_, ?_, by assumption, ?_⟩
              rotate_left 2
              · (simp only [List.getElem?_toArray, List.getElem?_cons_succ, List.getElem?_cons_zero]; exact rfl)
              · exact fun _ _ _ h => h
              · first
                  | (refine Or.inr ⟨by rfl, ?_⟩; exact rfl)
                  | (refine Or.inl ⟨by rfl, ?_⟩
                     intro w hSw
                     (try dsimp only at hSw)
                     (try go_split_ands)
                     go_simp
                     (first | done | with_reducible rfl))
              try simp only [Act.put, List.setIfInBounds_toArray, List.set_cons_zero, List.set_cons_succ]
              refine take_h 15 ⟨?_, ?_, ?_, by kernel_rfl, by kernel_rfl, by kernel_rfl, ?_, ?_, by assumption, ?_⟩
              rotate_left 2
              · (simp only [List.getElem?_toArray, List.getElem?_cons_succ, List.getElem?_cons_zero]; exact rfl)
              · exact fun _ _ _ h => h
              · first
                  | (refine Or.inr ⟨by rfl, ?_⟩; exact rfl)
                  | (refine Or.inl ⟨by rfl, ?_⟩
                     intro w hSw
                     (try dsimp only at hSw)
                     (try go_split_ands)
                     go_simp
                     (first | done | with_reducible rfl))
              try simp only [Act.put, List.setIfInBounds_toArray, List.set_cons_zero, List.set_cons_succ]
              obtain ⟨w1_, hw1_⟩ : ∃ u, u = wp := ⟨_, rfl⟩
              subst hw1_
              refine wpAnyH_ready (rs := [16]) (by kernel_rfl) (by simp) ?_
              refine call_h 16 ⟨?_, ?_, fun K hK => ?_⟩
              rotate_left 1
              · (simp only [List.getElem?_toArray, List.getElem?_cons_succ, List.getElem?_cons_zero]; exact rfl)
              go_simp
              (go_at_call 27; refine (rputN HM1'.out.drew (by rw [putV_length]; exact hB0) _ 4 ln).mono ?_; rintro e wp ⟨⟨x_, rfl⟩, hmP, hlP⟩)
              go_wp2_with fail
              have hl1 : Left [d] w1_ wp := ⟨hlP.os, hlP.tape, hlP.output, hlP.size, hlP.block⟩
              have HM2' := Lib.hid hmP
              have HLW2 : Hid (Left [d] wa wp) := Lib.hid (HLW1.out.trans (T := [d]) hl1 (by simp))
              have i2 := cell_left' i1 hl1 (by simp [hRd])
              have j2 := cell_left' j1 hl1 (by simp [g2])
              have p3 := cell_left' p2 hl1 (by simp [hn1'])
              clear hmP hlP hl1 i1 j1 p2
              refine hK.out _ _ ⟨i2, j2, p3⟩ (fun hHeld => ?_)
              clear hK K
              (try simp only [Act.put, List.setIfInBounds_toArray, List.set_cons_zero, List.set_cons_succ])
              refine wpAnyH_done (by kernel_rfl) ?_ _
              clear hHeld
              clear p3
              go_wp2
              refine wp_region_held_drew (S := fun wx => wx.cell? ⟨R, 0, none⟩ = some (.pointer (some ⟨m, 0, none⟩)) ∧ wx.cell? ⟨g, j, none⟩ = some (.int .i64 x)) (by kernel_rfl) ⟨i2, j2⟩ (fun hHeld => ?_)
              refine take_h 0 ⟨?_, ?_, ?_, by kernel_rfl, by kernel_rfl, by kernel_rfl, ?_, ?_, by assumption, ?_⟩
              rotate_left 2
              · (simp only [List.getElem?_toArray, List.getElem?_cons_zero]; exact rfl)
              · exact fun _ _ _ h => h
              · first
                  | (refine Or.inr ⟨by rfl, ?_⟩; exact rfl)
                  | (refine Or.inl ⟨by rfl, ?_⟩
                     intro w hSw
                     (try dsimp only at hSw)
                     (try go_split_ands)
                     go_simp
                     (first | done | with_reducible rfl))
              try simp only [Act.put, List.setIfInBounds_toArray, List.set_cons_zero, List.set_cons_succ]
              refine take_h 1 ⟨?_, ?_, ?_, by kernel_rfl, by kernel_rfl, by kernel_rfl, ?_, ?_, by assumption, ?_⟩
              rotate_left 2
              · (simp only [List.getElem?_toArray, List.getElem?_cons_succ, List.getElem?_cons_zero]; exact rfl)
              · exact fun _ _ _ h => h
              · first
                  | (refine Or.inr ⟨by rfl, ?_⟩; exact rfl)
                  | (refine Or.inl ⟨by rfl, ?_⟩
                     intro w hSw
                     (try dsimp only at hSw)
                     (try go_split_ands)
                     go_simp
                     (first | done | with_reducible rfl))
              try simp only [Act.put, List.setIfInBounds_toArray, List.set_cons_zero, List.set_cons_succ]
              refine take_h 2 ⟨?_, ?_, ?_, by kernel_rfl, by kernel_rfl, by kernel_rfl, ?_, ?_, by assumption, ?_⟩
              rotate_left 2
              · (simp only [List.getElem?_toArray, List.getElem?_cons_succ, List.getElem?_cons_zero]; exact rfl)
              · exact fun _ _ _ h => h
              · first
                  | (refine Or.inr ⟨by rfl, ?_⟩; exact rfl)
                  | (refine Or.inl ⟨by rfl, ?_⟩
                     intro w hSw
                     (try dsimp only at hSw)
                     (try go_split_ands)
                     go_simp
                     (first | done | with_reducible rfl))
              try simp only [Act.put, List.setIfInBounds_toArray, List.set_cons_zero, List.set_cons_succ]
              refine take_h 3 ⟨?_, ?_, ?_, by kernel_rfl, by kernel_rfl, by kernel_rfl, ?_, ?_, by assumption, ?_⟩
              rotate_left 2
              · (simp only [List.getElem?_toArray, List.getElem?_cons_succ, List.getElem?_cons_zero]; exact rfl)
              · exact fun _ _ _ h => h
              · first
                  | (refine Or.inr ⟨by rfl, ?_⟩; exact rfl)
                  | (refine Or.inl ⟨by rfl, ?_⟩
                     intro w hSw
                     (try dsimp only at hSw)
                     (try go_split_ands)
                     go_simp
                     (first | done | with_reducible rfl))
              try simp only [Act.put, List.setIfInBounds_toArray, List.set_cons_zero, List.set_cons_succ]
              refine take_h 4 ⟨?_, ?_, ?_, by kernel_rfl, by kernel_rfl, by kernel_rfl, ?_, ?_, by assumption, ?_⟩
              rotate_left 2
              · (simp only [List.getElem?_toArray, List.getElem?_cons_succ, List.getElem?_cons_zero]; exact rfl)
              · exact fun _ _ _ h => h
              · first
                  | (refine Or.inr ⟨by rfl, ?_⟩; exact rfl)
                  | (refine Or.inl ⟨by rfl, ?_⟩
                     intro w hSw
                     (try dsimp only at hSw)
                     (try go_split_ands)
                     go_simp
                     (first | done | with_reducible rfl))
              try simp only [Act.put, List.setIfInBounds_toArray, List.set_cons_zero, List.set_cons_succ]
              refine take_h 5 ⟨?_, ?_, ?_, by kernel_rfl, by kernel_rfl, by kernel_rfl, ?_, ?_, by assumption, ?_⟩
              rotate_left 2
              · (simp only [List.getElem?_toArray, List.getElem?_cons_succ, List.getElem?_cons_zero]; exact rfl)
              · exact fun _ _ _ h => h
              · first
                  | (refine Or.inr ⟨by rfl, ?_⟩; exact rfl)
                  | (refine Or.inl ⟨by rfl, ?_⟩
                     intro w hSw
                     (try dsimp only at hSw)
                     (try go_split_ands)
                     go_simp
                     (first | done | with_reducible rfl))
              try simp only [Act.put, List.setIfInBounds_toArray, List.set_cons_zero, List.set_cons_succ]
              refine take_h 6 ⟨?_, ?_, ?_, by kernel_rfl, by kernel_rfl, by kernel_rfl, ?_, ?_, by assumption, ?_⟩
              rotate_left 2
              · (simp only [List.getElem?_toArray, List.getElem?_cons_succ, List.getElem?_cons_zero]; exact rfl)
              · exact fun _ _ _ h => h
              · first
                  | (refine Or.inr ⟨by rfl, ?_⟩; exact rfl)
                  | (refine Or.inl ⟨by rfl, ?_⟩
                     intro w hSw
                     (try dsimp only at hSw)
                     (try go_split_ands)
                     go_simp
                     (first | done | with_reducible rfl))
              try simp only [Act.put, List.setIfInBounds_toArray, List.set_cons_zero, List.set_cons_succ]
              refine take_h 7 ⟨?_, ?_, ?_, by kernel_rfl, by kernel_rfl, by kernel_rfl, ?_, ?_, by assumption, ?_⟩
              rotate_left 2
              · (simp only [List.getElem?_toArray, List.getElem?_cons_succ, List.getElem?_cons_zero]; exact rfl)
              · exact fun _ _ _ h => h
              · first
                  | (refine Or.inr ⟨by rfl, ?_⟩; exact rfl)
                  | (refine Or.inl ⟨by rfl, ?_⟩
                     intro w hSw
                     (try dsimp only at hSw)
                     (try go_split_ands)
                     go_simp
                     (first | done | with_reducible rfl))
              try simp only [Act.put, List.setIfInBounds_toArray, List.set_cons_zero, List.set_cons_succ]
              refine take_h 8 ⟨?_, ?_, ?_, by kernel_rfl, by kernel_rfl, by kernel_rfl, ?_, ?_, by assumption, ?_⟩
              rotate_left 2
              · (simp only [List.getElem?_toArray, List.getElem?_cons_succ, List.getElem?_cons_zero]; exact rfl)
              · exact fun _ _ _ h => h
              · first
                  | (refine Or.inr ⟨by rfl, ?_⟩; exact rfl)
                  | (refine Or.inl ⟨by rfl, ?_⟩
                     intro w hSw
                     (try dsimp only at hSw)
                     (try go_split_ands)
                     go_simp
                     (first | done | with_reducible rfl))
              try simp only [Act.put, List.setIfInBounds_toArray, List.set_cons_zero, List.set_cons_succ]
              refine take_h 9 ⟨?_, ?_, ?_, by kernel_rfl, by kernel_rfl, by kernel_rfl, ?_, ?_, by assumption, ?_⟩
              rotate_left 2
              · (simp only [List.getElem?_toArray, List.getElem?_cons_succ, List.getElem?_cons_zero]; exact rfl)
              · exact fun _ _ _ h => h
              · first
                  | (refine Or.inr ⟨by rfl, ?_⟩; exact rfl)
                  | (refine Or.inl ⟨by rfl, ?_⟩
                     intro w hSw
                     (try dsimp only at hSw)
                     (try go_split_ands)
                     go_simp
                     (first | done | with_reducible rfl))
              try simp only [Act.put, List.setIfInBounds_toArray, List.set_cons_zero, List.set_cons_succ]
              refine take_h 10 ⟨?_, ?_, ?_, by kernel_rfl, by kernel_rfl, by kernel_rfl, ?_, ?_, by assumption, ?_⟩
              rotate_left 2
              · (simp only [List.getElem?_toArray, List.getElem?_cons_succ, List.getElem?_cons_zero]; exact rfl)
              · exact fun _ _ _ h => h
              · first
                  | (refine Or.inr ⟨by rfl, ?_⟩; exact rfl)
                  | (refine Or.inl ⟨by rfl, ?_⟩
                     intro w hSw
                     (try dsimp only at hSw)
                     (try go_split_ands)
                     go_simp
                     (first | done | with_reducible rfl))
              try simp only [Act.put, List.setIfInBounds_toArray, List.set_cons_zero, List.set_cons_succ]
              obtain ⟨w2_, hw2_⟩ : ∃ u, u = wp := ⟨_, rfl⟩
              subst hw2_
              refine wpAnyH_ready (rs := [11]) (by kernel_rfl) (by simp) ?_
              refine call_h 11 ⟨?_, ?_, fun K hK => ?_⟩
              rotate_left 1
              · (simp only [List.getElem?_toArray, List.getElem?_cons_succ, List.getElem?_cons_zero]; exact rfl)
              go_simp
              (go_at_call 27; refine (rputN HM2'.out.drew (by rw [putV_length, putV_length]; exact hB0) _ 2 f2).mono ?_; rintro e wp ⟨⟨x_, rfl⟩, hmP, hlP⟩)
              go_wp2_with fail
              have hl1 : Left [d] w2_ wp := ⟨hlP.os, hlP.tape, hlP.output, hlP.size, hlP.block⟩
              have HM3' := Lib.hid hmP
              have HLW3 : Hid (Left [d] wa wp) := Lib.hid (HLW2.out.trans (T := [d]) hl1 (by simp))
              have i3 := cell_left' i2 hl1 (by simp [hRd])
              have j3 := cell_left' j2 hl1 (by simp [g2])
              clear hmP hlP hl1 i2 j2
              refine hK.out _ _ ⟨i3, j3⟩ (fun hHeld => ?_)
              clear hK K
              (try simp only [Act.put, List.setIfInBounds_toArray, List.set_cons_zero, List.set_cons_succ])
              refine wpAnyH_done (by kernel_rfl) ?_ _
              clear hHeld
              go_wp2
              refine wp_region_held_drew (S := fun wx => wx.cell? ⟨R, 0, none⟩ = some (.pointer (some ⟨m, 0, none⟩)) ∧ wx.cell? ⟨g, j, none⟩ = some (.int .i64 x)) (by kernel_rfl) ⟨i3, j3⟩ (fun hHeld => ?_)
              refine take_h 0 ⟨?_, ?_, ?_, by kernel_rfl, by kernel_rfl, by kernel_rfl, ?_, ?_, by assumption, ?_⟩
              rotate_left 2
              · (simp only [List.getElem?_toArray, List.getElem?_cons_zero]; exact rfl)
              · exact fun _ _ _ h => h
              · first
                  | (refine Or.inr ⟨by rfl, ?_⟩; exact rfl)
                  | (refine Or.inl ⟨by rfl, ?_⟩
                     intro w hSw
                     (try dsimp only at hSw)
                     (try go_split_ands)
                     go_simp
                     (first | done | with_reducible rfl))
              try simp only [Act.put, List.setIfInBounds_toArray, List.set_cons_zero, List.set_cons_succ]
              refine take_h 1 ⟨?_, ?_, ?_, by kernel_rfl, by kernel_rfl, by kernel_rfl, ?_, ?_, by assumption, ?_⟩
              rotate_left 2
              · (simp only [List.getElem?_toArray, List.getElem?_cons_succ, List.getElem?_cons_zero]; exact rfl)
              · exact fun _ _ _ h => h
              · first
                  | (refine Or.inr ⟨by rfl, ?_⟩; exact rfl)
                  | (refine Or.inl ⟨by rfl, ?_⟩
                     intro w hSw
                     (try dsimp only at hSw)
                     (try go_split_ands)
                     go_simp
                     (first | done | with_reducible rfl))
              try simp only [Act.put, List.setIfInBounds_toArray, List.set_cons_zero, List.set_cons_succ]
              refine take_h 2 ⟨?_, ?_, ?_, by kernel_rfl, by kernel_rfl, by kernel_rfl, ?_, ?_, by assumption, ?_⟩
              rotate_left 2
              · (simp only [List.getElem?_toArray, List.getElem?_cons_succ, List.getElem?_cons_zero]; exact rfl)
              · exact fun _ _ _ h => h
              · first
                  | (refine Or.inr ⟨by rfl, ?_⟩; exact rfl)
                  | (refine Or.inl ⟨by rfl, ?_⟩
                     intro w hSw
                     (try dsimp only at hSw)
                     (try go_split_ands)
                     go_simp
                     (first | done | with_reducible rfl))
              try simp only [Act.put, List.setIfInBounds_toArray, List.set_cons_zero, List.set_cons_succ]
              refine take_h 3 ⟨?_, ?_, ?_, by kernel_rfl, by kernel_rfl, by kernel_rfl, ?_, ?_, by assumption, ?_⟩
              rotate_left 2
              · (simp only [List.getElem?_toArray, List.getElem?_cons_succ, List.getElem?_cons_zero]; exact rfl)
              · exact fun _ _ _ h => h
              · first
                  | (refine Or.inr ⟨by rfl, ?_⟩; exact rfl)
                  | (refine Or.inl ⟨by rfl, ?_⟩
                     intro w hSw
                     (try dsimp only at hSw)
                     (try go_split_ands)
                     go_simp
                     (first | done | with_reducible rfl))
              try simp only [Act.put, List.setIfInBounds_toArray, List.set_cons_zero, List.set_cons_succ]
              refine take_h 4 ⟨?_, ?_, ?_, by kernel_rfl, by kernel_rfl, by kernel_rfl, ?_, ?_, by assumption, ?_⟩
              rotate_left 2
              · (simp only [List.getElem?_toArray, List.getElem?_cons_succ, List.getElem?_cons_zero]; exact rfl)
              · exact fun _ _ _ h => h
              · first
                  | (refine Or.inr ⟨by rfl, ?_⟩; exact rfl)
                  | (refine Or.inl ⟨by rfl, ?_⟩
                     intro w hSw
                     (try dsimp only at hSw)
                     (try go_split_ands)
                     go_simp
                     (first | done | with_reducible rfl))
              try simp only [Act.put, List.setIfInBounds_toArray, List.set_cons_zero, List.set_cons_succ]
              refine take_h 5 ⟨?_, ?_, ?_, by kernel_rfl, by kernel_rfl, by kernel_rfl, ?_, ?_, by assumption, ?_⟩
              rotate_left 2
              · (simp only [List.getElem?_toArray, List.getElem?_cons_succ, List.getElem?_cons_zero]; exact rfl)
              · exact fun _ _ _ h => h
              · first
                  | (refine Or.inr ⟨by rfl, ?_⟩; exact rfl)
                  | (refine Or.inl ⟨by rfl, ?_⟩
                     intro w hSw
                     (try dsimp only at hSw)
                     (try go_split_ands)
                     go_simp
                     (first | done | with_reducible rfl))
              try simp only [Act.put, List.setIfInBounds_toArray, List.set_cons_zero, List.set_cons_succ]
              refine take_h 6 ⟨?_, ?_, ?_, by kernel_rfl, by kernel_rfl, by kernel_rfl, ?_, ?_, by assumption, ?_⟩
              rotate_left 2
              · (simp only [List.getElem?_toArray, List.getElem?_cons_succ, List.getElem?_cons_zero]; exact rfl)
              · exact fun _ _ _ h => h
              · first
                  | (refine Or.inr ⟨by rfl, ?_⟩; exact rfl)
                  | (refine Or.inl ⟨by rfl, ?_⟩
                     intro w hSw
                     (try dsimp only at hSw)
                     (try go_split_ands)
                     go_simp
                     (first | done | with_reducible rfl))
              try simp only [Act.put, List.setIfInBounds_toArray, List.set_cons_zero, List.set_cons_succ]
              refine take_h 7 ⟨?_, ?_, ?_, by kernel_rfl, by kernel_rfl, by kernel_rfl, ?_, ?_, by assumption, ?_⟩
              rotate_left 2
              · (simp only [List.getElem?_toArray, List.getElem?_cons_succ, List.getElem?_cons_zero]; exact rfl)
              · exact fun _ _ _ h => h
              · first
                  | (refine Or.inr ⟨by rfl, ?_⟩; exact rfl)
                  | (refine Or.inl ⟨by rfl, ?_⟩
                     intro w hSw
                     (try dsimp only at hSw)
                     (try go_split_ands)
                     go_simp
                     (first | done | with_reducible rfl))
              try simp only [Act.put, List.setIfInBounds_toArray, List.set_cons_zero, List.set_cons_succ]
              refine take_h 8 ⟨?_, ?_, ?_, by kernel_rfl, by kernel_rfl, by kernel_rfl, ?_, ?_, by assumption, ?_⟩
              rotate_left 2
              · (simp only [List.getElem?_toArray, List.getElem?_cons_succ, List.getElem?_cons_zero]; exact rfl)
              · exact fun _ _ _ h => h
              · first
                  | (refine Or.inr ⟨by rfl, ?_⟩; exact rfl)
                  | (refine Or.inl ⟨by rfl, ?_⟩
                     intro w hSw
                     (try dsimp only at hSw)
                     (try go_split_ands)
                     go_simp
                     (first | done | with_reducible rfl))
              try simp only [Act.put, List.setIfInBounds_toArray, List.set_cons_zero, List.set_cons_succ]
              refine take_h 9 ⟨?_, ?_, ?_, by kernel_rfl, by kernel_rfl, by kernel_rfl, ?_, ?_, by assumption, ?_⟩
              rotate_left 2
              · (simp only [List.getElem?_toArray, List.getElem?_cons_succ, List.getElem?_cons_zero]; exact rfl)
              · exact fun _ _ _ h => h
              · first
                  | (refine Or.inr ⟨by rfl, ?_⟩; exact rfl)
                  | (refine Or.inl ⟨by rfl, ?_⟩
                     intro w hSw
                     (try dsimp only at hSw)
                     (try go_split_ands)
                     go_simp
                     (first | done | with_reducible rfl))
              try simp only [Act.put, List.setIfInBounds_toArray, List.set_cons_zero, List.set_cons_succ]
              refine take_h 10 ⟨?_, ?_, ?_, by kernel_rfl, by kernel_rfl, by kernel_rfl, ?_, ?_, by assumption, ?_⟩
              rotate_left 2
              · (simp only [List.getElem?_toArray, List.getElem?_cons_succ, List.getElem?_cons_zero]; exact rfl)
              · exact fun _ _ _ h => h
              · first
                  | (refine Or.inr ⟨by rfl, ?_⟩; exact rfl)
                  | (refine Or.inl ⟨by rfl, ?_⟩
                     intro w hSw
                     (try dsimp only at hSw)
                     (try go_split_ands)
                     go_simp
                     (first | done | with_reducible rfl))
              try simp only [Act.put, List.setIfInBounds_toArray, List.set_cons_zero, List.set_cons_succ]
              obtain ⟨w3_, hw3_⟩ : ∃ u, u = wp := ⟨_, rfl⟩
              subst hw3_
              refine wpAnyH_ready (rs := [11]) (by kernel_rfl) (by simp) ?_
              refine call_h 11 ⟨?_, ?_, fun K hK => ?_⟩
              rotate_left 1
              · (simp only [List.getElem?_toArray, List.getElem?_cons_succ, List.getElem?_cons_zero]; exact rfl)
              go_simp
              (go_at_call 27; refine (rputN HM3'.out.drew (by rw [putV_length, putV_length, putV_length]; exact hB0) _ 2 nv).mono ?_; rintro e wp ⟨⟨x_, rfl⟩, hmP, hlP⟩)
              go_wp2_with fail
              have hl1 : Left [d] w3_ wp := ⟨hlP.os, hlP.tape, hlP.output, hlP.size, hlP.block⟩
              have HM4' := Lib.hid hmP
              have HLW4 : Hid (Left [d] wa wp) := Lib.hid (HLW3.out.trans (T := [d]) hl1 (by simp))
              have i4 := cell_left' i3 hl1 (by simp [hRd])
              have j4 := cell_left' j3 hl1 (by simp [g2])
              clear hmP hlP hl1 i3 j3
              refine hK.out _ _ ⟨i4, j4⟩ (fun hHeld => ?_)
              clear hK K
              (try simp only [Act.put, List.setIfInBounds_toArray, List.set_cons_zero, List.set_cons_succ])
              refine wpAnyH_done (by kernel_rfl) ?_ _
              clear hHeld
              go_wp2
              go_roundw
              case rel =>
                refine ⟨j + 1, by omega, by go_num, ?_, ?_, HLW4.out⟩
                · rw [HWS.out, ← HS1.out, HLn.out]
                · rw [descsB_succ HB.out HX2.out, HNX.out]
                  unfold oneB
                  have e1 : b.addr.toNat = an := by rw [HA.out]; simp
                  have e2 : b.len.toNat = ln := by rw [HLn.out]; simp
                  have e3 : (if b.wr then 2 else 0) + (if nx.isSome then 1 else 0) = f2 := flags_nat _ _ _ (by rw [HFL.out]; exact HF2.out)
                  rw [e1, e2, e3, HNV.out]
                  exact HM4'.out
              case measure => simp [intOf]; omega
        · have hjL : j = L.length := by omega
          subst hjL
          rw [List.take_length]
          obtain ⟨o0, ho0⟩ : ∃ o0, own[0]? = some o0 := ⟨_, List.getElem?_eq_getElem (by rw [HOwn.out]; omega)⟩
          have ho0q : o0 < q := by rw [← hlen]; exact (List.getElem?_eq_some_iff.1 (HMem.out o0 (List.mem_of_getElem? ho0))).1
          have HO0 := Lib.hid ho0
          have hcg : wr.cell? ⟨g, 0, none⟩ = some (.int .i64 o0) := by
            have := (own_left HO.out HLj.out (by simp; omega)).cellAt 0 (by omega)
            rw [this, i64s, List.getElem?_map, ho0]
            rfl
          have hLw : Left [bt, d] w1 wr := (HLk.out.mono (T := [bt, d]) (by simp)).trans (T := [d]) HLj.out (by simp)
          have HLw := Lib.hid hLw
          have hHd := HR1.out.head.left hLw (by simp [n1, hRd])
          have HHd := Lib.hid hHd
          have hCw := HC1.out.left hLw (by simp [n4.symm, hbcd])
          have HCw := Lib.hid hCw
          have hWw := HR1.out.writes.left hLw (by simp [n5.symm, hbwd])
          have HWw := Lib.hid hWw
          have HSw := Lib.hid (HSk.out.left HLj.out (by simp [hbtd]))
          have k7 : wr.cell? ⟨R, 7, none⟩ = some (.slice (some ⟨bc, 0, none⟩) q q) := by rw [hHd.cell]; rfl
          obtain ⟨cv, hcv⟩ : ∃ cv, C[o0]? = some cv := ⟨_, List.getElem?_eq_getElem (by rw [HCr1.out.length, HR1.out.len.2.1]; exact ho0q)⟩
          have kc : wr.cell? ⟨bc, o0, none⟩ = some cv := by rw [hCw.cell]; exact hcv
          have fc := hCw.free o0
          have b3 : (0 : Int) ≤ (o0 : Int) := by omega
          have b4 : (o0 : Int) < (q : Int) := by omega
          have b5 : 0 < L.length := hL1
          clear ho0 hLw hHd hCw hWw hcv i0
          go_wp2
          refine wp_region_held_drew (S := fun wx => wx.cell? ⟨R, 7, none⟩ = some (.slice (some ⟨bc, 0, none⟩) q q) ∧ wx.cell? ⟨g, 0, none⟩ = some (.int .i64 o0)) (by kernel_rfl) ⟨k7, hcg⟩ (fun hHeld => ?_)
          refine take_h 0 ⟨?_, ?_, ?_, by kernel_rfl, by kernel_rfl, by kernel_rfl, ?_, ?_, by assumption, ?_⟩
          rotate_left 2
          · (simp only [List.getElem?_toArray, List.getElem?_cons_zero]; exact rfl)
          · exact fun _ _ _ h => h
          · first
              | (refine Or.inr ⟨by rfl, ?_⟩; exact rfl)
              | (refine Or.inl ⟨by rfl, ?_⟩
                 intro w hSw
                 (try dsimp only at hSw)
                 (try go_split_ands)
                 go_simp
                 (first | done | with_reducible rfl))
          try simp only [Act.put, List.setIfInBounds_toArray, List.set_cons_zero, List.set_cons_succ]
          refine take_h 1 ⟨?_, ?_, ?_, by kernel_rfl, by kernel_rfl, by kernel_rfl, ?_, ?_, by assumption, ?_⟩
          rotate_left 2
          · (simp only [List.getElem?_toArray, List.getElem?_cons_succ, List.getElem?_cons_zero]; exact rfl)
          · exact fun _ _ _ h => h
          · first
              | (refine Or.inr ⟨by rfl, ?_⟩; exact rfl)
              | (refine Or.inl ⟨by rfl, ?_⟩
                 intro w hSw
                 (try dsimp only at hSw)
                 (try go_split_ands)
                 go_simp
                 (first | done | with_reducible rfl))
          try simp only [Act.put, List.setIfInBounds_toArray, List.set_cons_zero, List.set_cons_succ]
          refine take_h 2 ⟨?_, ?_, ?_, by kernel_rfl, by kernel_rfl, by kernel_rfl, ?_, ?_, by assumption, ?_⟩
          rotate_left 2
          · (simp only [List.getElem?_toArray, List.getElem?_cons_succ, List.getElem?_cons_zero]; exact rfl)
          · exact fun _ _ _ h => h
          · first
              | (refine Or.inr ⟨by rfl, ?_⟩; exact rfl)
              | (refine Or.inl ⟨by rfl, ?_⟩
                 intro w hSw
                 (try dsimp only at hSw)
                 (try go_split_ands)
                 go_simp
                 (first | done | with_reducible rfl))
          try simp only [Act.put, List.setIfInBounds_toArray, List.set_cons_zero, List.set_cons_succ]
          refine take_h 3 ⟨?_, ?_, ?_, by kernel_rfl, by kernel_rfl, by kernel_rfl, ?_, ?_, by assumption, ?_⟩
          rotate_left 2
          · (simp only [List.getElem?_toArray, List.getElem?_cons_succ, List.getElem?_cons_zero]; exact rfl)
          · exact fun _ _ _ h => h
          · first
              | (refine Or.inr ⟨by rfl, ?_⟩; exact rfl)
              | (refine Or.inl ⟨by rfl, ?_⟩
                 intro w hSw
                 (try dsimp only at hSw)
                 (try go_split_ands)
                 go_simp
                 (first | done | with_reducible rfl))
          try simp only [Act.put, List.setIfInBounds_toArray, List.set_cons_zero, List.set_cons_succ]
          refine take_h 4 ⟨?_, ?_, ?_, by kernel_rfl, by kernel_rfl, by kernel_rfl, ?_, ?_, by assumption, ?_⟩
          rotate_left 2
          · (simp only [List.getElem?_toArray, List.getElem?_cons_succ, List.getElem?_cons_zero]; exact rfl)
          · exact fun _ _ _ h => h
          · first
              | (refine Or.inr ⟨by rfl, ?_⟩; exact rfl)
              | (refine Or.inl ⟨by rfl, ?_⟩
                 intro w hSw
                 (try dsimp only at hSw)
                 (try go_split_ands)
                 go_simp
                 (first | done | with_reducible rfl))
          try simp only [Act.put, List.setIfInBounds_toArray, List.set_cons_zero, List.set_cons_succ]
          refine take_h 5 ⟨?_, ?_, ?_, by kernel_rfl, by kernel_rfl, by kernel_rfl, ?_, ?_, by assumption, ?_⟩
          rotate_left 2
          · (simp only [List.getElem?_toArray, List.getElem?_cons_succ, List.getElem?_cons_zero]; exact rfl)
          · exact fun _ _ _ h => h
          · first
              | (refine Or.inr ⟨by rfl, ?_⟩; exact rfl)
              | (refine Or.inl ⟨by rfl, ?_⟩
                 intro w hSw
                 (try dsimp only at hSw)
                 (try go_split_ands)
                 go_simp
                 (first | done | with_reducible rfl))
          try simp only [Act.put, List.setIfInBounds_toArray, List.set_cons_zero, List.set_cons_succ]
          refine take_h 6 ⟨?_, ?_, ?_, by kernel_rfl, by kernel_rfl, by kernel_rfl, ?_, ?_, by assumption, ?_⟩
          rotate_left 2
          · (simp only [List.getElem?_toArray, List.getElem?_cons_succ, List.getElem?_cons_zero]; exact rfl)
          · exact fun _ _ _ h => h
          · first
              | (refine Or.inr ⟨by rfl, ?_⟩; exact rfl)
              | (refine Or.inl ⟨by rfl, ?_⟩
                 intro w hSw
                 (try dsimp only at hSw)
                 (try go_split_ands)
                 go_simp
                 (first | done | with_reducible rfl))
          try simp only [Act.put, List.setIfInBounds_toArray, List.set_cons_zero, List.set_cons_succ]
          refine take_h 7 ⟨?_, ?_, ?_, by kernel_rfl, by kernel_rfl, by kernel_rfl, ?_, ?_, by assumption, ?_⟩
          rotate_left 2
          · (simp only [List.getElem?_toArray, List.getElem?_cons_succ, List.getElem?_cons_zero]; exact rfl)
          · exact fun _ _ _ h => h
          · first
              | (refine Or.inr ⟨by rfl, ?_⟩; exact rfl)
              | (refine Or.inl ⟨by rfl, ?_⟩
                 intro w hSw
                 (try dsimp only at hSw)
                 (try go_split_ands)
                 go_simp
                 (first | done | with_reducible rfl))
          try simp only [Act.put, List.setIfInBounds_toArray, List.set_cons_zero, List.set_cons_succ]
          refine take_h 8 ⟨?_, ?_, ?_, by kernel_rfl, by kernel_rfl, by kernel_rfl, ?_, ?_, by assumption, ?_⟩
          rotate_left 2
          · (simp only [List.getElem?_toArray, List.getElem?_cons_succ, List.getElem?_cons_zero]; exact rfl)
          · exact fun _ _ _ h => h
          · first
              | (refine Or.inr ⟨by rfl, ?_⟩; exact rfl)
              | (refine Or.inl ⟨by rfl, ?_⟩
                 intro w hSw
                 (try dsimp only at hSw)
                 (try go_split_ands)
                 go_simp
                 (first | done | with_reducible rfl))
          try simp only [Act.put, List.setIfInBounds_toArray, List.set_cons_zero, List.set_cons_succ]
          refine wpAnyH_ready (rs := [9]) (by kernel_rfl) (by simp) ?_
          refine call_h 9 ⟨?_, ?_, fun K hK => ?_⟩
          rotate_left 1
          · (simp only [List.getElem?_toArray, List.getElem?_cons_succ, List.getElem?_cons_zero]; exact rfl)
          go_simp
          obtain ⟨wA, hwA⟩ : ∃ u, u = (wr.setCell ⟨bc, o0, none⟩ (.slice (some ⟨g, 0, none⟩) L.length bcap)).drew := ⟨_, rfl⟩
          rw [← hwA]
          have hlA : Left [bc] wr wA := hwA ▸ ((Left.refl _ _).setCell (Or.inl (by simp)) _).drew
          have HCA : Hid (Whole wA bc 22 (C.set o0 (.slice (some ⟨g, 0, none⟩) L.length bcap))) := Lib.hid (hwA ▸ HCw.out.put o0 _)
          have HHA := Lib.hid (HHd.out.left hlA (by simp [n2]))
          have HWA := Lib.hid (HWw.out.left hlA (by simp [n6.symm]))
          have HSA := Lib.hid (HSw.out.left hlA (by simp [n4]))
          have HMA := Lib.hid (HMj.out.left hlA (by simp [hbcm.symm]) (by simp [hbcd.symm]))
          have HLA := Lib.hid (HLw.out.mono (T := [R, bt, bc, bw, d]) (by simp) |>.trans (T := [bc]) hlA (by simp))
          have HLA0 := Lib.hid (HLj.out.mono (T := [bc, d]) (by simp) |>.trans (T := [bc]) hlA (by simp))
          have kg := cell_left' hcg hlA (by simp [g4])
          have k8 : wA.cell? ⟨R, 8, none⟩ = some (.slice (some ⟨bw, 0, none⟩) q q) := by rw [HHA.out.cell]; rfl
          obtain ⟨wv, hwv⟩ : ∃ wv, ws[o0]? = some wv := ⟨_, List.getElem?_eq_getElem (by rw [HR1.out.len.2.2]; exact ho0q)⟩
          have kw : wA.cell? ⟨bw, o0, none⟩ = some (.int .i64 wv) := by rw [HWA.out.cell, List.getElem?_map, hwv]; rfl
          have fw := HWA.out.free o0
          refine hK.out _ _ ⟨cell_left' k7 hlA (by simp [n2]), kg⟩ (fun hHeld => ?_)
          clear hK K hwA hlA hwv kc fc k7 hcg
          (try simp only [Act.put, List.setIfInBounds_toArray, List.set_cons_zero, List.set_cons_succ])
          refine wpAnyH_done (by kernel_rfl) ?_ _
          clear hHeld
          go_wp2
          refine wp_region_held_drew (S := fun wx => wx.cell? ⟨R, 8, none⟩ = some (.slice (some ⟨bw, 0, none⟩) q q) ∧ wx.cell? ⟨g, 0, none⟩ = some (.int .i64 o0)) (by kernel_rfl) ⟨k8, kg⟩ (fun hHeld => ?_)
          refine take_h 0 ⟨?_, ?_, ?_, by kernel_rfl, by kernel_rfl, by kernel_rfl, ?_, ?_, by assumption, ?_⟩
          rotate_left 2
          · (simp only [List.getElem?_toArray, List.getElem?_cons_zero]; exact rfl)
          · exact fun _ _ _ h => h
          · first
              | (refine Or.inr ⟨by rfl, ?_⟩; exact rfl)
              | (refine Or.inl ⟨by rfl, ?_⟩
                 intro w hSw
                 (try dsimp only at hSw)
                 (try go_split_ands)
                 go_simp
                 (first | done | with_reducible rfl))
          try simp only [Act.put, List.setIfInBounds_toArray, List.set_cons_zero, List.set_cons_succ]
          refine take_h 1 ⟨?_, ?_, ?_, by kernel_rfl, by kernel_rfl, by kernel_rfl, ?_, ?_, by assumption, ?_⟩
          rotate_left 2
          · (simp only [List.getElem?_toArray, List.getElem?_cons_succ, List.getElem?_cons_zero]; exact rfl)
          · exact fun _ _ _ h => h
          · first
              | (refine Or.inr ⟨by rfl, ?_⟩; exact rfl)
              | (refine Or.inl ⟨by rfl, ?_⟩
                 intro w hSw
                 (try dsimp only at hSw)
                 (try go_split_ands)
                 go_simp
                 (first | done | with_reducible rfl))
          try simp only [Act.put, List.setIfInBounds_toArray, List.set_cons_zero, List.set_cons_succ]
          refine take_h 2 ⟨?_, ?_, ?_, by kernel_rfl, by kernel_rfl, by kernel_rfl, ?_, ?_, by assumption, ?_⟩
          rotate_left 2
          · (simp only [List.getElem?_toArray, List.getElem?_cons_succ, List.getElem?_cons_zero]; exact rfl)
          · exact fun _ _ _ h => h
          · first
              | (refine Or.inr ⟨by rfl, ?_⟩; exact rfl)
              | (refine Or.inl ⟨by rfl, ?_⟩
                 intro w hSw
                 (try dsimp only at hSw)
                 (try go_split_ands)
                 go_simp
                 (first | done | with_reducible rfl))
          try simp only [Act.put, List.setIfInBounds_toArray, List.set_cons_zero, List.set_cons_succ]
          refine take_h 3 ⟨?_, ?_, ?_, by kernel_rfl, by kernel_rfl, by kernel_rfl, ?_, ?_, by assumption, ?_⟩
          rotate_left 2
          · (simp only [List.getElem?_toArray, List.getElem?_cons_succ, List.getElem?_cons_zero]; exact rfl)
          · exact fun _ _ _ h => h
          · first
              | (refine Or.inr ⟨by rfl, ?_⟩; exact rfl)
              | (refine Or.inl ⟨by rfl, ?_⟩
                 intro w hSw
                 (try dsimp only at hSw)
                 (try go_split_ands)
                 go_simp
                 (first | done | with_reducible rfl))
          try simp only [Act.put, List.setIfInBounds_toArray, List.set_cons_zero, List.set_cons_succ]
          refine take_h 4 ⟨?_, ?_, ?_, by kernel_rfl, by kernel_rfl, by kernel_rfl, ?_, ?_, by assumption, ?_⟩
          rotate_left 2
          · (simp only [List.getElem?_toArray, List.getElem?_cons_succ, List.getElem?_cons_zero]; exact rfl)
          · exact fun _ _ _ h => h
          · first
              | (refine Or.inr ⟨by rfl, ?_⟩; exact rfl)
              | (refine Or.inl ⟨by rfl, ?_⟩
                 intro w hSw
                 (try dsimp only at hSw)
                 (try go_split_ands)
                 go_simp
                 (first | done | with_reducible rfl))
          try simp only [Act.put, List.setIfInBounds_toArray, List.set_cons_zero, List.set_cons_succ]
          refine take_h 5 ⟨?_, ?_, ?_, by kernel_rfl, by kernel_rfl, by kernel_rfl, ?_, ?_, by assumption, ?_⟩
          rotate_left 2
          · (simp only [List.getElem?_toArray, List.getElem?_cons_succ, List.getElem?_cons_zero]; exact rfl)
          · exact fun _ _ _ h => h
          · first
              | (refine Or.inr ⟨by rfl, ?_⟩; exact rfl)
              | (refine Or.inl ⟨by rfl, ?_⟩
                 intro w hSw
                 (try dsimp only at hSw)
                 (try go_split_ands)
                 go_simp
                 (first | done | with_reducible rfl))
          try simp only [Act.put, List.setIfInBounds_toArray, List.set_cons_zero, List.set_cons_succ]
          refine take_h 6 ⟨?_, ?_, ?_, by kernel_rfl, by kernel_rfl, by kernel_rfl, ?_, ?_, by assumption, ?_⟩
          rotate_left 2
          · (simp only [List.getElem?_toArray, List.getElem?_cons_succ, List.getElem?_cons_zero]; exact rfl)
          · exact fun _ _ _ h => h
          · first
              | (refine Or.inr ⟨by rfl, ?_⟩; exact rfl)
              | (refine Or.inl ⟨by rfl, ?_⟩
                 intro w hSw
                 (try dsimp only at hSw)
                 (try go_split_ands)
                 go_simp
                 (first | done | with_reducible rfl))
          try simp only [Act.put, List.setIfInBounds_toArray, List.set_cons_zero, List.set_cons_succ]
          refine take_h 7 ⟨?_, ?_, ?_, by kernel_rfl, by kernel_rfl, by kernel_rfl, ?_, ?_, by assumption, ?_⟩
          rotate_left 2
          · (simp only [List.getElem?_toArray, List.getElem?_cons_succ, List.getElem?_cons_zero]; exact rfl)
          · exact fun _ _ _ h => h
          · first
              | (refine Or.inr ⟨by rfl, ?_⟩; exact rfl)
              | (refine Or.inl ⟨by rfl, ?_⟩
                 intro w hSw
                 (try dsimp only at hSw)
                 (try go_split_ands)
                 go_simp
                 (first | done | with_reducible rfl))
          try simp only [Act.put, List.setIfInBounds_toArray, List.set_cons_zero, List.set_cons_succ]
          refine take_h 8 ⟨?_, ?_, ?_, by kernel_rfl, by kernel_rfl, by kernel_rfl, ?_, ?_, by assumption, ?_⟩
          rotate_left 2
          · (simp only [List.getElem?_toArray, List.getElem?_cons_succ, List.getElem?_cons_zero]; exact rfl)
          · exact fun _ _ _ h => h
          · first
              | (refine Or.inr ⟨by rfl, ?_⟩; exact rfl)
              | (refine Or.inl ⟨by rfl, ?_⟩
                 intro w hSw
                 (try dsimp only at hSw)
                 (try go_split_ands)
                 go_simp
                 (first | done | with_reducible rfl))
          try simp only [Act.put, List.setIfInBounds_toArray, List.set_cons_zero, List.set_cons_succ]
          refine wpAnyH_ready (rs := [9]) (by kernel_rfl) (by simp) ?_
          refine call_h 9 ⟨?_, ?_, fun K hK => ?_⟩
          rotate_left 1
          · (simp only [List.getElem?_toArray, List.getElem?_cons_succ, List.getElem?_cons_zero]; exact rfl)
          go_simp
          obtain ⟨wB, hwB⟩ : ∃ u, u = (wA.setCell ⟨bw, o0, none⟩ (.int .i64 (wsum L))).drew := ⟨_, rfl⟩
          rw [← hwB]
          have hlB : Left [bw] wA wB := hwB ▸ ((Left.refl _ _).setCell (Or.inl (by simp)) _).drew
          have HWB : Hid (Whole wB bw 3 ((ws.set o0 (wsum L)).map (.int .i64 ·))) := Lib.hid (by rw [List.map_set]; exact hwB ▸ HWA.out.put o0 _)
          have HHB := Lib.hid (HHA.out.left hlB (by simp [n3]))
          have HCB := Lib.hid (HCA.out.left hlB (by simp [n6]))
          have HSB := Lib.hid (HSA.out.left hlB (by simp [n5]))
          have HMB := Lib.hid (HMA.out.left hlB (by simp [hbwm.symm]) (by simp [hbwd.symm]))
          have HLB := Lib.hid (HLA.out.trans (T := [bw]) hlB (by simp))
          have HLB0 := Lib.hid (HLA0.out.mono (T := [bc, bw, d]) (fun k hk => by simp at hk ⊢; omega) |>.trans (T := [bw]) hlB (by simp))
          have kg2 := cell_left' kg hlB (by simp [g5])
          refine hK.out _ _ ⟨cell_left' k8 hlB (by simp [n3]), kg2⟩ (fun hHeld => ?_)
          clear hK K hwB hlB kw fw k8 kg
          (try simp only [Act.put, List.setIfInBounds_toArray, List.set_cons_zero, List.set_cons_succ])
          refine wpAnyH_done (by kernel_rfl) ?_ _
          clear hHeld
          have m0 : wB.cell? ⟨R, 0, none⟩ = some (.pointer (some ⟨m, 0, none⟩)) := by rw [HHB.out.cell]; rfl
          have m1 : wB.cell? ⟨R, 1, none⟩ = some (.int .i64 q) := by rw [HHB.out.cell]; rfl
          have m2 : wB.cell? ⟨R, 2, none⟩ = some (.int .i64 (16 * (q : Int))) := by rw [HHB.out.cell]; rfl
          have m4 : wB.cell? ⟨R, 4, none⟩ = some (.int .i64 added) := by rw [HHB.out.cell]; rfl
          obtain ⟨rr, hrr⟩ : ∃ rr : Nat, added % q = rr := ⟨_, rfl⟩
          have hrr2 : rr ≤ 63 := by have := Nat.mod_lt added hq.1; omega
          have htm : ((added : Int)).tmod (q : Int) = (rr : Int) := by rw [← hrr]; rfl
          have hq0 : ¬ q = 0 := by omega
          have hqq := hq.2
          have hw1 : IntKind.i64.wrap (16 * (q : Int) + 4) = 16 * (q : Int) + 4 := IntWalk.i64_in _ ⟨by omega, by omega⟩
          have hw2 : IntKind.i64.wrap (2 * (rr : Int)) = 2 * (rr : Int) := IntWalk.i64_in _ ⟨by omega, by omega⟩
          have hw3 : IntKind.i64.wrap (16 * (q : Int) + 4 + 2 * (rr : Int)) = 16 * (q : Int) + 4 + 2 * (rr : Int) := IntWalk.i64_in _ ⟨by omega, by omega⟩
          have hu1 : IntKind.u64.wrap (o0 : Int) = o0 := IntWalk.u64_in _ ⟨by omega, by omega⟩
          have HRR := Lib.hid hrr
          have hDL : (descsB B L own L.length).length ≤ 65536 := by rw [descsB_length]; exact hB
          clear hrr
          go_wp2
          refine wp_region_held_drew (S := fun wx => wx.cell? ⟨R, 0, none⟩ = some (.pointer (some ⟨m, 0, none⟩)) ∧ wx.cell? ⟨R, 1, none⟩ = some (.int .i64 q) ∧ wx.cell? ⟨R, 2, none⟩ = some (.int .i64 (16 * (q : Int))) ∧ wx.cell? ⟨R, 4, none⟩ = some (.int .i64 added) ∧ wx.cell? ⟨g, 0, none⟩ = some (.int .i64 o0)) (by kernel_rfl) ⟨m0, m1, m2, m4, kg2⟩ (fun hHeld => ?_)
          refine take_h 0 ⟨?_, ?_, ?_, by kernel_rfl, by kernel_rfl, by kernel_rfl, ?_, ?_, by assumption, ?_⟩
          rotate_left 2
          · (simp only [List.getElem?_toArray, List.getElem?_cons_zero]; exact rfl)
          · exact fun _ _ _ h => h
          · first
              | (refine Or.inr ⟨by rfl, ?_⟩; exact rfl)
              | (refine Or.inl ⟨by rfl, ?_⟩
                 intro w hSw
                 (try dsimp only at hSw)
                 (try go_split_ands)
                 go_simp
                 (first | done | with_reducible rfl))
          try simp only [Act.put, List.setIfInBounds_toArray, List.set_cons_zero, List.set_cons_succ]
          refine take_h 1 ⟨?_, ?_, ?_, by kernel_rfl, by kernel_rfl, by kernel_rfl, ?_, ?_, by assumption, ?_⟩
          rotate_left 2
          · (simp only [List.getElem?_toArray, List.getElem?_cons_succ, List.getElem?_cons_zero]; exact rfl)
          · exact fun _ _ _ h => h
          · first
              | (refine Or.inr ⟨by rfl, ?_⟩; exact rfl)
              | (refine Or.inl ⟨by rfl, ?_⟩
                 intro w hSw
                 (try dsimp only at hSw)
                 (try go_split_ands)
                 go_simp
                 (first | done | with_reducible rfl))
          try simp only [Act.put, List.setIfInBounds_toArray, List.set_cons_zero, List.set_cons_succ]
          refine take_h 2 ⟨?_, ?_, ?_, by kernel_rfl, by kernel_rfl, by kernel_rfl, ?_, ?_, by assumption, ?_⟩
          rotate_left 2
          · (simp only [List.getElem?_toArray, List.getElem?_cons_succ, List.getElem?_cons_zero]; exact rfl)
          · exact fun _ _ _ h => h
          · first
              | (refine Or.inr ⟨by rfl, ?_⟩; exact rfl)
              | (refine Or.inl ⟨by rfl, ?_⟩
                 intro w hSw
                 (try dsimp only at hSw)
                 (try go_split_ands)
                 go_simp
                 (first | done | with_reducible rfl))
          try simp only [Act.put, List.setIfInBounds_toArray, List.set_cons_zero, List.set_cons_succ]
          refine take_h 3 ⟨?_, ?_, ?_, by kernel_rfl, by kernel_rfl, by kernel_rfl, ?_, ?_, by assumption, ?_⟩
          rotate_left 2
          · (simp only [List.getElem?_toArray, List.getElem?_cons_succ, List.getElem?_cons_zero]; exact rfl)
          · exact fun _ _ _ h => h
          · first
              | (refine Or.inr ⟨by rfl, ?_⟩; exact rfl)
              | (refine Or.inl ⟨by rfl, ?_⟩
                 intro w hSw
                 (try dsimp only at hSw)
                 (try go_split_ands)
                 go_simp
                 (first | done | with_reducible rfl))
          try simp only [Act.put, List.setIfInBounds_toArray, List.set_cons_zero, List.set_cons_succ]
          refine take_h 4 ⟨?_, ?_, ?_, by kernel_rfl, by kernel_rfl, by kernel_rfl, ?_, ?_, by assumption, ?_⟩
          rotate_left 2
          · (simp only [List.getElem?_toArray, List.getElem?_cons_succ, List.getElem?_cons_zero]; exact rfl)
          · exact fun _ _ _ h => h
          · first
              | (refine Or.inr ⟨by rfl, ?_⟩; exact rfl)
              | (refine Or.inl ⟨by rfl, ?_⟩
                 intro w hSw
                 (try dsimp only at hSw)
                 (try go_split_ands)
                 go_simp
                 (first | done | with_reducible rfl))
          try simp only [Act.put, List.setIfInBounds_toArray, List.set_cons_zero, List.set_cons_succ]
          refine take_h 5 ⟨?_, ?_, ?_, by kernel_rfl, by kernel_rfl, by kernel_rfl, ?_, ?_, by assumption, ?_⟩
          rotate_left 2
          · (simp only [List.getElem?_toArray, List.getElem?_cons_succ, List.getElem?_cons_zero]; exact rfl)
          · exact fun _ _ _ h => h
          · first
              | (refine Or.inr ⟨by rfl, ?_⟩; exact rfl)
              | (refine Or.inl ⟨by rfl, ?_⟩
                 intro w hSw
                 (try dsimp only at hSw)
                 (try go_split_ands)
                 go_simp
                 (first | done | with_reducible rfl))
          try simp only [Act.put, List.setIfInBounds_toArray, List.set_cons_zero, List.set_cons_succ]
          refine take_h 6 ⟨?_, ?_, ?_, by kernel_rfl, by kernel_rfl, by kernel_rfl, ?_, ?_, by assumption, ?_⟩
          rotate_left 2
          · (simp only [List.getElem?_toArray, List.getElem?_cons_succ, List.getElem?_cons_zero]; exact rfl)
          · exact fun _ _ _ h => h
          · first
              | (refine Or.inr ⟨by rfl, ?_⟩; exact rfl)
              | (refine Or.inl ⟨by rfl, ?_⟩
                 intro w hSw
                 (try dsimp only at hSw)
                 (try go_split_ands)
                 go_simp
                 (first | done | with_reducible rfl))
          try simp only [Act.put, List.setIfInBounds_toArray, List.set_cons_zero, List.set_cons_succ]
          refine take_h 7 ⟨?_, ?_, ?_, by kernel_rfl, by kernel_rfl, by kernel_rfl, ?_, ?_, by assumption, ?_⟩
          rotate_left 2
          · (simp only [List.getElem?_toArray, List.getElem?_cons_succ, List.getElem?_cons_zero]; exact rfl)
          · exact fun _ _ _ h => h
          · first
              | (refine Or.inr ⟨by rfl, ?_⟩; exact rfl)
              | (refine Or.inl ⟨by rfl, ?_⟩
                 intro w hSw
                 (try dsimp only at hSw)
                 (try go_split_ands)
                 go_simp
                 (first | done | with_reducible rfl))
          try simp only [Act.put, List.setIfInBounds_toArray, List.set_cons_zero, List.set_cons_succ]
          refine take_h 8 ⟨?_, ?_, ?_, by kernel_rfl, by kernel_rfl, by kernel_rfl, ?_, ?_, by assumption, ?_⟩
          rotate_left 2
          · (simp only [List.getElem?_toArray, List.getElem?_cons_succ, List.getElem?_cons_zero]; exact rfl)
          · exact fun _ _ _ h => h
          · first
              | (refine Or.inr ⟨by rfl, ?_⟩; exact rfl)
              | (refine Or.inl ⟨by rfl, ?_⟩
                 intro w hSw
                 (try dsimp only at hSw)
                 (try go_split_ands)
                 go_simp
                 (first | done | with_reducible rfl))
          try simp only [Act.put, List.setIfInBounds_toArray, List.set_cons_zero, List.set_cons_succ]
          refine take_h 9 ⟨?_, ?_, ?_, by kernel_rfl, by kernel_rfl, by kernel_rfl, ?_, ?_, by assumption, ?_⟩
          rotate_left 2
          · (simp only [List.getElem?_toArray, List.getElem?_cons_succ, List.getElem?_cons_zero]; exact rfl)
          · exact fun _ _ _ h => h
          · first
              | (refine Or.inr ⟨by rfl, ?_⟩; exact rfl)
              | (refine Or.inl ⟨by rfl, ?_⟩
                 intro w hSw
                 (try dsimp only at hSw)
                 (try go_split_ands)
                 go_simp
                 (first | done | with_reducible rfl))
          try simp only [Act.put, List.setIfInBounds_toArray, List.set_cons_zero, List.set_cons_succ]
          refine take_h 10 ⟨?_, ?_, ?_, by kernel_rfl, by kernel_rfl, by kernel_rfl, ?_, ?_, by assumption, ?_⟩
          rotate_left 2
          · (simp only [List.getElem?_toArray, List.getElem?_cons_succ, List.getElem?_cons_zero]; exact rfl)
          · exact fun _ _ _ h => h
          · first
              | (refine Or.inr ⟨by rfl, ?_⟩; exact rfl)
              | (refine Or.inl ⟨by rfl, ?_⟩
                 intro w hSw
                 (try dsimp only at hSw)
                 (try go_split_ands)
                 go_simp
                 (first | done | with_reducible rfl))
          try simp only [Act.put, List.setIfInBounds_toArray, List.set_cons_zero, List.set_cons_succ]
          refine take_h 11 ⟨?_, ?_, ?_, by kernel_rfl, by kernel_rfl, by kernel_rfl, ?_, ?_, by assumption, ?_⟩
          rotate_left 2
          · (simp only [List.getElem?_toArray, List.getElem?_cons_succ, List.getElem?_cons_zero]; exact rfl)
          · exact fun _ _ _ h => h
          · first
              | (refine Or.inr ⟨by rfl, ?_⟩; exact rfl)
              | (refine Or.inl ⟨by rfl, ?_⟩
                 intro w hSw
                 (try dsimp only at hSw)
                 (try go_split_ands)
                 go_simp
                 (first | done | with_reducible rfl))
          try simp only [Act.put, List.setIfInBounds_toArray, List.set_cons_zero, List.set_cons_succ]
          refine take_h 12 ⟨?_, ?_, ?_, by kernel_rfl, by kernel_rfl, by kernel_rfl, ?_, ?_, by assumption, ?_⟩
          rotate_left 2
          · (simp only [List.getElem?_toArray, List.getElem?_cons_succ, List.getElem?_cons_zero]; exact rfl)
          · exact fun _ _ _ h => h
          · first
              | (refine Or.inr ⟨by rfl, ?_⟩; exact rfl)
              | (refine Or.inl ⟨by rfl, ?_⟩
                 intro w hSw
                 (try dsimp only at hSw)
                 (try go_split_ands)
                 go_simp
                 (first | done | with_reducible rfl))
          try simp only [Act.put, List.setIfInBounds_toArray, List.set_cons_zero, List.set_cons_succ]
          refine take_h 13 ⟨?_, ?_, ?_, by kernel_rfl, by kernel_rfl, by kernel_rfl, ?_, ?_, by assumption, ?_⟩
          rotate_left 2
          · (simp only [List.getElem?_toArray, List.getElem?_cons_succ, List.getElem?_cons_zero]; exact rfl)
          · exact fun _ _ _ h => h
          · first
              | (refine Or.inr ⟨by rfl, ?_⟩; exact rfl)
              | (refine Or.inl ⟨by rfl, ?_⟩
                 intro w hSw
                 (try dsimp only at hSw)
                 (try go_split_ands)
                 go_simp
                 (first | done | with_reducible rfl))
          try simp only [Act.put, List.setIfInBounds_toArray, List.set_cons_zero, List.set_cons_succ]
          refine take_h 14 ⟨?_, ?_, ?_, by kernel_rfl, by kernel_rfl, by kernel_rfl, ?_, ?_, by assumption, ?_⟩
          rotate_left 2
          · (simp only [List.getElem?_toArray, List.getElem?_cons_succ, List.getElem?_cons_zero]; exact rfl)
          · exact fun _ _ _ h => h
          · first
              | (refine Or.inr ⟨by rfl, ?_⟩; exact rfl)
              | (refine Or.inl ⟨by rfl, ?_⟩
                 intro w hSw
                 (try dsimp only at hSw)
                 (try go_split_ands)
                 go_simp
                 (first | done | with_reducible rfl))
          try simp only [Act.put, List.setIfInBounds_toArray, List.set_cons_zero, List.set_cons_succ]
          refine take_h 15 ⟨?_, ?_, ?_, by kernel_rfl, by kernel_rfl, by kernel_rfl, ?_, ?_, by assumption, ?_⟩
          rotate_left 2
          · (simp only [List.getElem?_toArray, List.getElem?_cons_succ, List.getElem?_cons_zero]; exact rfl)
          · exact fun _ _ _ h => h
          · first
              | (refine Or.inr ⟨by rfl, ?_⟩; exact rfl)
              | (refine Or.inl ⟨by rfl, ?_⟩
                 intro w hSw
                 (try dsimp only at hSw)
                 (try go_split_ands)
                 go_simp
                 (first | done | with_reducible rfl))
          try simp only [Act.put, List.setIfInBounds_toArray, List.set_cons_zero, List.set_cons_succ]
          refine take_h 16 ⟨?_, ?_, ?_, by kernel_rfl, by kernel_rfl, by kernel_rfl, ?_, ?_, by assumption, ?_⟩
          rotate_left 2
          · (simp only [List.getElem?_toArray, List.getElem?_cons_succ, List.getElem?_cons_zero]; exact rfl)
          · exact fun _ _ _ h => h
          · first
              | (refine Or.inr ⟨by rfl, ?_⟩; exact rfl)
              | (refine Or.inl ⟨by rfl, ?_⟩
                 intro w hSw
                 (try dsimp only at hSw)
                 (try go_split_ands)
                 go_simp
                 (first | done | with_reducible rfl))
          try simp only [Act.put, List.setIfInBounds_toArray, List.set_cons_zero, List.set_cons_succ]
          refine take_h 17 ⟨?_, ?_, ?_, by kernel_rfl, by kernel_rfl, by kernel_rfl, ?_, ?_, by assumption, ?_⟩
          rotate_left 2
          · (simp only [List.getElem?_toArray, List.getElem?_cons_succ, List.getElem?_cons_zero]; exact rfl)
          · exact fun _ _ _ h => h
          · first
              | (refine Or.inr ⟨by rfl, ?_⟩; exact rfl)
              | (refine Or.inl ⟨by rfl, ?_⟩
                 intro w hSw
                 (try dsimp only at hSw)
                 (try go_split_ands)
                 go_simp
                 (first | done | with_reducible rfl))
          try simp only [Act.put, List.setIfInBounds_toArray, List.set_cons_zero, List.set_cons_succ]
          refine take_h 18 ⟨?_, ?_, ?_, by kernel_rfl, by kernel_rfl, by kernel_rfl, ?_, ?_, by assumption, ?_⟩
          rotate_left 2
          · (simp only [List.getElem?_toArray, List.getElem?_cons_succ, List.getElem?_cons_zero]; exact rfl)
          · exact fun _ _ _ h => h
          · first
              | (refine Or.inr ⟨by rfl, ?_⟩; exact rfl)
              | (refine Or.inl ⟨by rfl, ?_⟩
                 intro w hSw
                 (try dsimp only at hSw)
                 (try go_split_ands)
                 go_simp
                 (first | done | with_reducible rfl))
          try simp only [Act.put, List.setIfInBounds_toArray, List.set_cons_zero, List.set_cons_succ]
          refine take_h 19 ⟨?_, ?_, ?_, by kernel_rfl, by kernel_rfl, by kernel_rfl, ?_, ?_, by assumption, ?_⟩
          rotate_left 2
          · (simp only [List.getElem?_toArray, List.getElem?_cons_succ, List.getElem?_cons_zero]; exact rfl)
          · exact fun _ _ _ h => h
          · first
              | (refine Or.inr ⟨by rfl, ?_⟩; exact rfl)
              | (refine Or.inl ⟨by rfl, ?_⟩
                 intro w hSw
                 (try dsimp only at hSw)
                 (try go_split_ands)
                 go_simp
                 (first | done | with_reducible rfl))
          try simp only [Act.put, List.setIfInBounds_toArray, List.set_cons_zero, List.set_cons_succ]
          refine take_h 20 ⟨?_, ?_, ?_, by kernel_rfl, by kernel_rfl, by kernel_rfl, ?_, ?_, by assumption, ?_⟩
          rotate_left 2
          · (simp only [List.getElem?_toArray, List.getElem?_cons_succ, List.getElem?_cons_zero]; exact rfl)
          · exact fun _ _ _ h => h
          · first
              | (refine Or.inr ⟨by rfl, ?_⟩; exact rfl)
              | (refine Or.inl ⟨by rfl, ?_⟩
                 intro w hSw
                 (try dsimp only at hSw)
                 (try go_split_ands)
                 go_simp
                 (first | done | with_reducible rfl))
          try simp only [Act.put, List.setIfInBounds_toArray, List.set_cons_zero, List.set_cons_succ]
          refine take_h 21 ⟨?_, ?_, ?_, by kernel_rfl, by kernel_rfl, by kernel_rfl, ?_, ?_, by assumption, ?_⟩
          rotate_left 2
          · (simp only [List.getElem?_toArray, List.getElem?_cons_succ, List.getElem?_cons_zero]; exact rfl)
          · exact fun _ _ _ h => h
          · first
              | (refine Or.inr ⟨by rfl, ?_⟩; exact rfl)
              | (refine Or.inl ⟨by rfl, ?_⟩
                 intro w hSw
                 (try dsimp only at hSw)
                 (try go_split_ands)
                 go_simp
                 (first | done | with_reducible rfl))
          try simp only [Act.put, List.setIfInBounds_toArray, List.set_cons_zero, List.set_cons_succ]
          refine take_h 22 ⟨?_, ?_, ?_, by kernel_rfl, by kernel_rfl, by kernel_rfl, ?_, ?_, by assumption, ?_⟩
          rotate_left 2
          · (simp only [List.getElem?_toArray, List.getElem?_cons_succ, List.getElem?_cons_zero]; exact rfl)
          · exact fun _ _ _ h => h
          · first
              | (refine Or.inr ⟨by rfl, ?_⟩; exact rfl)
              | (refine Or.inl ⟨by rfl, ?_⟩
                 intro w hSw
                 (try dsimp only at hSw)
                 (try go_split_ands)
                 go_simp
                 (first | done | with_reducible rfl))
          try simp only [Act.put, List.setIfInBounds_toArray, List.set_cons_zero, List.set_cons_succ]
          refine take_h 23 ⟨?_, ?_, ?_, by kernel_rfl, by kernel_rfl, by kernel_rfl, ?_, ?_, by assumption, ?_⟩
          rotate_left 2
          · (simp only [List.getElem?_toArray, List.getElem?_cons_succ, List.getElem?_cons_zero]; exact rfl)
          · exact fun _ _ _ h => h
          · first
              | (refine Or.inr ⟨by rfl, ?_⟩; exact rfl)
              | (refine Or.inl ⟨by rfl, ?_⟩
                 intro w hSw
                 (try dsimp only at hSw)
                 (try go_split_ands)
                 go_simp
                 (first | done | with_reducible rfl))
          try simp only [Act.put, List.setIfInBounds_toArray, List.set_cons_zero, List.set_cons_succ]
          refine wpAnyH_ready (rs := [24]) (by kernel_rfl) (by simp) ?_
          refine call_h 24 ⟨?_, ?_, fun K hK => ?_⟩
          rotate_left 1
          · (simp only [List.getElem?_toArray, List.getElem?_cons_succ, List.getElem?_cons_zero]; exact rfl)
          go_simp
          (go_at_call 27; refine (rputN HMB.out.drew hDL _ 2 o0).mono ?_; rintro e wp ⟨⟨x_, rfl⟩, hmP, hlP⟩)
          go_wp2_with fail
          have hl1 : Left [d] wB wp := ⟨hlP.os, hlP.tape, hlP.output, hlP.size, hlP.block⟩
          have HMC := Lib.hid hmP
          have HHC := Lib.hid (HHB.out.left hl1 (by simp [hRd]))
          have HCC := Lib.hid (HCB.out.left hl1 (by simp [hbcd]))
          have HSC := Lib.hid (HSB.out.left hl1 (by simp [hbtd]))
          have HWC := Lib.hid (HWB.out.left hl1 (by simp [hbwd]))
          have HLC := Lib.hid (HLB.out.trans (T := [d]) hl1 (by simp))
          have HLC0 := Lib.hid (HLB0.out.trans (T := [d]) hl1 (by simp))
          have kg3 := cell_left' kg2 hl1 (by simp [g2])
          have S1 := cell_left' m0 hl1 (by simp [hRd])
          have S2 := cell_left' m1 hl1 (by simp [hRd])
          have S3 := cell_left' m2 hl1 (by simp [hRd])
          have S4 := cell_left' m4 hl1 (by simp [hRd])
          clear hmP hlP hl1 m0 m1 m2 m4 kg2 hw1 hw2 hw3 htm
          refine hK.out _ _ ⟨S1, S2, S3, S4, kg3⟩ (fun hHeld => ?_)
          clear hK K
          (try simp only [Act.put, List.setIfInBounds_toArray, List.set_cons_zero, List.set_cons_succ])
          refine wpAnyH_done (by kernel_rfl) ?_ _
          clear hHeld
          clear S1 S2 S3
          have f4 := HHC.out.free 4
          go_upto_region 32 with fail
          have hwt : ((added : Int) + 1) % 65536 = (((added + 1) % 65536 : Nat) : Int) := by omega
          rw [hwt]
          obtain ⟨wn, hwn⟩ : ∃ wn : Nat, (added + 1) % 65536 = wn := ⟨_, rfl⟩
          have HWN := Lib.hid hwn
          rw [hwn]
          have hwn2 : wn ≤ 65535 := by omega
          obtain ⟨wD, hwD⟩ : ∃ u, u = wp.setCell ⟨R, 4, none⟩ (.int .i64 wn) := ⟨_, rfl⟩
          rw [← hwD]
          have hlD : Left [R] wp wD := hwD ▸ ((Left.refl _ _).setCell (Or.inl (by simp)) _)
          have HHD : Hid (Whole wD R 160 (refCells m q bt bc bw false wn last)) := Lib.hid (hwD ▸ HHC.out.put 4 (.int .i64 wn))
          have HMD := Lib.hid (HMC.out.left hlD (by simp [hRm.symm]) (by simp [hRd.symm]))
          have HCD := Lib.hid (HCC.out.left hlD (by simp [n2.symm]))
          have HSD := Lib.hid (HSC.out.left hlD (by simp [n1.symm]))
          have HWD := Lib.hid (HWC.out.left hlD (by simp [n3.symm]))
          have HLD := Lib.hid (HLC.out.trans (T := [R]) hlD (by simp))
          have HLD0 := Lib.hid (HLC0.out.mono (T := [R, bc, bw, d]) (fun k hk => by simp at hk ⊢; omega) |>.trans (T := [R]) hlD (by simp))
          have kg4 := cell_left' kg3 hlD (by simp [g3])
          have m0 : wD.cell? ⟨R, 0, none⟩ = some (.pointer (some ⟨m, 0, none⟩)) := by rw [HHD.out.cell]; rfl
          have m2 : wD.cell? ⟨R, 2, none⟩ = some (.int .i64 (16 * (q : Int))) := by rw [HHD.out.cell]; rfl
          have m4 : wD.cell? ⟨R, 4, none⟩ = some (.int .i64 wn) := by rw [HHD.out.cell]; rfl
          clear hwD hlD hwn hwt S4 kg3 f4
          have hw4 : IntKind.i64.wrap (16 * (q : Int) + 2) = 16 * (q : Int) + 2 := IntWalk.i64_in _ ⟨by omega, by omega⟩
          have hu2 : IntKind.u64.wrap (wn : Int) = wn := IntWalk.u64_in _ ⟨by omega, by omega⟩
          obtain ⟨wpC, hwpC⟩ : ∃ u, u = wp := ⟨_, rfl⟩
          subst hwpC
          refine wp_region_held_drew (S := fun wx => wx.cell? ⟨R, 0, none⟩ = some (.pointer (some ⟨m, 0, none⟩)) ∧ wx.cell? ⟨R, 2, none⟩ = some (.int .i64 (16 * (q : Int))) ∧ wx.cell? ⟨R, 4, none⟩ = some (.int .i64 wn)) (by kernel_rfl) ⟨m0, m2, m4⟩ (fun hHeld => ?_)
          refine take_h 0 ⟨?_, ?_, ?_, by kernel_rfl, by kernel_rfl, by kernel_rfl, ?_, ?_, by assumption, ?_⟩
          rotate_left 2
          · (simp only [List.getElem?_toArray, List.getElem?_cons_zero]; exact rfl)
          · exact fun _ _ _ h => h
          · first
              | (refine Or.inr ⟨by rfl, ?_⟩; exact rfl)
              | (refine Or.inl ⟨by rfl, ?_⟩
                 intro w hSw
                 (try dsimp only at hSw)
                 (try go_split_ands)
                 go_simp
                 (first | done | with_reducible rfl))
          try simp only [Act.put, List.setIfInBounds_toArray, List.set_cons_zero, List.set_cons_succ]
          refine take_h 1 ⟨?_, ?_, ?_, by kernel_rfl, by kernel_rfl, by kernel_rfl, ?_, ?_, by assumption, ?_⟩
          rotate_left 2
          · (simp only [List.getElem?_toArray, List.getElem?_cons_succ, List.getElem?_cons_zero]; exact rfl)
          · exact fun _ _ _ h => h
          · first
              | (refine Or.inr ⟨by rfl, ?_⟩; exact rfl)
              | (refine Or.inl ⟨by rfl, ?_⟩
                 intro w hSw
                 (try dsimp only at hSw)
                 (try go_split_ands)
                 go_simp
                 (first | done | with_reducible rfl))
          try simp only [Act.put, List.setIfInBounds_toArray, List.set_cons_zero, List.set_cons_succ]
          refine take_h 2 ⟨?_, ?_, ?_, by kernel_rfl, by kernel_rfl, by kernel_rfl, ?_, ?_, by assumption, ?_⟩
          rotate_left 2
          · (simp only [List.getElem?_toArray, List.getElem?_cons_succ, List.getElem?_cons_zero]; exact rfl)
          · exact fun _ _ _ h => h
          · first
              | (refine Or.inr ⟨by rfl, ?_⟩; exact rfl)
              | (refine Or.inl ⟨by rfl, ?_⟩
                 intro w hSw
                 (try dsimp only at hSw)
                 (try go_split_ands)
                 go_simp
                 (first | done | with_reducible rfl))
          try simp only [Act.put, List.setIfInBounds_toArray, List.set_cons_zero, List.set_cons_succ]
          refine take_h 3 ⟨?_, ?_, ?_, by kernel_rfl, by kernel_rfl, by kernel_rfl, ?_, ?_, by assumption, ?_⟩
          rotate_left 2
          · (simp only [List.getElem?_toArray, List.getElem?_cons_succ, List.getElem?_cons_zero]; exact rfl)
          · exact fun _ _ _ h => h
          · first
              | (refine Or.inr ⟨by rfl, ?_⟩; exact rfl)
              | (refine Or.inl ⟨by rfl, ?_⟩
                 intro w hSw
                 (try dsimp only at hSw)
                 (try go_split_ands)
                 go_simp
                 (first | done | with_reducible rfl))
          try simp only [Act.put, List.setIfInBounds_toArray, List.set_cons_zero, List.set_cons_succ]
          refine take_h 4 ⟨?_, ?_, ?_, by kernel_rfl, by kernel_rfl, by kernel_rfl, ?_, ?_, by assumption, ?_⟩
          rotate_left 2
          · (simp only [List.getElem?_toArray, List.getElem?_cons_succ, List.getElem?_cons_zero]; exact rfl)
          · exact fun _ _ _ h => h
          · first
              | (refine Or.inr ⟨by rfl, ?_⟩; exact rfl)
              | (refine Or.inl ⟨by rfl, ?_⟩
                 intro w hSw
                 (try dsimp only at hSw)
                 (try go_split_ands)
                 go_simp
                 (first | done | with_reducible rfl))
          try simp only [Act.put, List.setIfInBounds_toArray, List.set_cons_zero, List.set_cons_succ]
          refine take_h 5 ⟨?_, ?_, ?_, by kernel_rfl, by kernel_rfl, by kernel_rfl, ?_, ?_, by assumption, ?_⟩
          rotate_left 2
          · (simp only [List.getElem?_toArray, List.getElem?_cons_succ, List.getElem?_cons_zero]; exact rfl)
          · exact fun _ _ _ h => h
          · first
              | (refine Or.inr ⟨by rfl, ?_⟩; exact rfl)
              | (refine Or.inl ⟨by rfl, ?_⟩
                 intro w hSw
                 (try dsimp only at hSw)
                 (try go_split_ands)
                 go_simp
                 (first | done | with_reducible rfl))
          try simp only [Act.put, List.setIfInBounds_toArray, List.set_cons_zero, List.set_cons_succ]
          refine take_h 6 ⟨?_, ?_, ?_, by kernel_rfl, by kernel_rfl, by kernel_rfl, ?_, ?_, by assumption, ?_⟩
          rotate_left 2
          · (simp only [List.getElem?_toArray, List.getElem?_cons_succ, List.getElem?_cons_zero]; exact rfl)
          · exact fun _ _ _ h => h
          · first
              | (refine Or.inr ⟨by rfl, ?_⟩; exact rfl)
              | (refine Or.inl ⟨by rfl, ?_⟩
                 intro w hSw
                 (try dsimp only at hSw)
                 (try go_split_ands)
                 go_simp
                 (first | done | with_reducible rfl))
          try simp only [Act.put, List.setIfInBounds_toArray, List.set_cons_zero, List.set_cons_succ]
          refine take_h 7 ⟨?_, ?_, ?_, by kernel_rfl, by kernel_rfl, by kernel_rfl, ?_, ?_, by assumption, ?_⟩
          rotate_left 2
          · (simp only [List.getElem?_toArray, List.getElem?_cons_succ, List.getElem?_cons_zero]; exact rfl)
          · exact fun _ _ _ h => h
          · first
              | (refine Or.inr ⟨by rfl, ?_⟩; exact rfl)
              | (refine Or.inl ⟨by rfl, ?_⟩
                 intro w hSw
                 (try dsimp only at hSw)
                 (try go_split_ands)
                 go_simp
                 (first | done | with_reducible rfl))
          try simp only [Act.put, List.setIfInBounds_toArray, List.set_cons_zero, List.set_cons_succ]
          refine take_h 8 ⟨?_, ?_, ?_, by kernel_rfl, by kernel_rfl, by kernel_rfl, ?_, ?_, by assumption, ?_⟩
          rotate_left 2
          · (simp only [List.getElem?_toArray, List.getElem?_cons_succ, List.getElem?_cons_zero]; exact rfl)
          · exact fun _ _ _ h => h
          · first
              | (refine Or.inr ⟨by rfl, ?_⟩; exact rfl)
              | (refine Or.inl ⟨by rfl, ?_⟩
                 intro w hSw
                 (try dsimp only at hSw)
                 (try go_split_ands)
                 go_simp
                 (first | done | with_reducible rfl))
          try simp only [Act.put, List.setIfInBounds_toArray, List.set_cons_zero, List.set_cons_succ]
          refine take_h 9 ⟨?_, ?_, ?_, by kernel_rfl, by kernel_rfl, by kernel_rfl, ?_, ?_, by assumption, ?_⟩
          rotate_left 2
          · (simp only [List.getElem?_toArray, List.getElem?_cons_succ, List.getElem?_cons_zero]; exact rfl)
          · exact fun _ _ _ h => h
          · first
              | (refine Or.inr ⟨by rfl, ?_⟩; exact rfl)
              | (refine Or.inl ⟨by rfl, ?_⟩
                 intro w hSw
                 (try dsimp only at hSw)
                 (try go_split_ands)
                 go_simp
                 (first | done | with_reducible rfl))
          try simp only [Act.put, List.setIfInBounds_toArray, List.set_cons_zero, List.set_cons_succ]
          refine take_h 10 ⟨?_, ?_, ?_, by kernel_rfl, by kernel_rfl, by kernel_rfl, ?_, ?_, by assumption, ?_⟩
          rotate_left 2
          · (simp only [List.getElem?_toArray, List.getElem?_cons_succ, List.getElem?_cons_zero]; exact rfl)
          · exact fun _ _ _ h => h
          · first
              | (refine Or.inr ⟨by rfl, ?_⟩; exact rfl)
              | (refine Or.inl ⟨by rfl, ?_⟩
                 intro w hSw
                 (try dsimp only at hSw)
                 (try go_split_ands)
                 go_simp
                 (first | done | with_reducible rfl))
          try simp only [Act.put, List.setIfInBounds_toArray, List.set_cons_zero, List.set_cons_succ]
          refine take_h 11 ⟨?_, ?_, ?_, by kernel_rfl, by kernel_rfl, by kernel_rfl, ?_, ?_, by assumption, ?_⟩
          rotate_left 2
          · (simp only [List.getElem?_toArray, List.getElem?_cons_succ, List.getElem?_cons_zero]; exact rfl)
          · exact fun _ _ _ h => h
          · first
              | (refine Or.inr ⟨by rfl, ?_⟩; exact rfl)
              | (refine Or.inl ⟨by rfl, ?_⟩
                 intro w hSw
                 (try dsimp only at hSw)
                 (try go_split_ands)
                 go_simp
                 (first | done | with_reducible rfl))
          try simp only [Act.put, List.setIfInBounds_toArray, List.set_cons_zero, List.set_cons_succ]
          refine take_h 12 ⟨?_, ?_, ?_, by kernel_rfl, by kernel_rfl, by kernel_rfl, ?_, ?_, by assumption, ?_⟩
          rotate_left 2
          · (simp only [List.getElem?_toArray, List.getElem?_cons_succ, List.getElem?_cons_zero]; exact rfl)
          · exact fun _ _ _ h => h
          · first
              | (refine Or.inr ⟨by rfl, ?_⟩; exact rfl)
              | (refine Or.inl ⟨by rfl, ?_⟩
                 intro w hSw
                 (try dsimp only at hSw)
                 (try go_split_ands)
                 go_simp
                 (first | done | with_reducible rfl))
          try simp only [Act.put, List.setIfInBounds_toArray, List.set_cons_zero, List.set_cons_succ]
          refine take_h 13 ⟨?_, ?_, ?_, by kernel_rfl, by kernel_rfl, by kernel_rfl, ?_, ?_, by assumption, ?_⟩
          rotate_left 2
          · (simp only [List.getElem?_toArray, List.getElem?_cons_succ, List.getElem?_cons_zero]; exact rfl)
          · exact fun _ _ _ h => h
          · first
              | (refine Or.inr ⟨by rfl, ?_⟩; exact rfl)
              | (refine Or.inl ⟨by rfl, ?_⟩
                 intro w hSw
                 (try dsimp only at hSw)
                 (try go_split_ands)
                 go_simp
                 (first | done | with_reducible rfl))
          try simp only [Act.put, List.setIfInBounds_toArray, List.set_cons_zero, List.set_cons_succ]
          refine wpAnyH_ready (rs := [14]) (by kernel_rfl) (by simp) ?_
          refine call_h 14 ⟨?_, ?_, fun K hK => ?_⟩
          rotate_left 1
          · (simp only [List.getElem?_toArray, List.getElem?_cons_succ, List.getElem?_cons_zero]; exact rfl)
          go_simp
          (go_at_call 27; refine (rputN HMD.out.drew (by rw [putV_length]; exact hDL) _ 2 wn).mono ?_; rintro e wp ⟨⟨x_, rfl⟩, hmP, hlP⟩)
          go_wp2_with fail
          have hl1 : Left [d] wD wp := ⟨hlP.os, hlP.tape, hlP.output, hlP.size, hlP.block⟩
          have HME := Lib.hid hmP
          have HHE := Lib.hid (HHD.out.left hl1 (by simp [hRd]))
          have HCE := Lib.hid (HCD.out.left hl1 (by simp [hbcd]))
          have HSE := Lib.hid (HSD.out.left hl1 (by simp [hbtd]))
          have HWE := Lib.hid (HWD.out.left hl1 (by simp [hbwd]))
          have HLE := Lib.hid (HLD.out.trans (T := [d]) hl1 (by simp))
          have HLE0 := Lib.hid (HLD0.out.trans (T := [d]) hl1 (by simp))
          have kg5 := cell_left' kg4 hl1 (by simp [g2])
          have S1 := cell_left' m0 hl1 (by simp [hRd])
          have S2 := cell_left' m2 hl1 (by simp [hRd])
          have S3 := cell_left' m4 hl1 (by simp [hRd])
          clear hmP hlP hl1 m0 m2 m4 kg4 hw4
          refine hK.out _ _ ⟨S1, S2, S3⟩ (fun hHeld => ?_)
          clear hK K
          (try simp only [Act.put, List.setIfInBounds_toArray, List.set_cons_zero, List.set_cons_succ])
          refine wpAnyH_done (by kernel_rfl) ?_ _
          clear hHeld
          clear S1 S2 S3
          go_wp2
          go_ret2
          have hlast : Left [R, bt, bc, bw, d] w wp := (Left.of_below HBel.out [R, bt, bc, bw, d]).trans (T := [R, bt, bc, bw, d]) HLE.out (by simp)
          have hFF := HR1.out.apart
          have hAll : ∀ k ∈ [R, bt, bc, bw, d], k ∉ F := by
            intro k hk
            simp only [List.mem_cons, List.mem_nil_iff, or_false] at hk
            rcases hk with rfl | rfl | rfl | rfl | rfl
            · exact fun hm => (hFF _ hm).1 rfl
            · exact fun hm => (hFF _ hm).2.1 rfl
            · exact fun hm => (hFF _ hm).2.2.1 rfl
            · exact fun hm => (hFF _ hm).2.2.2 rfl
            · exact hdF
          have hOE : OwnI wp (.slice (some ⟨g, 0, none⟩) L.length bcap) own := by
            unfold OwnI
            rw [HOwn.out]
            exact own_base (own_left HO.out HLE0.out (by simp; omega)) (Nat.zero_le _)
          unfold AddP
          rw [show takes tk L.length = own from HTe.out]
          refine ⟨o0, g, HO0.out, rfl, by omega, by have := HLE0.out.size; omega, ⟨?_, ?_, ⟨_, HCE.out, ?_⟩, HWE.out, ?_, ?_⟩, ?_, hlast⟩
          · rw [HWN.out]; exact HHE.out
          · exact HSE.out
          · refine RowsI.set_ ?_ o0 _ own hOE (by intro k hk; injection hk with hk; subst hk; simp)
            exact (RowsI.left HLE.out hAll HCr1.out).more (fun k hk => List.mem_cons_of_mem _ hk)
          · have := HR1.out.len
            rw [setAll_length, List.length_set, List.length_set]
            exact this
          · intro k hk
            rcases List.mem_cons.1 hk with rfl | hk
            · exact ⟨g3, g1, g4, g5⟩
            · exact hFF k hk
          · show MemAt 52 wp m d (putV (putV (descsB B L own L.length) (16 * (q : Int) + 4 + 2 * ((added % q : Nat) : Int)) 2 o0) (16 * (q : Int) + 2) 2 ((added + 1) % 65536))
            rw [HRR.out, HWN.out]
            exact HME.out
end Go.Proofs.Ytfffehbipcikoaa
