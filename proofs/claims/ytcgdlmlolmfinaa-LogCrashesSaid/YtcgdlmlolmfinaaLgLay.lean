/- The log: lay. -/

import Derived.Test.YtcgdlmlolmfinaaLgIn
import Derived.RangeFuncFrom
namespace Go.Proofs.Ytcgdlmlolmfinaa
open Go.RowKit Go.Shelf
attribute [local go_sem] Oper.semAt_some
theorem info_bss : (Try.prog.info? 33).map (fun i => (i.zero, i.size, i.bytes)) = some (some (.slice none 0 0), 1, 24) := by kernel_rfl
/-- Slices of 64 bytes each, in blocks of their own. -/
def secV (g : Nat) : Value := .slice (some ⟨g, 0, none⟩) 64 64
def LaidR (B : Nat) (w : World) (v : Value) (ls : List (List UInt8)) : Prop :=
  ∃ gs : List Nat, gs.length = ls.length ∧ w.ownsRow B 33 1 v ls.length (gs.map secV) ∧ ∀ (j : Nat) (b : List UInt8), ls[j]? = some b → ∃ g, gs[j]? = some g ∧ B ≤ g ∧ Whole w g 5 (u8s b)
/-- What is laid when these chunks have come. -/
def laidOf (H : List UInt8) (pre : List Nat) : List (List UInt8) := pre.mapIdx fun (j : Nat) (k : Nat) => secOf (kindOf j) (cut62 H k)
theorem laidOf_len (H : List UInt8) (pre : List Nat) : (laidOf H pre).length = pre.length := by simp [laidOf]
theorem laidOf_snoc (H : List UInt8) (pre : List Nat) (k : Nat) : laidOf H (pre ++ [k]) = laidOf H pre ++ [secOf (kindOf pre.length) (cut62 H k)] := by simp [laidOf, List.mapIdx_append]
theorem laidOf_range (H : List UInt8) (n : Nat) : laidOf H (List.range n) = (List.range n).map fun k => secOf (kindOf k) (cut62 H k) := by
  apply List.ext_getElem?
  intro i
  simp only [laidOf, List.getElem?_mapIdx, List.getElem?_map]
  by_cases h : i < n
  · rw [List.getElem?_range h]; rfl
  · rw [List.getElem?_eq_none (by simpa using h)]; rfl
theorem keeps_of_left {S : List Nat} {w w' : World} (h : Left S w w') (hS : ∀ k ∈ S, ∃ t, Ty w k t) : KeepsOthers w w' :=
  ⟨h.size, fun k o hk ho => (h.block k (Array.getElem?_eq_some_iff.1 hk).1 (fun hm => by
    obtain ⟨t, c, f, hc⟩ := hS k hm
    rw [hk] at hc
    injection hc with hc
    rw [hc] at ho
    cases ho)).trans hk⟩
theorem box_ty {W : World} {B : Nat} {t : TypeId} {v : Value} (h : Boxed W B t v) : Ty W B t := ⟨_, _, h⟩
theorem Whole.ty' {w : World} {g : Nat} {t : TypeId} {cs : List Value} (h : Whole w g t cs) : Ty w g t := ⟨_, _, h⟩
/-- A block of cells is no block that turns. -/
theorem ty_row {W : World} {b B : Nat} {t : TypeId} {row : Option Nat} (h : Ty W b t) (hr : ∀ r, row = some r → B ≤ r ∧ ∃ o : Obj, W.heap[r]? = some o ∧ o.isCells = false) : row ≠ some b := fun e => by
  obtain ⟨_, o, ho, hc⟩ := hr b e
  obtain ⟨c, f, h⟩ := h
  rw [h] at ho
  injection ho with ho
  rw [← ho] at hc
  cases hc
theorem own_kept {W W' : World} {base size n B : Nat} {e : TypeId} {v : Value} {xs : List Value} {row : Option Nat} (h : W.ownsRow base e size v n xs) (hg : W.grownBy W' row) (hr : ∀ r, row = some r → B ≤ r ∧ ∃ o : Obj, W.heap[r]? = some o ∧ o.isCells = false) : W'.ownsRow base e size v n xs := by
  refine h.kept hg ?_
  cases hk : v.ownBlock with
  | none => exact .inl rfl
  | some k => exact .inr (fun e => ty_row (own_ty h hk) hr e.symm)
/-- Between two rounds of lay. -/
structure LyI (w : World) (B2 Bk g7 N cap7 n1 : Nat) (H : List UInt8) (pre : List Nat) (W : World) (lv : Value) (gs : List Nat) : Prop where
  b2 : Boxed W B2 74 lv
  bk : Boxed W Bk 5 (.int .u8 ((kindOf pre.length).toNat : Int))
  gl : gs.length = pre.length
  row : W.ownsRow n1 33 1 lv pre.length (gs.map secV)
  sec : ∀ (j : Nat) (b : List UInt8), (laidOf H pre)[j]? = some b → ∃ g, gs[j]? = some g ∧ n1 ≤ g ∧ Whole W g 5 (u8s b)
  own : W.ownsRow w.heap.size 5 1 (.slice (some ⟨g7, 0, none⟩) N cap7) N (u8s H)
  bel : Below w.heap.size w W
  sz : n1 ≤ W.heap.size
theorem ly_own {w : World} {B2 Bk g7 N cap7 n1 : Nat} {H : List UInt8} (hn : w.heap.size ≤ n1) : OwnFrom n1 (fun pre W => ∃ lv gs, LyI w B2 Bk g7 N cap7 n1 H pre W lv gs) := fun pre W W' row ⟨lv, gs, h⟩ hg hr =>
  ⟨lv, gs, h.b2.kept hg (fun e => ty_row (box_ty h.b2) hr e.symm), h.bk.kept hg (fun e => ty_row (box_ty h.bk) hr e.symm), h.gl, own_kept h.row hg hr, fun j b hj => by
    obtain ⟨g, h1, h2, h3⟩ := h.sec j b hj
    exact ⟨g, h1, h2, (hg.block g h3.lt (fun e => ty_row h3.ty' hr e.symm)).trans h3⟩, own_kept h.own hg hr, h.bel.grown hg h.bel.size (fun k e => Nat.le_trans hn (hr k e).1), Nat.le_trans h.sz hg.size⟩
theorem sec_cells (kd : UInt8) (p : List UInt8) (h : p.length ≤ 62) : (((List.replicate 64 (0 : UInt8)).set 0 kd).set 63 1).take 1 ++ (p ++ (((List.replicate 64 (0 : UInt8)).set 0 kd).set 63 1).drop (1 + p.length)) = secOf kd p := by
  have e : ((List.replicate 64 (0 : UInt8)).set 0 kd).set 63 1 = kd :: (List.replicate 62 0 ++ [1]) := rfl
  rw [e]
  unfold secOf
  rw [Nat.add_comm 1, List.drop_succ_cons, List.drop_append_of_le_length (by simp; omega), List.drop_replicate]
  rfl
theorem rd_chunk {W : World} {base g7 N cap7 : Nat} {H : List UInt8} (h : W.ownsRow base 5 1 (.slice (some ⟨g7, 0, none⟩) N cap7) N (u8s H)) (hN : 0 < N) (x : Nat) :
    Rd W W.heap.size 1 (chV g7 N x) (min 62 (N - 62 * x)) (u8s (cut62 H x)) := by
  have hr := Rd.of_own h
  have hl : H.length = N := by have := hr.1; simpa [u8s] using this
  refine ⟨by unfold cut62 u8s; rw [List.length_map, List.length_take, List.length_drop, hl]; omega, _, _, rfl, Nat.le_refl _, by unfold maxLen; omega, (fun e => by cases e), fun hp => ⟨g7, 62 * x, rfl, ?_, fun j u hu => ?_⟩⟩
  · obtain ⟨b, o, u, e, hb, _, _⟩ := hr.at_ (k := 0) (by omega)
    injection e with e; injection e with e1 e2
    subst e1; exact hb
  · have hj : j < min 62 (N - 62 * x) := by
      have := (List.getElem?_eq_some_iff.1 hu).1
      unfold cut62 u8s at this
      rw [List.length_map, List.length_take, List.length_drop, hl] at this
      exact this
    obtain ⟨b, o, u', e, hb, hu', hc⟩ := hr.at_ (k := 62 * x + j) (by omega)
    injection e with e; injection e with e1 e2
    subst e1 e2
    rw [Nat.zero_add] at hc
    rw [hc, ← hu', ← hu]
    unfold cut62 u8s
    rw [List.getElem?_map, List.getElem?_map, List.getElem?_take, if_pos (by omega), List.getElem?_drop]
theorem results_lay (tmps : Array Value) (w : World) (g n : Nat) (vo : Option Addr) (vc : Nat) (hp : tmps.getD 2 undef = .pointer (some ⟨g, 0, none⟩)) (hc : w.cell? ⟨g, 0, none⟩ = some (.slice vo n vc)) : (results Try.f39 tmps).run Try.prog w = .ok (.slice vo n vc) w := by
  have hp' : tmps[2]?.getD undef = .pointer (some ⟨g, 0, none⟩) := by simpa using hp
  have hr : (Try.f39).results = #[.cell 2 74] := rfl
  have hl : (loadVar 74 ⟨g, 0, none⟩).run Try.prog w = .ok (.slice vo n vc) w := by
    unfold loadVar
    go_simp
  simp [results, hr, hp', asAddr, hl]
theorem one_newB (w : World) (x : Value) : Rd (w.alloc (.cells #[x] 33)) (w.heap.size + 1) 1 (.slice (some ⟨w.heap.size, 0, none⟩) 1 1) 1 [x] := by
  have h := Rd.of_whole (Whole.new w 33 [x]) (by simp [maxLen])
  simpa using h
theorem u8s_cut (A p : List UInt8) (i j : Nat) : (u8s A).take i ++ (u8s p ++ (u8s A).drop j) = u8s (A.take i ++ (p ++ A.drop j)) := by
  unfold u8s
  rw [List.map_append, List.map_append, List.map_take, List.map_drop]
def hd6 (n : Nat) (x : List UInt8) : List UInt8 := UInt8.ofNat (n / 256) :: UInt8.ofNat n :: cbL x
theorem hd6_cells (n : Nat) (hn : n ≤ 65535) (x : List UInt8) (c : Int) (hc : crcS x = c) :
    [Value.int .u8 ((n : Int) / 256), .int .u8 ((n : Int) % 256), .int .u8 (c / 16777216), .int .u8 (c / 65536 % 256), .int .u8 (c / 256 % 256), .int .u8 (c % 256)] = u8s (hd6 n x) := by
  have hb := crcS_in x
  rw [hc] at hb
  have e : ∀ z : Int, 0 ≤ z → z < 256 → ((UInt8.ofNat z.toNat).toNat : Int) = z := fun z h1 h2 => by
    rw [UInt8.toNat_ofNat']
    omega
  unfold hd6 cbL u8s
  rw [hc]
  simp only [List.map_cons, List.map_nil]
  rw [e _ (by omega) (by omega), e _ (by omega) (by omega), e _ (by omega) (by omega), e _ (by omega) (by omega)]
  rw [show ((UInt8.ofNat (n / 256)).toNat : Int) = (n : Int) / 256 by rw [UInt8.toNat_ofNat']; omega, show ((UInt8.ofNat n).toNat : Int) = (n : Int) % 256 by rw [UInt8.toNat_ofNat']; omega, show c / 16777216 % 256 = c / 16777216 by omega]
set_option maxRecDepth 100000 in
set_option maxHeartbeats 4000000 in
theorem llay (w : World) (x : List UInt8) (hx : x.length ≤ 65535) :
    Calls Try.prog 39 #[.string ⟨x.toArray⟩] w fun e w' => ∃ v, e = .returned v ∧ LaidR w.heap.size w' v (layR cbL x) ∧ Below w.heap.size w w' := by
  refine (callsIn_wide (n := 4)).1 ?_
  obtain ⟨wA, hwA⟩ : ∃ wA, wA = w.alloc (.cells #[.slice none 0 0] 74) := ⟨_, rfl⟩
  obtain ⟨c5, w5, hr5, hd5, hb5, hz5⟩ := conv_sb wA x (by omega)
  have hl : (⟨x.toArray⟩ : ByteArray).size = x.length := by simp [ByteArray.size]
  have HSM := Lib.hid (Sum_any w5 _ x hd5)
  obtain ⟨c, hc⟩ : ∃ c, crcS x = c := ⟨_, rfl⟩
  have hcb := crcS_in x
  rw [hc] at hcb
  rw [show crcNot (crcFin x (crcNot 0)) = c from hc] at HSM
  have hch := hwA.symm
  obtain ⟨hcb1, hcb2⟩ := hcb
  have HCC := Lib.hid hc
  have HD5 := Lib.hid (And.intro hb5 (And.intro hz5 hwA))
  clear hd5 hb5 hz5 hc hwA
  refine callsIn_of_wp_marks Try.func39 rfl trivial ?_ rfl
  simp only [Try.ntmps39, List.size_toArray, List.length_cons, List.length_nil, Nat.reduceAdd, Nat.reduceSub, Array.replicate_succ, Array.replicate_zero, List.push_toArray, List.append_toArray, List.nil_append, List.cons_append]
  have hz5 : w.heap.size ≤ w5.heap.size := by have := HD5.out.2.1; rw [HD5.out.2.2] at this; simp at this; omega
  have hlit : (w5.alloc (.cells #[Value.int .u8 ((x.length : Int) / 256), .int .u8 ((x.length : Int) % 256), .int .u8 (c / 16777216), .int .u8 (c / 65536 % 256), .int .u8 (c / 256 % 256), .int .u8 (c % 256)] 5)).ownsRow w.heap.size 5 1 (.slice (some ⟨w5.heap.size, 0, none⟩) 6 6) 6 (u8s (hd6 x.length x)) := by
    rw [← hd6_cells x.length hx x c HCC.out]
    exact World.ownsRow_lit (base := w.heap.size) (e := 5) (size := 1) w5 #[Value.int .u8 ((x.length : Int) / 256), .int .u8 ((x.length : Int) % 256), .int .u8 (c / 16777216), .int .u8 (c / 65536 % 256), .int .u8 (c / 256 % 256), .int .u8 (c % 256)] 6 hz5 (by unfold maxLen; omega) rfl
  have HLIT := Lib.hid hlit
  clear hlit
  gi_wp2_with (first | (refine ⟨trivial, ?_⟩; gi_at_call 49; refine (callsIn_wide.2 HSM.out).mono ?_; rintro e w' ⟨rfl, rfl⟩) | (gi_at_builtin; refine wpListIn_appS rfl (.tmp 29) (.tmp 30) _ _ rfl w.heap.size 5 Try.underlying33 Try.underlying9 info_u8 _ 6 (u8s (hd6 x.length x)) rfl HLIT.out ⟨x.toArray⟩ rfl ?_ ?_ ?_ ?_))
  · rw [hl]; unfold maxLen; omega
  · rw [hl]; omega
  · simp; omega
  intro v7 w7 hown7 hg7
  have e7 : u8s (hd6 x.length x) ++ Lib.strCells ⟨x.toArray⟩ = u8s (hdrOf cbL x) := by
    rw [show hdrOf cbL x = hd6 x.length x ++ x from rfl]
    unfold u8s
    rw [List.map_append]
    rfl
  rw [e7] at hown7
  obtain ⟨N, hN⟩ : ∃ N, 6 + x.length = N := ⟨_, rfl⟩
  rw [hN] at hown7
  have hHl : (hdrOf cbL x).length = N := by rw [← hN]; simp [hdrOf, cbL_len]; omega
  obtain ⟨g7, cap7, rfl, hg71, hg72, hc71, hc72⟩ := own_form hown7 (by omega)
  have hc73 : cap7 ≤ 9223372036854775807 := by unfold maxLen at hc72; omega
  have hbA : Below w.heap.size w w7 := by
    have h1 : Below w.heap.size w w5 := by
      have := (((Below.refl w.heap.size w).alloc (Nat.le_refl _) (.cells #[.slice none 0 0] 74))).trans ((HD5.out.2.2 ▸ HD5.out.1).mono (by simp))
      exact this
    exact (h1.alloc hz5 _).grown hg7 (by simp; omega) (fun k hk => by simp [Value.ownBlock] at hk; omega)
  have hbox2 : Boxed w7 w.heap.size 74 (.slice none 0 0) := by
    have h1 : Boxed wA w.heap.size 74 (.slice none 0 0) := by rw [HD5.out.2.2]; exact Boxed.new w _ _
    have h2 : Boxed w5 w.heap.size 74 (.slice none 0 0) := (HD5.out.1.block _ h1.lt).trans h1
    exact (h2.alloc _).kept hg7 (by simp [Value.ownBlock]; have := h1.lt; have := HD5.out.2.1; omega)
  have HB7 := Lib.hid (And.intro hown7 (And.intro hbA (And.intro hbox2 (And.intro hg71 hg72))))
  have HN := Lib.hid hN
  have HHL := Lib.hid hHl
  have hzw7 := hbA.size
  have HZ7 := Lib.hid hzw7
  clear hown7 hg7 hbA hbox2 hg71 hg72 hN hHl hc72 hzw7
  gi_wp2_with (refine ⟨trivial, ?_⟩; gi_at_call 52; refine (chunk_in _ _ _ _).mono ?_; rintro e w' ⟨rfl, rfl⟩)
  obtain ⟨W0, hW0⟩ : ∃ W0, ((w7.alloc (.cells #[.int .u8 1] 5)).alloc (.cells #[.slice (some ⟨g7, 0, none⟩) N cap7] 33)).alloc (.cells #[.int .i64 62] 3) = W0 := ⟨_, rfl⟩
  rw [hW0]
  have hs0 : W0.heap.size = w7.heap.size + 3 := by rw [← hW0]; simp
  have hb70 : Below w7.heap.size w7 W0 := by rw [← hW0]; exact (((Below.refl _ _).alloc (Nat.le_refl _) _).alloc (by simp) _).alloc (by simp; omega) _
  have hbk0 : Boxed W0 w7.heap.size 5 (.int .u8 1) := by
    rw [← hW0]
    exact ((Boxed.new w7 5 (.int .u8 1)).alloc _).alloc _
  have hbc1 : Boxed W0 (w7.heap.size + 1) 33 (.slice (some ⟨g7, 0, none⟩) N cap7) := by
    rw [← hW0]
    have h1 := Boxed.new (w7.alloc (.cells #[.int .u8 1] 5)) 33 (.slice (some ⟨g7, 0, none⟩) N cap7)
    rw [World.size_alloc] at h1
    exact h1.alloc _
  have hbc2 : Boxed W0 (w7.heap.size + 1 + 1) 3 (.int .i64 62) := by
    rw [← hW0]
    have h1 := Boxed.new ((w7.alloc (.cells #[.int .u8 1] 5)).alloc (.cells #[.slice (some ⟨g7, 0, none⟩) N cap7] 33)) 3 (.int .i64 62)
    rw [World.size_alloc, World.size_alloc] at h1
    exact h1
  have hI0 : LyI w w.heap.size w7.heap.size g7 N cap7 W0.heap.size (hdrOf cbL x) [] W0 (.slice none 0 0) [] :=
    ⟨(hb70.block _ HB7.out.2.2.1.lt).trans HB7.out.2.2.1, hbk0, rfl, World.ownsRow_nil _ _ _ _, fun j b hj => by simp [laidOf] at hj, own_below HB7.out.1 hb70, HB7.out.2.1.trans (hb70.mono HZ7.out), Nat.le_refl _⟩
  have HI0 := Lib.hid hI0
  have hN2 : N ≤ 65541 := by rw [← HN.out]; omega
  have hN3 : 0 < N := by rw [← HN.out]; omega
  clear hI0 hW0 hbk0
  refine wpIn_rangeFunc_ownF rfl (by omega) (gf := 63) (lb := #[.pointer (some ⟨w7.heap.size + 1, 0, none⟩), .pointer (some ⟨w7.heap.size + 1 + 1, 0, none⟩)]) rfl trivial (enters_of Try.func63 (by kernel_rfl) rfl)
    (chunk_stops (w7.heap.size + 1) g7 N cap7 (by omega) hc71 hc73 W0 (by omega) hbc1 hbc2) (fun h1 h2 => ⟨h2.1.trans h1.1, h2.2.trans h1.2⟩) (fun W l o o' hl _ _ _ => ⟨World.putObj_heap_other (by omega), World.putObj_heap_other (by omega)⟩) (Below.refl _ _) (fun _ => rfl)
    (fun pre W => ∃ lv gs, LyI w w.heap.size w7.heap.size g7 N cap7 W0.heap.size (hdrOf cbL x) pre W lv gs)
    (fun _ _ _ => False) (ly_own (by have := HZ7.out; omega)) (fun _ _ _ _ _ hs _ _ => hs) ⟨_, _, HI0.out⟩
    (fun k => { tmps := #[.string ⟨x.toArray⟩, undef, .pointer (some ⟨w.heap.size, 0, none⟩), .int .u32 c, .slice (some ⟨g7, 0, none⟩) N cap7, .pointer (some ⟨w7.heap.size, 0, none⟩), chV g7 N k, undef, .string ⟨x.toArray⟩, .slice (some ⟨wA.heap.size, 0, none⟩) x.length c5, .int .u32 c, .string ⟨x.toArray⟩, .int .i64 x.length, .int .i64 ((x.length : Int) / 256), .int .u8 ((x.length : Int) / 256), .string ⟨x.toArray⟩, .int .i64 x.length, .int .u8 ((x.length : Int) % 256), .int .u32 c, .int .u32 (c / 16777216), .int .u8 (c / 16777216), .int .u32 c, .int .u32 (c / 65536), .int .u8 (c / 65536 % 256), .int .u32 c, .int .u32 (c / 256), .int .u8 (c / 256 % 256), .int .u32 c, .int .u8 (c % 256), .slice (some ⟨w5.heap.size, 0, none⟩) 6 6, .string ⟨x.toArray⟩, .slice (some ⟨g7, 0, none⟩) N cap7, .slice (some ⟨g7, 0, none⟩) N cap7, .func (.func 63) #[] #[.pointer (some ⟨w7.heap.size + 1, 0, none⟩), .pointer (some ⟨w7.heap.size + 1 + 1, 0, none⟩)], chV g7 N k, undef, undef, undef, undef, undef, undef, undef, undef, undef, undef, undef, undef, undef, undef, undef], defers := [] }) ?assign ?body ?done ?stop
  case assign =>
    intro l k W K hK
    gi_wp2
    exact hK
  case body =>
    rintro l pre k W ⟨lv, gs, hI⟩ hlt
    obtain ⟨vo, vc, rfl, _, _⟩ := (Rd.of_own hI.row).form
    obtain ⟨m, hm⟩ : ∃ m, min 62 (N - 62 * k) = m := ⟨_, rfl⟩
    have hch := rd_chunk hI.own hN3 k
    have hcl : (cut62 (hdrOf cbL x) k).length = m := by unfold cut62; rw [List.length_take, List.length_drop, HHL.out]; omega
    unfold chV at hch ⊢
    rw [hm] at hch ⊢
    obtain ⟨kd, hkd⟩ : ∃ kd, kindOf pre.length = kd := ⟨_, rfl⟩
    have hbk := hI.bk
    rw [hkd] at hbk
    have ck := hbk.cell
    have c2 := hI.b2.cell
    have hmk := run_make_row' (P := Try.prog) 33 5 (.int .u8 0) 1 Try.underlying33 info_u8 rfl .i64 .i64 64 (by omega) (by omega)
    rw [made_u8L] at hmk
    simp only [show (((64 : Nat) : Nat) : Int) = 64 from rfl] at hmk
    obtain ⟨Z, hZ⟩ : ∃ Z, Z = u8s (List.replicate 64 0) := ⟨_, rfl⟩
    rw [← hZ] at hmk
    have hpl : pre.length ≤ 20000 := by unfold chN at hlt; omega
    obtain ⟨n1, hn1⟩ : ∃ n1, W0.heap.size = n1 := ⟨_, rfl⟩
    rw [hn1] at hI
    have hn1' : n1 = w7.heap.size + 3 := by rw [← hn1]; exact hs0
    obtain ⟨W1, hW1⟩ : ∃ W1, W1 = W.alloc (.cells Z.toArray 5) := ⟨_, rfl⟩
    have hw1 : Whole W1 W.heap.size 5 (u8s (List.replicate 64 0)) := by rw [hW1, hZ]; exact Whole.new W 5 _
    have k0 : W1.cell? ⟨W.heap.size, 0, none⟩ = some (.int .u8 0) := by rw [hw1.cell]; rfl
    have k63 : W1.cell? ⟨W.heap.size, 63, none⟩ = some (.int .u8 0) := by rw [hw1.cell]; rfl
    have f0 := hw1.free 0
    have f63 := hw1.free 63
    have hl1 : Left [] W W1 := by rw [hW1]; exact (Left.refl _ _).alloc _
    have ck1 : W1.cell? ⟨w7.heap.size, 0, none⟩ = some (.int .u8 (kd.toNat : Int)) := cell_left' ck hl1 (by simp)
    obtain ⟨W2, hW2⟩ : ∃ W2, W2 = (W1.setCell ⟨W.heap.size, 0, none⟩ (.int .u8 (kd.toNat : Int))).setCell ⟨W.heap.size, 63, none⟩ (.int .u8 1) := ⟨_, rfl⟩
    have hw2 : Whole W2 W.heap.size 5 (u8s (((List.replicate 64 (0 : UInt8)).set 0 kd).set 63 1)) := by
      have h := (hw1.put 0 (.int .u8 (kd.toNat : Int))).put 63 (.int .u8 1)
      have e : ((u8s (List.replicate 64 0)).set 0 (.int .u8 (kd.toNat : Int))).set 63 (.int .u8 1) = u8s (((List.replicate 64 (0 : UInt8)).set 0 kd).set 63 1) := by
        rw [u8s_set]
        exact u8s_set _ 63 1
      rw [← e, hW2]
      exact h
    have hl2 : Left [] W W2 := by rw [hW2]; exact (hl1.setCell (Or.inr (Nat.le_refl _)) _).setCell (Or.inr (Nat.le_refl _)) _
    have HC2 := Lib.hid ((hch.belowH hl2.below (Nat.le_refl _)))
    have HW2 := Lib.hid hw2
    have HL2 := Lib.hid hl2
    have HI := Lib.hid hI
    have HKD := Lib.hid hkd
    have HCL := Lib.hid hcl
    have HNN := Lib.hid (And.intro hn1' (And.intro hn1 (And.intro hb70 HZ7.out)))
    have hh1 := hW1.symm
    have hh2 := hW2.symm
    have HZZ := Lib.hid hZ
    have hm62 : m ≤ 62 := by omega
    clear hW1 hW2 hw1 hw2 hl1 hl2 hch hI hkd hcl hn1' hb70 hs0 hZ hbc1 hbc2 hbk hm hn1
    gi_wp2_with (with_reducible refine wpListIn_copyW (o := ⟨some 44, _, _, _, _, _⟩) rfl (.tmp 42) (.tmp 43) 33 33 rfl 5 Try.underlying33 sz_u8 _ _ _ m (.slice (some ⟨g7, 62 * k, none⟩) m m) rfl rfl W.heap.size 1 (u8s (((List.replicate 64 (0 : UInt8)).set 0 kd).set 63 1)) 5 HW2.out W.heap.size (u8s (cut62 (hdrOf cbL x) k)) HC2.out ?_ ?_ ?_ (u8s_one _) ?_)
    · omega
    · simp [u8s]; omega
    intro W3 hw3 hl3
    have hs3 : W.heap.size ≤ W3.heap.size := by have := HL2.out.size; have := hl3.size; omega
    have hgW : ∀ b, b < W.heap.size → b ∉ [W.heap.size] := fun b hb hm => by simp at hm; omega
    have hl03 : Left [] W W3 := ⟨hl3.os.trans HL2.out.os, hl3.tape.trans HL2.out.tape, hl3.output.trans HL2.out.output, hs3, fun b hb hn => (hl3.block b (by have := HL2.out.size; omega) (hgW b hb)).trans (HL2.out.block b hb hn)⟩
    have hsc3 : Whole W3 W.heap.size 5 (u8s (secOf kd (cut62 (hdrOf cbL x) k))) := by
      have e := u8s_cut (((List.replicate 64 (0 : UInt8)).set 0 kd).set 63 1) (cut62 (hdrOf cbL x) k) 1 (1 + m)
      rw [← HCL.out, sec_cells kd (cut62 (hdrOf cbL x) k) (by rw [HCL.out]; exact hm62)] at e
      rw [← e, HCL.out]
      exact hw3
    have c23 : W3.cell? ⟨w.heap.size, 0, none⟩ = some (.slice vo pre.length vc) := cell_left' c2 hl03 (by simp)
    have HR3 := Lib.hid (own_left HI.out.row hl03 (by simp))
    have HA3 := Lib.hid (one_newB W3 (secV W.heap.size))
    have H3 := Lib.hid (And.intro hl03 hsc3)
    have HS3 := Lib.hid hs3
    clear hw3 hl3 hs3 hgW hl03 hsc3 ck c2 hh1 hh2
    gi_wp2_with (gi_at_builtin; refine wpListIn_appW rfl (.tmp 45) (.tmp 47) _ rfl n1 33 (.slice none 0 0) 1 24 Try.underlying74 info_bss rfl (by omega) _ pre.length (gs.map secV) rfl (HR3.out.alloc _) _ _ 1 [secV W.heap.size] rfl HA3.out (by simp [secV, Value.oneCell']) ?_ ?_ ?_ ?_)
    · unfold maxLen; omega
    · omega
    · have := HI.out.sz; have := HS3.out; simp; omega
    intro v5 W5 hrow5 hg5 hat5
    obtain ⟨vo5, vc5, rfl, _, _⟩ := (Rd.of_own hrow5).form
    obtain ⟨q1, q2, q3, q4⟩ := HNN.out
    have hb23 : Boxed W3 w.heap.size 74 (.slice vo pre.length vc) := (H3.out.1.block _ HI.out.b2.lt (by simp)).trans HI.out.b2
    have hbk3 : Boxed W3 w7.heap.size 5 (.int .u8 (kd.toNat : Int)) := by
      have h := (H3.out.1.block _ HI.out.bk.lt (by simp)).trans HI.out.bk
      rw [HKD.out] at h
      exact h
    have hb25 : Boxed W5 w.heap.size 74 (.slice vo pre.length vc) := (hb23.alloc _).kept hg5 (hb23.not_row (by decide) HR3.out)
    have hbk5 : Boxed W5 w7.heap.size 5 (.int .u8 (kd.toNat : Int)) := (hbk3.alloc _).kept hg5 (hbk3.not_row (by decide) HR3.out)
    have c25 := hb25.cell
    have f25 := hb25.frozen
    have ck5 := hbk5.cell
    have fk5 := hbk5.frozen
    have hne : w.heap.size ≠ w7.heap.size := fun e => by
      have h1 := hb25
      have h2 := hbk5
      unfold Boxed at h1 h2
      rw [e, h2] at h1
      cases h1
    have hbk6 : Boxed (W5.setCell ⟨w.heap.size, 0, none⟩ (.slice vo5 (pre.length + 1) vc5)) w7.heap.size 5 (.int .u8 (kd.toNat : Int)) := hbk5.kept (grownBy_setCell' _ _ _) (fun e => hne (by injection e with e; exact e.symm))
    have ck6 := hbk6.cell
    have fk6 := hbk6.frozen
    have HNE := Lib.hid (And.intro hne q2)
    have H5 := Lib.hid (And.intro hrow5 (And.intro hg5 (And.intro hat5 (And.intro hb25 hbk5))))
    have HQ := Lib.hid (And.intro q1 q4)
    clear hrow5 hg5 hat5 hb23 hbk3 hb25 hbk5 q1 q2 q3 q4 c23 hne hbk6 ck5 fk5
    gi_wp2
    have hne := HNE.out.1
    obtain ⟨W6, hW6⟩ : ∃ W6, (W5.setCell ⟨w.heap.size, 0, none⟩ (.slice vo5 (pre.length + 1) vc5)).setCell ⟨w7.heap.size, 0, none⟩ (.int .u8 2) = W6 := ⟨_, rfl⟩
    rw [hW6]
    have hlT : Left (w.heap.size :: w7.heap.size :: Value.ownL (.slice vo pre.length vc)) W W6 := by
      rw [← hW6]
      refine Left.setCell (Left.setCell ?_ (Or.inl (by simp)) _) (Or.inl (by simp)) _
      refine (((H3.out.1.mono (T := w.heap.size :: w7.heap.size :: Value.ownL (.slice vo pre.length vc)) (by simp)).alloc _).trans (left_of_grown H5.out.2.1) (fun b hb => .inl (by simp [hb])))
    have hTy : ∀ b ∈ (w.heap.size :: w7.heap.size :: Value.ownL (.slice vo pre.length vc)), ∃ t, Ty W b t := fun b hb => by
      rcases List.mem_cons.1 hb with rfl | hb
      · exact ⟨_, box_ty HI.out.b2⟩
      · rcases List.mem_cons.1 hb with rfl | hb
        · exact ⟨_, box_ty HI.out.bk⟩
        · exact ⟨_, own_ty HI.out.row (mem_ownL.1 hb)⟩
    have hTn : ∀ b ∈ (w.heap.size :: w7.heap.size :: Value.ownL (.slice vo pre.length vc)), b = w.heap.size ∨ b = w7.heap.size ∨ (n1 ≤ b ∧ Ty W b 33) := fun b hb => by
      rcases List.mem_cons.1 hb with rfl | hb
      · exact .inl rfl
      · rcases List.mem_cons.1 hb with rfl | hb
        · exact .inr (.inl rfl)
        · exact .inr (.inr ⟨(HI.out.row.lt _ (mem_ownL.1 hb)).1, own_ty HI.out.row (mem_ownL.1 hb)⟩)
    have hw0 : w.heap.size ≤ w7.heap.size := HQ.out.2
    have hgt : ∀ b, n1 ≤ b → Ty W b 5 → b ∉ (w.heap.size :: w7.heap.size :: Value.ownL (.slice vo pre.length vc)) := fun b hb ht hm => by
      rcases hTn b hm with rfl | rfl | ⟨_, h⟩
      · have := HQ.out.1; omega
      · have := HQ.out.1; omega
      · exact (ht.ne h (by decide)) rfl
    refine ⟨keeps_of_left hlT hTy, ⟨hlT.block _ ?_ ?_, hlT.block _ ?_ ?_⟩, .slice vo5 (pre.length + 1) vc5, gs ++ [W.heap.size], ?_⟩
    · have := HI.out.sz; have := HQ.out.1; omega
    · intro hm
      rcases hTn _ hm with h | h | ⟨h, _⟩
      · omega
      · omega
      · have := HQ.out.1; omega
    · have := HI.out.sz; have := HQ.out.1; omega
    · intro hm
      rcases hTn _ hm with h | h | ⟨h, _⟩
      · omega
      · omega
      · have := HQ.out.1; omega
    · rw [HNE.out.2]
      refine ⟨?_, ?_, by simp [HI.out.gl], ?_, fun j b hj => ?_, ?_, HI.out.bel.trans (hlT.belowB HI.out.bel.size (fun b hb => ?_)), Nat.le_trans HI.out.sz hlT.size⟩
      · rw [← hW6]
        exact (H5.out.2.2.2.1.set _).kept (grownBy_setCell' _ _ _) (fun e => hne (by injection e))
      · rw [← hW6, List.length_append, List.length_singleton, show kindOf (pre.length + 1) = 2 by unfold kindOf; rw [if_neg (by omega)]]
        exact (H5.out.2.2.2.2.kept (grownBy_setCell' _ _ _) (fun e => hne (by injection e with e; exact e.symm))).set _
      · rw [← hW6, List.length_append, List.length_singleton, List.map_append]
        have hlt5 := H5.out.1.lt
        refine own_leftB H5.out.1 (((Left.refl [w.heap.size, w7.heap.size] W5).setCell (Or.inl (by simp)) _).setCell (Or.inl (by simp)) _) (fun b hb e => ?_)
        have := (hlt5 b e).1
        have := HQ.out.1
        simp only [List.mem_cons, List.not_mem_nil, or_false] at hb
        rcases hb with rfl | rfl <;> omega
      · rw [laidOf_snoc] at hj
        by_cases hjl : j < pre.length
        · rw [List.getElem?_append_left (by rw [laidOf_len]; exact hjl)] at hj
          obtain ⟨g, h1, h2, h3⟩ := HI.out.sec j b hj
          exact ⟨g, by rw [List.getElem?_append_left (by rw [HI.out.gl]; exact hjl)]; exact h1, h2, h3.left hlT (hgt g h2 h3.ty')⟩
        · rw [List.getElem?_append_right (by rw [laidOf_len]; omega), laidOf_len] at hj
          have hj0 : j - pre.length = 0 := by
            have := (List.getElem?_eq_some_iff.1 hj).1
            simp at this
            omega
          rw [hj0] at hj
          simp only [List.getElem?_cons_zero, Option.some.injEq] at hj
          subst hj
          refine ⟨W.heap.size, by rw [List.getElem?_append_right (by rw [HI.out.gl]; omega), HI.out.gl, hj0]; rfl, HI.out.sz, ?_⟩
          rw [HKD.out]
          have hl36 : Left (w.heap.size :: w7.heap.size :: Value.ownL (.slice vo pre.length vc)) W3 W6 := by
            rw [← hW6]
            refine Left.setCell (Left.setCell ?_ (Or.inl (by simp)) _) (Or.inl (by simp)) _
            exact (((Left.refl (w.heap.size :: w7.heap.size :: Value.ownL (.slice vo pre.length vc)) W3).alloc _).trans (left_of_grown H5.out.2.1) (fun b hb => .inl (by simp [hb])))
          refine H3.out.2.left hl36 (fun hm => ?_)
          rcases hTn _ hm with h | h | ⟨_, h⟩
          · have := HI.out.b2.lt; omega
          · have := HI.out.bk.lt; omega
          · obtain ⟨c, f, h⟩ := h
            have := (Array.getElem?_eq_some_iff.1 h).1
            omega
      · refine own_leftB HI.out.own hlT (fun b hb e => ?_)
        have ht := own_ty HI.out.own e
        have hb7 : b = g7 := by simp [Value.ownBlock] at e; exact e.symm
        subst hb7
        rcases hTn b hb with h | h | ⟨_, h⟩
        · rw [h] at ht; exact (ht.ne (box_ty HI.out.b2) (by decide)) rfl
        · have := HB7.out.2.2.2.2; omega
        · exact (ht.ne h (by decide)) rfl
      · rcases hTn b hb with h | h | ⟨h, _⟩
        · omega
        · omega
        · have := HQ.out.1; omega
  case done =>
    rintro D ys W hD rfl ⟨lv, gs, hI⟩ hK
    obtain ⟨vo, vc, rfl, _, _⟩ := (Rd.of_own hI.row).form
    have c2 := hI.b2.cell
    have f2 := hI.b2.frozen
    have hW2 : Boxed (W.setCell ⟨w.heap.size, 0, none⟩ (.slice vo (List.range (chN N)).length vc)) w.heap.size 74 (.slice vo (List.range (chN N)).length vc) := hI.b2.set _
    have hK2 : (W.setCell ⟨w.heap.size, 0, none⟩ (.slice vo (List.range (chN N)).length vc)).heap[D]? = some (.deferred (some [])) := (KeepsOthers.setCell _ _ _).same D _ hK rfl
    have HF := Lib.hid (And.intro hW2 hK2)
    have HI := Lib.hid hI
    clear hW2 hK2 hI hK
    gi_wp2
    rw [List.length_range] at HF
    refine ⟨by simp, .inl ⟨_, _, rfl, run_takeDeferred HF.out.2, ?_⟩⟩
    have hbx : Boxed ((W.setCell ⟨w.heap.size, 0, none⟩ (.slice vo (chN N) vc)).putObj D (.deferred none)) w.heap.size 74 (.slice vo (chN N) vc) := HF.out.1.kept (grownBy_putObj' _ D (.deferred none)) (fun e => by
      injection e with e
      have h1 := HF.out.1
      have h2 := HF.out.2
      unfold Boxed at h1
      rw [← e, h1] at h2
      cases h2)
    refine ⟨_, results_lay _ _ w.heap.size _ _ _ rfl hbx.cell, ?_⟩
    have hl : (layR cbL x) = laidOf (hdrOf cbL x) (List.range (chN N)) := by
      rw [laidOf_range]
      unfold layR
      rw [show secsN x.length = chN N by rw [← HN.out]; unfold secsN chN; omega]
    have hgb : (W.setCell ⟨w.heap.size, 0, none⟩ (.slice vo (chN N) vc)).grownBy ((W.setCell ⟨w.heap.size, 0, none⟩ (.slice vo (chN N) vc)).putObj D (.deferred none)) (some D) := grownBy_putObj' _ D (.deferred none)
    have hrD : ∀ r, some D = some r → 0 ≤ r ∧ ∃ o : Obj, (W.setCell ⟨w.heap.size, 0, none⟩ (.slice vo (chN N) vc)).heap[r]? = some o ∧ o.isCells = false := fun r e => by
      injection e with e; subst e; exact ⟨by omega, _, HF.out.2, rfl⟩
    have hlS : Left [w.heap.size] W (W.setCell ⟨w.heap.size, 0, none⟩ (.slice vo (chN N) vc)) := (Left.refl _ _).setCell (Or.inl (by simp)) _
    have hrow := HI.out.row
    rw [List.length_range] at hrow
    refine ⟨_, rfl, ⟨gs, by rw [hl, laidOf_len]; exact HI.out.gl, ?_, fun j b hj => ?_⟩, ?_⟩
    · rw [hl, laidOf_len, List.length_range]
      refine own_base (own_kept (own_leftB hrow hlS (fun k hk e => ?_)) hgb hrD) (by have := HZ7.out; omega)
      simp only [List.mem_singleton] at hk
      subst hk
      have := (hrow.lt _ e).1
      have := HZ7.out
      omega
    · rw [hl] at hj
      obtain ⟨g, h1, h2, h3⟩ := HI.out.sec j b hj
      have h4 := h3.left hlS (by simp only [List.mem_singleton]; have := HZ7.out; omega)
      exact ⟨g, h1, by have := HZ7.out; omega, (hgb.block g h4.lt (fun e => ty_row h4.ty' hrD e.symm)).trans h4⟩
    · refine ((HI.out.bel.trans (hlS.belowB HI.out.bel.size (by simp))).grown hgb ?_ (fun k e => ?_))
      · have := HI.out.bel.size; simpa [World.setCell] using this
      · injection e with e; subst e; have := HZ7.out; omega
  case stop =>
    rintro D c pre W _ _ h _
    exact h.elim
end Go.Proofs.Ytcgdlmlolmfinaa
