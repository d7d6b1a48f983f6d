/- A queue of the network card: how it lies; place, load, store, free, put. -/


import Derived.Test.YtfffehbipcikoaaNcPlain
import Derived.Test.YtfffehbipcikoaaRgRound
namespace Go.Proofs.Ytfffehbipcikoaa
open Go.RowKit

structure QS where
  Q : Nat
  ob : Nat
  ub : Nat
  bk : Nat
  nb : Nat
  bm : Nat → Nat
  bd : Nat → Nat
  s : Spot
def QS.blocks (z : QS) : List Nat := [z.Q, z.ob, z.ub, z.bk] ++ (List.range z.nb).flatMap (fun i => [z.bm i, z.bd i])
theorem QS.mem4 (z : QS) : z.Q ∈ z.blocks ∧ z.ob ∈ z.blocks ∧ z.ub ∈ z.blocks ∧ z.bk ∈ z.blocks := by simp [QS.blocks]
theorem QS.memB (z : QS) {i : Nat} (h : i < z.nb) : z.bm i ∈ z.blocks ∧ z.bd i ∈ z.blocks := by
  simp only [QS.blocks, List.mem_append, List.mem_flatMap, List.mem_range]
  exact ⟨.inr ⟨i, h, by simp⟩, .inr ⟨i, h, by simp⟩⟩
def qCells (z : QS) (n cap : Nat) : List Value := [.pointer (some ⟨z.s.D, 0, none⟩), .pointer (some ⟨z.s.V, 0, none⟩), .slice (some ⟨z.bk, 0, none⟩) z.nb cap, .int .i64 n, .slice (some ⟨z.ob, 0, none⟩) n n, .slice (some ⟨z.ub, 0, none⟩) n n]
structure QAt (w : World) (z : QS) (n : Nat) (own : List Int) (used : List Bool) (Bk : Nat → List UInt8) : Prop where
  head : ∃ cap, Whole w z.Q 153 (qCells z n cap) ∧ z.nb ≤ cap ∧ cap ≤ 9223372036854775807
  bank : ∀ i, i < z.nb → w.cell? ⟨z.bk, i, none⟩ = some (.pointer (some ⟨z.bm i, 0, none⟩))
  owner : Whole w z.ob 3 (own.map (.int .i64 ·))
  used_ : Whole w z.ub 4 (used.map (.bool ·))
  mem : ∀ i, i < z.nb → MemAt 114 w (z.bm i) (z.bd i) (Bk i)
  len : own.length = n ∧ used.length = n
  size : n ≤ 64 ∧ n ≤ z.nb * 32
  bl : ∀ i, i < z.nb → (Bk i).length = 65536
  ne1 : ∀ i j, i < z.nb → j < z.nb → z.bm i ≠ z.bd j ∧ (i ≠ j → z.bd i ≠ z.bd j)
  ne2 : ∀ i, i < z.nb → z.bd i ≠ z.Q ∧ z.bd i ≠ z.ob ∧ z.bd i ≠ z.ub ∧ z.bd i ≠ z.bk
  ne3 : z.Q ≠ z.ob ∧ z.Q ≠ z.ub ∧ z.ob ≠ z.ub ∧ z.bk ≠ z.ob ∧ z.bk ≠ z.ub ∧ ∀ i, i < z.nb → z.bm i ≠ z.ob ∧ z.bm i ≠ z.ub
section
variable {w w' : World} {z : QS} {n : Nat} {own : List Int} {used : List Bool} {Bk : Nat → List UInt8} {S : List Nat}
theorem QAt.left (h : QAt w z n own used Bk) (hl : Left S w w') (hS : ∀ k ∈ S, k ∉ z.blocks) : QAt w' z n own used Bk := by
  obtain ⟨m1, m2, m3, m4⟩ := z.mem4
  have hn : ∀ x ∈ z.blocks, x ∉ S := fun x hx hm => hS x hm hx
  obtain ⟨cap, h1, h2⟩ := h.head
  exact ⟨⟨cap, h1.left hl (hn _ m1), h2⟩, fun i hi => cell_left' (h.bank i hi) hl (hn _ m4), h.owner.left hl (hn _ m2), h.used_.left hl (hn _ m3), fun i hi => (h.mem i hi).left hl (hn _ (z.memB hi).1) (hn _ (z.memB hi).2), h.len, h.size, h.bl, h.ne1, h.ne2, h.ne3⟩
theorem QAt.left0 (h : QAt w z n own used Bk) (hl : Left [] w w') : QAt w' z n own used Bk := h.left hl (by simp)
theorem QAt.nbk (h : QAt w z n own used Bk) {k : Nat} (hk : k < n) : k / 32 < z.nb := by have := h.size; omega
theorem QAt.lt (h : QAt w z n own used Bk) : ∀ k ∈ z.blocks, k < w.heap.size ∨ (k = z.bk ∧ z.nb = 0) := by
  intro k hk
  obtain ⟨cap, h1, _⟩ := h.head
  simp only [QS.blocks, List.mem_append, List.mem_cons, List.mem_nil_iff, or_false, List.mem_flatMap, List.mem_range] at hk
  rcases hk with (rfl | rfl | rfl | rfl) | ⟨i, hi, rfl | rfl⟩
  · exact .inl h1.lt
  · exact .inl h.owner.lt
  · exact .inl h.used_.lt
  · rcases Nat.eq_zero_or_pos z.nb with h0 | h0
    · exact .inr ⟨rfl, h0⟩
    · exact .inl (World.block_lt_of_cell? w _ (h.bank 0 h0))
  · exact .inl (h.mem i hi).head.lt
  · exact .inl (h.mem i hi).bytes.lt

set_option maxHeartbeats 1000000 in
theorem place_any (h : QAt w z n own used Bk) {k : Nat} (hk : k < n) :
    Calls Try.prog 95 #[.pointer (some ⟨z.Q, 0, none⟩), .int .i64 k] w fun e w' => e = .returned (.tuple #[.pointer (some ⟨z.bm (k / 32), 0, none⟩), .int .i64 (k % 32 * 2048 : Nat)]) ∧ w' = w := by
  have hb := h.nbk hk
  have hc := h.bank _ hb
  have hk64 : k < 64 := by have := h.size; omega
  obtain ⟨cap, h1, h2, h3⟩ := h.head
  have c2 : w.cell? ⟨z.Q, 2, none⟩ = some (.slice (some ⟨z.bk, 0, none⟩) z.nb cap) := by rw [h1.cell]; rfl
  obtain ⟨j, hj⟩ : ∃ j, k / 32 = j := ⟨_, rfl⟩
  obtain ⟨p, hp⟩ : ∃ p, k % 32 * 2048 = p := ⟨_, rfl⟩
  rw [hj] at hb hc ⊢
  rw [hp]
  have q0 : IntKind.i64.wrap ((k : Int) * 2048) = (k : Int) * 2048 := IntWalk.i64_in _ ⟨by omega, by omega⟩
  have q1 : ((k : Int) * 2048).tdiv 65536 = (j : Int) := by rw [Int.tdiv_eq_ediv_of_nonneg (by omega)]; omega
  have q2 : ((k : Int) * 2048).tmod 65536 = (p : Int) := by rw [Int.tmod_eq_emod_of_nonneg (by omega)]; omega
  have hp2 : p ≤ 65536 := by omega
  clear h h1 hj hp hk
  go_enter Try.func95, Try.ntmps95
  go_wp2
  go_ret2
  exact ⟨rfl, rfl⟩

set_option maxHeartbeats 1000000 in
theorem load_any (h : QAt w z n own used Bk) {k m : Nat} (hk : k < n) (hm : m ≤ 2048) :
    Calls Try.prog 84 #[.pointer (some ⟨z.Q, 0, none⟩), .int .i64 k, .int .i64 m] w fun e w' => ∃ v, e = .returned v ∧ w'.ownsRow w.heap.size 5 1 v m (u8s (slotR Bk k m)) ∧ Below w.heap.size w w' := by
  have HP := Lib.hid (place_any h hk)
  have hb := h.nbk hk
  have hB := h.bl _ hb
  have HM := Lib.hid (h.mem _ hb)
  have HR := Lib.hid (slot_read (n := m) hB hm)
  have HL := Lib.hid (slotR_length (n := m) hB hm)
  have HB : Hid ((Bk (k / 32)).length ≤ 65536) := Lib.hid (by omega)
  clear h hb hB
  obtain ⟨p, hp⟩ : ∃ p : Nat, k % 32 * 2048 = p := ⟨_, rfl⟩
  rw [hp] at HP HR
  have HPE := Lib.hid hp
  clear hp
  go_enter Try.func84, Try.ntmps84
  go_wp2_with fail
  refine HP.out.mono ?_
  rintro e w1 ⟨rfl, rfl⟩
  go_wp2_with fail
  refine (Read_any w1 _ _ _ _ (m : Int) HM.out HB.out (by omega)).mono ?_
  rintro e w2 ⟨v, rfl, hown, hbl⟩
  rw [HR.out.2, HL.out] at hown
  go_wp2
  go_ret
  exact ⟨v, rfl, hown, hbl⟩

set_option maxHeartbeats 1000000 in
theorem store_any (h : QAt w z n own used Bk) {k : Nat} (hk : k < n) {v : Value} {L : List UInt8} (hr : Rd w w.heap.size 1 v L.length (u8s L)) (hL : L.length ≤ 2048) :
    Calls Try.prog 87 #[.pointer (some ⟨z.Q, 0, none⟩), .int .i64 k, v] w fun e w' => e = .returned (.tuple #[]) ∧ QAt w' z n own used (slotW Bk k L) ∧ Left [z.bd (k / 32)] w w' := by
  have HP := Lib.hid (place_any h hk)
  have hb := h.nbk hk
  have hB := h.bl _ hb
  have HM := Lib.hid (h.mem _ hb)
  have HB : Hid ((Bk (k / 32)).length ≤ 65536) := Lib.hid (by omega)
  have HR := Lib.hid hr
  have HQ := Lib.hid h
  clear h hr
  obtain ⟨p, hp⟩ : ∃ p : Nat, k % 32 * 2048 = p := ⟨_, rfl⟩
  rw [hp] at HP
  have HPE := Lib.hid hp
  clear hp
  obtain ⟨ao, cap, rfl, _, _⟩ := HR.out.form
  go_enter Try.func87, Try.ntmps87
  go_wp2_with fail
  refine HP.out.mono ?_
  rintro e w1 ⟨rfl, rfl⟩
  go_wp2_with fail
  refine (Write_any w1 _ _ _ _ _ L HM.out HB.out HR.out (by omega)).mono ?_
  rintro e w2 ⟨rfl, hM2, hl⟩
  go_wp2
  go_end0
  obtain ⟨cap2, h1, h2⟩ := HQ.out.head
  obtain ⟨a1, a2, a3, a4⟩ := HQ.out.ne2 _ hb
  obtain ⟨o1, o2, o3, o4, o5, o6⟩ := HQ.out.ne3
  refine ⟨rfl, ⟨⟨cap2, h1.left hl (by simpa using a1.symm), h2⟩, fun i hi => cell_left' (HQ.out.bank i hi) hl (by simpa using a4.symm), HQ.out.owner.left hl (by simpa using a2.symm), HQ.out.used_.left hl (by simpa using a3.symm), fun i hi => ?_, HQ.out.len, HQ.out.size, fun i hi => by rw [slotW_length]; exact HQ.out.bl i hi, HQ.out.ne1, HQ.out.ne2, HQ.out.ne3⟩, hl⟩
  by_cases he : i = k / 32
  · subst he
    rw [slotW_at, HPE.out]
    exact hM2
  · rw [slotW_ne he]
    exact (HQ.out.mem i hi).left hl (by simpa using (HQ.out.ne1 i _ hi hb).1) (by simpa using (HQ.out.ne1 i _ hi hb).2 he)

set_option maxHeartbeats 1000000 in
theorem qfree_any (h : QAt w z n own used Bk) {k : Nat} (hk : used[k]? = some false) (hlt : ∀ j, j < k → used[j]? = some true) :
    Calls Try.prog 86 #[.pointer (some ⟨z.Q, 0, none⟩)] w fun e w' => e = .returned (.int .i64 k) ∧ w' = w := by
  obtain ⟨cap, h1, _, _⟩ := h.head
  have c3 : w.cell? ⟨z.Q, 3, none⟩ = some (.int .i64 n) := by rw [h1.cell]; rfl
  have c5 : w.cell? ⟨z.Q, 5, none⟩ = some (.slice (some ⟨z.ub, 0, none⟩) n n) := by rw [h1.cell]; rfl
  have HU := Lib.hid h.used_
  have hn := h.size.1
  have hkn : k < n := by rw [← h.len.2]; exact (List.getElem?_eq_some_iff.1 hk).1
  have HLT := Lib.hid hlt
  have HK := Lib.hid hk
  clear h h1 hlt hk
  go_enter Try.func86, Try.ntmps86
  go_upto_region 1 with fail
  refine wp_scope_falls (rest0 := ?r) 0 ?J ?μ ?hf ?p ?f
  case J => exact (fun l a' w' => l = 0 ∧ ∃ j : Nat, j ≤ k ∧ w' = w ∧ ∃ u : Nat → Value, a' = { tmps := #[.pointer (some ⟨z.Q, 0, none⟩), u 1, u 2, .int .i64 j, u 4, u 5, u 6, u 7, u 8, u 9, u 10, u 11, u 12, u 13, u 14, u 15, u 16, u 17, u 18, u 19, u 20], defers := [] })
  case μ => exact (fun _ a' _ => k - (intOf (a'.tmps.getD 3 undef)).toNat)
  case hf => exact rfl
  · rintro lb a' w' ⟨rfl, j, hj, rfl, u, rfl⟩
    refine ⟨_, rfl, ?_⟩
    by_cases hjk : j = k
    · subst hjk
      have hc : w'.cell? ⟨z.ub, j, none⟩ = some (.bool false) := by rw [HU.out.cell, List.getElem?_map, HK.out]; rfl
      have hne : ((j : Int) == (n : Int)) = false := beq_eq_false_iff_ne.2 (by omega)
      go_wp2
      simp only [exitJumps]
      go_ret
      exact ⟨rfl, rfl⟩
    · have hjk2 : j < k := by omega
      have hc : w'.cell? ⟨z.ub, j, none⟩ = some (.bool true) := by rw [HU.out.cell, List.getElem?_map, HLT.out j hjk2]; rfl
      have hne : ((j : Int) == (n : Int)) = false := beq_eq_false_iff_ne.2 (by omega)
      clear hjk
      go_wp2
      go_step3
      exact ⟨⟨rfl, j + 1, by omega, rfl, frame_any rfl⟩, by simp [intOf]; omega⟩
  · intro hgo
    have HGO := Lib.hid hgo
    clear hgo
    go_wp2
    go_step3
    refine (by assumption : ∀ (a : Act) (w : World), Code.wp _ _ _ a w → _) _ _ ?_
    exact HGO.out _ _ ⟨by trivial, 0, by omega, rfl, frame_any rfl⟩

theorem QAt.own_set (h : QAt w z n own used Bk) (i : Nat) (x : Int) : QAt (w.setCell ⟨z.ob, i, none⟩ (.int .i64 x)) z n (own.set i x) used Bk ∧ Left [z.ob] w (w.setCell ⟨z.ob, i, none⟩ (.int .i64 x)) := by
  have hl : Left [z.ob] w (w.setCell ⟨z.ob, i, none⟩ (.int .i64 x)) := (Left.refl _ _).setCell (Or.inl (by simp)) _
  obtain ⟨cap, h1, h2⟩ := h.head
  obtain ⟨o1, o2, o3, o4, o5, o6⟩ := h.ne3
  refine ⟨⟨⟨cap, h1.left hl (by simpa using o1), h2⟩, fun j hj => cell_left' (h.bank j hj) hl (by simpa using o4), ?_, h.used_.left hl (by simpa using o3.symm), fun j hj => (h.mem j hj).left hl (by simpa using (o6 j hj).1) (by simpa using (h.ne2 j hj).2.1), by simpa using h.len, h.size, h.bl, h.ne1, h.ne2, h.ne3⟩, hl⟩
  rw [List.map_set]
  exact h.owner.put i _
theorem QAt.used_set (h : QAt w z n own used Bk) (i : Nat) (x : Bool) : QAt (w.setCell ⟨z.ub, i, none⟩ (.bool x)) z n own (used.set i x) Bk ∧ Left [z.ub] w (w.setCell ⟨z.ub, i, none⟩ (.bool x)) := by
  have hl : Left [z.ub] w (w.setCell ⟨z.ub, i, none⟩ (.bool x)) := (Left.refl _ _).setCell (Or.inl (by simp)) _
  obtain ⟨cap, h1, h2⟩ := h.head
  obtain ⟨o1, o2, o3, o4, o5, o6⟩ := h.ne3
  refine ⟨⟨⟨cap, h1.left hl (by simpa using o2), h2⟩, fun j hj => cell_left' (h.bank j hj) hl (by simpa using o5), h.owner.left hl (by simpa using o3), ?_, fun j hj => (h.mem j hj).left hl (by simpa using (o6 j hj).2) (by simpa using (h.ne2 j hj).2.2.1), by simpa using h.len, h.size, h.bl, h.ne1, h.ne2, h.ne3⟩, hl⟩
  rw [List.map_set]
  exact h.used_.put i _

/-- None of the queue's own blocks is the ring's. -/
def QS.Apart (z : QS) : Prop := ∀ b ∈ z.blocks, b ∉ z.s.all ∧ b ≠ z.s.m
def NoRs (w : World) (s : Spot) (L : List Nat) : Prop := ∀ b ∈ L, NoRow w s.bw b

theorem bufsB_put {k m : Nat} (wr : Bool) (hk : k < 64) (hm : 1 ≤ m) (hm2 : m ≤ 2048) : bufsB [⟨((k * 2048 : Nat) : Int), m, wr⟩] = true := by
  simp [bufsB, chainOk, pieceB, bufB]
  omega
theorem rd_one' (w : World) (b : Buf) {n : Nat} (hn : n = w.heap.size) : Rd (w.alloc (.cells #[.int .i64 b.addr, .int .i64 b.len, .bool b.wr] 89)) (w.alloc (.cells #[.int .i64 b.addr, .int .i64 b.len, .bool b.wr] 89)).heap.size 3 (.slice (some ⟨n, 0, none⟩) 1 1) [b].length (bufCells [b]) := by
  subst hn
  exact rd_one w b

set_option maxHeartbeats 1000000 in
theorem put_any {want : List Fl} {out : List (Fl × Nat)} {free : Nat} (h : QAt w z n own used Bk) (hr : RigG w z.s n want out free) (ha : z.Apart) (hno : NoRs w z.s z.blocks) (hf : 1 ≤ free) {k m : Nat} (hk : k < n) (hm : 1 ≤ m) (hm2 : m ≤ 2048) (wr : Bool) :
    Calls Try.prog 83 #[.pointer (some ⟨z.Q, 0, none⟩), .int .i64 k, .int .i64 m, .bool wr] w fun e w' => e = .returned (.tuple #[]) ∧ ∃ f : Fl, f.L = [⟨((k * 2048 : Nat) : Int), m, wr⟩] ∧ f.h < n ∧ QAt w' z n (own.set f.h k) (used.set k true) Bk ∧
      RigG w' z.s n (want ++ [f]) out (free - 1) ∧ Left (z.s.all ++ [z.ob, z.ub]) w w' ∧ ∀ b, b < w.heap.size → NoRow w z.s.bw b → NoRow w' z.s.bw b := by
  have hk64 : k < 64 := by have := h.size; omega
  obtain ⟨cap, h1, _, _⟩ := h.head
  have hW := h1
  have c0 : w.cell? ⟨z.Q, 0, none⟩ = some (.pointer (some ⟨z.s.D, 0, none⟩)) := by rw [h1.cell]; rfl
  have HQ := Lib.hid h
  have HW := Lib.hid hW
  have HNO := Lib.hid hno
  obtain ⟨p, hp⟩ : ∃ p : Nat, k * 2048 = p := ⟨_, rfl⟩
  have hp1 : IntKind.i64.wrap ((k : Int) * 2048) = (p : Int) := by rw [IntWalk.i64_in _ ⟨by omega, by omega⟩]; omega
  have hp2 : p ≤ 131072 := by omega
  have hB : bufsB [⟨(p : Int), m, wr⟩] = true := by rw [← hp]; exact bufsB_put wr hk64 hm hm2
  have HB := Lib.hid hB
  have HR := Lib.hid hr
  rw [hp]
  have HP := Lib.hid hp
  clear h h1 hW hno hB hr hp
  go_enter Try.func83, Try.ntmps83
  go_wp2_with fail
  have hlA := (Left.refl [] w).alloc (.cells #[.int .i64 p, .int .i64 m, .bool wr] 89)
  have hlt := HR.out.lt
  have hdl : z.s.d < w.heap.size := hlt z.s.d (by simp [Spot.all])
  have hsl : z.s.bs < w.heap.size := hlt z.s.bs (by simp [Spot.all])
  have hbw := HR.out.bw_lt
  refine (RigG.add (L := [⟨(p : Int), m, wr⟩]) (HR.out.left hlA) (rd_one w ⟨(p : Int), m, wr⟩) ⟨by simp only [Value.ownBlock]; intro e; injection e with e; omega, by simp only [Value.ownBlock]; intro e; injection e with e; omega⟩ HB.out (by simpa using hf)).mono ?_
  rintro e w1 ⟨own1, hh, rfl, hRb, hlb, hnb⟩
  obtain ⟨f, hfe⟩ : ∃ f : Fl, f = ⟨own1, [⟨(p : Int), m, wr⟩]⟩ := ⟨_, rfl⟩
  rw [← hfe] at hh hRb ⊢
  have HFL : Hid (f.L = [⟨(p : Int), m, wr⟩]) := Lib.hid (by rw [hfe])
  have hl1 : Left z.s.all w w1 := (hlA.mono (by simp)).trans hlb (fun k hk => .inl hk)
  have HN1 : Hid (∀ b, b < w.heap.size → NoRow w z.s.bw b → NoRow w1 z.s.bw b) := Lib.hid (fun b hb hn => hnb b (by simp; omega) (hn.left hlA (by simp) hbw))
  have hA1 : ∀ k ∈ z.s.all, k ∉ z.blocks := fun k hk hm => (ha k hm).1 hk
  have HQ1 := Lib.hid (HQ.out.left hl1 hA1)
  have HR1 := Lib.hid hRb
  have hW1 := HW.out.left hl1 (fun hm => hA1 _ hm z.mem4.1)
  have HL1 := Lib.hid hl1
  have HA1 := Lib.hid hA1
  have d4 : w1.cell? ⟨z.Q, 4, none⟩ = some (.slice (some ⟨z.ob, 0, none⟩) n n) := by rw [hW1.cell]; rfl
  have d5 : w1.cell? ⟨z.Q, 5, none⟩ = some (.slice (some ⟨z.ub, 0, none⟩) n n) := by rw [hW1.cell]; rfl
  obtain ⟨hd, hhd⟩ : ∃ hd, f.h = hd := ⟨_, rfl⟩
  rw [hhd] at hh ⊢
  have HHD := Lib.hid hhd
  have f1 := HQ1.out.owner.free hd
  have f2 := HQ1.out.used_.free k
  have g1 : w1.cell? ⟨z.ob, hd, none⟩ = some ((own.map (fun x : Int => Value.int .i64 x))[hd]'(by simp; have := HQ1.out.len.1; omega)) := by rw [HQ1.out.owner.cell]; exact List.getElem?_eq_getElem _
  clear hRb hlb hnb hl1 hlA hfe hlt hdl hsl hbw hA1 hW1 c0
  go_upto_region 1 with fail
  refine wp_region_held_drew (S := fun wx => wx.cell? ⟨z.Q, 4, none⟩ = some (.slice (some ⟨z.ob, 0, none⟩) n n) ∧ wx.cell? ⟨z.Q, 5, none⟩ = some (.slice (some ⟨z.ub, 0, none⟩) n n)) (by kernel_rfl) ⟨d4, d5⟩ (fun hHeld => ?_)
  refine take_h 0 ⟨?_, ?_, ?_, by kernel_rfl, by kernel_rfl, by kernel_rfl, ?_, ?_, by assumption, ?_⟩
  rotate_left 2
  · (simp only [List.getElem?_toArray, List.getElem?_cons_zero]; exact rfl)
  · exact fun _ _ _ h => h
  · first
      | (refine Or.inr ⟨by rfl, ?_⟩; exact rfl)
      | (refine Or.inl ⟨by rfl, ?_⟩
         intro w hSw
         (try dsimp only at hSw)
         (try go_split_ands)
         go_simp
         (first | done | with_reducible rfl))
  try simp only [Act.put, List.setIfInBounds_toArray, List.set_cons_zero, List.set_cons_succ]
  refine take_h 1 ⟨?_, ?_, ?_, by kernel_rfl, by kernel_rfl, by kernel_rfl, ?_, ?_, by assumption, ?_⟩
  rotate_left 2
  · (simp only [List.getElem?_toArray, List.getElem?_cons_succ, List.getElem?_cons_zero]; exact rfl)
  · exact fun _ _ _ h => h
  · first
      | (refine Or.inr ⟨by rfl, ?_⟩; exact rfl)
      | (refine Or.inl ⟨by rfl, ?_⟩
         intro w hSw
         (try dsimp only at hSw)
         (try go_split_ands)
         go_simp
         (first | done | with_reducible rfl))
  try simp only [Act.put, List.setIfInBounds_toArray, List.set_cons_zero, List.set_cons_succ]
  refine take_h 2 ⟨?_, ?_, ?_, by kernel_rfl, by kernel_rfl, by kernel_rfl, ?_, ?_, by assumption, ?_⟩
  rotate_left 2
  · (simp only [List.getElem?_toArray, List.getElem?_cons_succ, List.getElem?_cons_zero]; exact rfl)
  · exact fun _ _ _ h => h
  · first
      | (refine Or.inr ⟨by rfl, ?_⟩; exact rfl)
      | (refine Or.inl ⟨by rfl, ?_⟩
         intro w hSw
         (try dsimp only at hSw)
         (try go_split_ands)
         go_simp
         (first | done | with_reducible rfl))
  try simp only [Act.put, List.setIfInBounds_toArray, List.set_cons_zero, List.set_cons_succ]
  refine take_h 3 ⟨?_, ?_, ?_, by kernel_rfl, by kernel_rfl, by kernel_rfl, ?_, ?_, by assumption, ?_⟩
  rotate_left 2
  · (simp only [List.getElem?_toArray, List.getElem?_cons_succ, List.getElem?_cons_zero]; exact rfl)
  · exact fun _ _ _ h => h
  · first
      | (refine Or.inr ⟨by rfl, ?_⟩; exact rfl)
      | (refine Or.inl ⟨by rfl, ?_⟩
         intro w hSw
         (try dsimp only at hSw)
         (try go_split_ands)
         go_simp
         (first | done | with_reducible rfl))
  try simp only [Act.put, List.setIfInBounds_toArray, List.set_cons_zero, List.set_cons_succ]
  refine take_h 4 ⟨?_, ?_, ?_, by kernel_rfl, by kernel_rfl, by kernel_rfl, ?_, ?_, by assumption, ?_⟩
  rotate_left 2
  · (simp only [List.getElem?_toArray, List.getElem?_cons_succ, List.getElem?_cons_zero]; exact rfl)
  · exact fun _ _ _ h => h
  · first
      | (refine Or.inr ⟨by rfl, ?_⟩; exact rfl)
      | (refine Or.inl ⟨by rfl, ?_⟩
         intro w hSw
         (try dsimp only at hSw)
         (try go_split_ands)
         go_simp
         (first | done | with_reducible rfl))
  try simp only [Act.put, List.setIfInBounds_toArray, List.set_cons_zero, List.set_cons_succ]
  refine take_h 5 ⟨?_, ?_, ?_, by kernel_rfl, by kernel_rfl, by kernel_rfl, ?_, ?_, by assumption, ?_⟩
  rotate_left 2
  · (simp only [List.getElem?_toArray, List.getElem?_cons_succ, List.getElem?_cons_zero]; exact rfl)
  · exact fun _ _ _ h => h
  · first
      | (refine Or.inr ⟨by rfl, ?_⟩; exact rfl)
      | (refine Or.inl ⟨by rfl, ?_⟩
         intro w hSw
         (try dsimp only at hSw)
         (try go_split_ands)
         go_simp
         (first | done | with_reducible rfl))
  try simp only [Act.put, List.setIfInBounds_toArray, List.set_cons_zero, List.set_cons_succ]
  refine take_h 6 ⟨?_, ?_, ?_, by kernel_rfl, by kernel_rfl, by kernel_rfl, ?_, ?_, by assumption, ?_⟩
  rotate_left 2
  · (simp only [List.getElem?_toArray, List.getElem?_cons_succ, List.getElem?_cons_zero]; exact rfl)
  · exact fun _ _ _ h => h
  · first
      | (refine Or.inr ⟨by rfl, ?_⟩; exact rfl)
      | (refine Or.inl ⟨by rfl, ?_⟩
         intro w hSw
         (try dsimp only at hSw)
         (try go_split_ands)
         go_simp
         (first | done | with_reducible rfl))
  try simp only [Act.put, List.setIfInBounds_toArray, List.set_cons_zero, List.set_cons_succ]
  refine take_h 7 ⟨?_, ?_, ?_, by kernel_rfl, by kernel_rfl, by kernel_rfl, ?_, ?_, by assumption, ?_⟩
  rotate_left 2
  · (simp only [List.getElem?_toArray, List.getElem?_cons_succ, List.getElem?_cons_zero]; exact rfl)
  · exact fun _ _ _ h => h
  · first
      | (refine Or.inr ⟨by rfl, ?_⟩; exact rfl)
      | (refine Or.inl ⟨by rfl, ?_⟩
         intro w hSw
         (try dsimp only at hSw)
         (try go_split_ands)
         go_simp
         (first | done | with_reducible rfl))
  try simp only [Act.put, List.setIfInBounds_toArray, List.set_cons_zero, List.set_cons_succ]
  refine take_h 8 ⟨?_, ?_, ?_, by kernel_rfl, by kernel_rfl, by kernel_rfl, ?_, ?_, by assumption, ?_⟩
  rotate_left 2
  · (simp only [List.getElem?_toArray, List.getElem?_cons_succ, List.getElem?_cons_zero]; exact rfl)
  · exact fun _ _ _ h => h
  · first
      | (refine Or.inr ⟨by rfl, ?_⟩; exact rfl)
      | (refine Or.inl ⟨by rfl, ?_⟩
         intro w hSw
         (try dsimp only at hSw)
         (try go_split_ands)
         go_simp
         (first | done | with_reducible rfl))
  try simp only [Act.put, List.setIfInBounds_toArray, List.set_cons_zero, List.set_cons_succ]
  refine take_h 9 ⟨?_, ?_, ?_, by kernel_rfl, by kernel_rfl, by kernel_rfl, ?_, ?_, by assumption, ?_⟩
  rotate_left 2
  · (simp only [List.getElem?_toArray, List.getElem?_cons_succ, List.getElem?_cons_zero]; exact rfl)
  · exact fun _ _ _ h => h
  · first
      | (refine Or.inr ⟨by rfl, ?_⟩; exact rfl)
      | (refine Or.inl ⟨by rfl, ?_⟩
         intro w hSw
         (try dsimp only at hSw)
         (try go_split_ands)
         go_simp
         (first | done | with_reducible rfl))
  try simp only [Act.put, List.setIfInBounds_toArray, List.set_cons_zero, List.set_cons_succ]
  refine take_h 10 ⟨?_, ?_, ?_, by kernel_rfl, by kernel_rfl, by kernel_rfl, ?_, ?_, by assumption, ?_⟩
  rotate_left 2
  · (simp only [List.getElem?_toArray, List.getElem?_cons_succ, List.getElem?_cons_zero]; exact rfl)
  · exact fun _ _ _ h => h
  · first
      | (refine Or.inr ⟨by rfl, ?_⟩; exact rfl)
      | (refine Or.inl ⟨by rfl, ?_⟩
         intro w hSw
         (try dsimp only at hSw)
         (try go_split_ands)
         go_simp
         (first | done | with_reducible rfl))
  try simp only [Act.put, List.setIfInBounds_toArray, List.set_cons_zero, List.set_cons_succ]
  refine take_h 11 ⟨?_, ?_, ?_, by kernel_rfl, by kernel_rfl, by kernel_rfl, ?_, ?_, by assumption, ?_⟩
  rotate_left 2
  · (simp only [List.getElem?_toArray, List.getElem?_cons_succ, List.getElem?_cons_zero]; exact rfl)
  · exact fun _ _ _ h => h
  · first
      | (refine Or.inr ⟨by rfl, ?_⟩; exact rfl)
      | (refine Or.inl ⟨by rfl, ?_⟩
         intro w hSw
         (try dsimp only at hSw)
         (try go_split_ands)
         go_simp
         (first | done | with_reducible rfl))
  try simp only [Act.put, List.setIfInBounds_toArray, List.set_cons_zero, List.set_cons_succ]
  refine wpAnyH_ready (rs := [12]) (by kernel_rfl) (by simp) ?_
  refine call_h 12 ⟨?_, ?_, fun K hK => ?_⟩
  rotate_left 1
  · (simp only [List.getElem?_toArray, List.getElem?_cons_succ, List.getElem?_cons_zero]; exact rfl)
  go_simp
  skip
  go_wp2_with fail
  obtain ⟨w2, hw2⟩ : ∃ w2, w2 = w1.setCell ⟨z.ob, hd, none⟩ (.int .i64 (k : Int)) := ⟨_, rfl⟩
  obtain ⟨hq2, hl2⟩ := HQ1.out.own_set hd (k : Int)
  rw [← hw2] at hq2 hl2 ⊢
  have hN1 : NoRow w1 z.s.bw z.ob := HN1.out _ HQ.out.owner.lt (HNO.out _ z.mem4.2.1)
  have hN2 : NoRow w1 z.s.bw z.ub := HN1.out _ HQ.out.used_.lt (HNO.out _ z.mem4.2.2.1)
  have ha1 := ha _ z.mem4.2.1
  have ha2 := ha _ z.mem4.2.2.1
  have hr2 : RigG w2 z.s n (want ++ [f]) out (free - 1) := HR1.out.leftB hl2 (fun b hb => by simp only [List.mem_singleton] at hb; subst hb; exact ⟨ha1.1, ha1.2, hN1⟩)
  have hbw2 : z.s.bw ∉ [z.ob] := by simp only [List.mem_singleton]; intro e; exact ha1.1 (e ▸ by simp [Spot.all])
  have hbw3 : z.s.bw ∉ [z.ub] := by simp only [List.mem_singleton]; intro e; exact ha2.1 (e ▸ by simp [Spot.all])
  have hN2' : NoRow w2 z.s.bw z.ub := hN2.left hl2 hbw2 HR1.out.bw_lt
  obtain ⟨cap2, hWw, _⟩ := hq2.head
  have e4 : w2.drew.cell? ⟨z.Q, 4, none⟩ = some (.slice (some ⟨z.ob, 0, none⟩) n n) := by show w2.cell? _ = _; rw [hWw.cell]; rfl
  have e5 : w2.drew.cell? ⟨z.Q, 5, none⟩ = some (.slice (some ⟨z.ub, 0, none⟩) n n) := by show w2.cell? _ = _; rw [hWw.cell]; rfl
  have f3 : w2.drew.frozen? ⟨z.ub, k, none⟩ = false := hq2.used_.free k
  have g3 : w2.drew.cell? ⟨z.ub, k, none⟩ = some (.bool (used[k]'(by have := HQ1.out.len.2; omega))) := by show w2.cell? _ = _; rw [hq2.used_.cell, List.getElem?_map, List.getElem?_eq_getElem (by have := HQ1.out.len.2; omega)]; rfl
  obtain ⟨hq3, hl3⟩ := hq2.used_set k true
  have hr3 : RigG (w2.setCell ⟨z.ub, k, none⟩ (.bool true)) z.s n (want ++ [f]) out (free - 1) := hr2.leftB hl3 (fun b hb => by simp only [List.mem_singleton] at hb; subst hb; exact ⟨ha2.1, ha2.2, hN2'⟩)
  have hlA : Left (z.s.all ++ [z.ob, z.ub]) w (w2.setCell ⟨z.ub, k, none⟩ (.bool true)) := ((HL1.out.mono (T := z.s.all ++ [z.ob, z.ub]) (by intro x hx; simp [hx])).trans (hl2.mono (T := z.s.all ++ [z.ob, z.ub]) (by simp)) (fun x hx => .inl hx)).trans (hl3.mono (T := z.s.all ++ [z.ob, z.ub]) (by simp)) (fun x hx => .inl hx)
  have hNN : ∀ b, b < w.heap.size → NoRow w z.s.bw b → NoRow (w2.setCell ⟨z.ub, k, none⟩ (.bool true)) z.s.bw b := fun b hb hn => ((HN1.out b hb hn).left hl2 hbw2 HR1.out.bw_lt).left hl3 hbw3 hr2.bw_lt
  have hW3 := hWw.left hl3 (by simpa using hq2.ne3.2.1)
  have i4 : (w2.setCell ⟨z.ub, k, none⟩ (.bool true)).drew.cell? ⟨z.Q, 4, none⟩ = some (.slice (some ⟨z.ob, 0, none⟩) n n) := by show (w2.setCell _ _).cell? _ = _; rw [hW3.cell]; rfl
  have i5 : (w2.setCell ⟨z.ub, k, none⟩ (.bool true)).drew.cell? ⟨z.Q, 5, none⟩ = some (.slice (some ⟨z.ub, 0, none⟩) n n) := by show (w2.setCell _ _).cell? _ = _; rw [hW3.cell]; rfl
  have HEND := Lib.hid (And.intro hq3 (And.intro hr3 (And.intro hlA hNN)))
  obtain ⟨w3, hw3⟩ : ∃ w3, w3 = w2.setCell ⟨z.ub, k, none⟩ (.bool true) := ⟨_, rfl⟩
  have HW3 := Lib.hid hw3
  clear hW3 hw3
  clear hq2 hl2 hr2 hbw2 hbw3 hN2' hWw hq3 hl3 hr3 hlA hNN hN1 hN2 ha1 ha2 hw2 d4 d5 f1 f2 g1
  refine hK.out _ _ ⟨e4, e5⟩ (fun hHeld => ?_)
  clear hK K
  (try simp only [Act.put, List.setIfInBounds_toArray, List.set_cons_zero, List.set_cons_succ])
  refine take_h 13 ⟨?_, ?_, ?_, by kernel_rfl, by kernel_rfl, by kernel_rfl, ?_, ?_, by assumption, ?_⟩
  rotate_left 2
  · (simp only [List.getElem?_toArray, List.getElem?_cons_succ, List.getElem?_cons_zero]; exact rfl)
  · exact fun _ _ _ h => h
  · first
      | (refine Or.inr ⟨by rfl, ?_⟩; exact rfl)
      | (refine Or.inl ⟨by rfl, ?_⟩
         intro w hSw
         (try dsimp only at hSw)
         (try go_split_ands)
         go_simp
         (first | done | with_reducible rfl))
  try simp only [Act.put, List.setIfInBounds_toArray, List.set_cons_zero, List.set_cons_succ]
  refine wpAnyH_ready (rs := [14]) (by kernel_rfl) (by simp) ?_
  refine call_h 14 ⟨?_, ?_, fun K hK => ?_⟩
  rotate_left 1
  · (simp only [List.getElem?_toArray, List.getElem?_cons_succ, List.getElem?_cons_zero]; exact rfl)
  go_simp
  skip
  go_wp2_with fail
  refine hK.out _ _ ⟨i4, i5⟩ (fun hHeld => ?_)
  clear hK K
  refine wpAnyH_done (by kernel_rfl) ?_ _
  clear hHeld i4 i5 e4 e5 f3 g3
  go_end0
  obtain ⟨a1, a2, a3, a4⟩ := HEND.out
  have hx : (w2.setCell ⟨z.ub, k, none⟩ (.bool true)).drew = (w2.setCell ⟨z.ub, k, none⟩ (.bool true)).drew := rfl
  have hd0 := (Left.refl [] (w2.setCell ⟨z.ub, k, none⟩ (.bool true))).drew
  refine ⟨rfl, f, by rw [HFL.out], by rw [HHD.out]; exact hh, by rw [HHD.out]; exact a1.left0 hd0, a2.left hd0, a3.drew, fun b hb hn => (a4 b hb hn).left hd0 (by simp) a2.bw_lt⟩
end
end Go.Proofs.Ytfffehbipcikoaa
