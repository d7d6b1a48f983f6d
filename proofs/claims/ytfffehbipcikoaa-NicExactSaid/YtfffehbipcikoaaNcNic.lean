/- The network card: what it keeps; New. -/


import Derived.Test.YtfffehbipcikoaaNcNew
namespace Go.Proofs.Ytfffehbipcikoaa
open Go.RowKit Go.MapKept

def QS.all (z : QS) : List Nat := z.blocks ++ z.s.all ++ [z.s.m]
theorem QS.all_mem {z : QS} {k : Nat} : k ∈ z.all ↔ k ∈ z.blocks ∨ k ∈ z.s.all ∨ k = z.s.m := by simp [QS.all, or_assoc]
def rxSlots (W : List (Fl × Nat)) (O : List (Fl × Nat × List UInt8)) : List (Fl × Nat) := W ++ O.map fun p => (p.1, p.2.1)
/-- The receiving queue: W wait for frames, O hold one each. -/
structure RxAt (w : World) (z : QS) (own : List Int) (used : List Bool) (Bk : Nat → List UInt8) (W : List (Fl × Nat)) (O : List (Fl × Nat × List UInt8)) (free : Nat) : Prop where
  q : QAt w z 16 own used Bk
  r : RigG w z.s 16 (W.map (·.1)) (O.map fun p => (p.1, p.2.2.length)) free
  slot : ∀ p ∈ rxSlots W O, own[p.1.h]? = some (p.2 : Int) ∧ p.2 < 16 ∧ p.1.L = [⟨((p.2 * 2048 : Nat) : Int), 2048, true⟩]
  nd : ((rxSlots W O).map (·.2)).Nodup
  fr : ∀ p ∈ O, slotR Bk p.2.1 p.2.2.length = p.2.2 ∧ p.2.2.length ≤ 1514
def RxG (w : World) (z : QS) (F : List (List UInt8)) : Prop := ∃ own used Bk W O, RxAt w z own used Bk W O 0 ∧ W.length + O.length = 16 ∧ O.map (·.2.2) = F
/-- The sending queue: G go out. -/
structure TxAt (w : World) (z : QS) (own : List Int) (used : List Bool) (Bk : Nat → List UInt8) (G : List (Fl × Nat × List UInt8)) : Prop where
  q : QAt w z 64 own used Bk
  r : RigG w z.s 64 (G.map (·.1)) [] (64 - G.length)
  slot : ∀ p ∈ G, own[p.1.h]? = some (p.2.1 : Int) ∧ p.2.1 < 64 ∧ p.1.L = [⟨((p.2.1 * 2048 : Nat) : Int), p.2.2.length, false⟩] ∧ used[p.2.1]? = some true
  nd : (G.map (·.2.1)).Nodup
  fr : ∀ p ∈ G, slotR Bk p.2.1 p.2.2.length = p.2.2 ∧ 14 ≤ p.2.2.length ∧ p.2.2.length ≤ 1514
  fu : freeN used + G.length = 64
def TxG (w : World) (z : QS) (F : List (List UInt8)) : Prop := ∃ own used Bk G, TxAt w z own used Bk G ∧ G.map (·.2.2) = F

section
variable {w w' : World} {z : QS} {own : List Int} {used : List Bool} {Bk : Nat → List UInt8} {W : List (Fl × Nat)} {O G : List (Fl × Nat × List UInt8)} {F : List (List UInt8)} {S : List Nat} {free : Nat}
theorem RxAt.left (h : RxAt w z own used Bk W O free) (hl : Left S w w') (hS : ∀ k ∈ S, k ∉ z.all ∧ NoRow w z.s.bw k) : RxAt w' z own used Bk W O free :=
  ⟨h.q.left hl (fun k hk hm => (hS k hk).1 (QS.all_mem.2 (.inl hm))), h.r.leftB hl (fun k hk => ⟨fun hm => (hS k hk).1 (QS.all_mem.2 (.inr (.inl hm))), fun e => (hS k hk).1 (QS.all_mem.2 (.inr (.inr e))), (hS k hk).2⟩), h.slot, h.nd, h.fr⟩
theorem RxG.left (h : RxG w z F) (hl : Left S w w') (hS : ∀ k ∈ S, k ∉ z.all ∧ NoRow w z.s.bw k) : RxG w' z F := by
  obtain ⟨own, used, Bk, W, O, h1, h2⟩ := h
  exact ⟨own, used, Bk, W, O, h1.left hl hS, h2⟩
theorem TxAt.left (h : TxAt w z own used Bk G) (hl : Left S w w') (hS : ∀ k ∈ S, k ∉ z.all ∧ NoRow w z.s.bw k) : TxAt w' z own used Bk G :=
  ⟨h.q.left hl (fun k hk hm => (hS k hk).1 (QS.all_mem.2 (.inl hm))), h.r.leftB hl (fun k hk => ⟨fun hm => (hS k hk).1 (QS.all_mem.2 (.inr (.inl hm))), fun e => (hS k hk).1 (QS.all_mem.2 (.inr (.inr e))), (hS k hk).2⟩), h.slot, h.nd, h.fr, h.fu⟩
theorem TxG.left (h : TxG w z F) (hl : Left S w w') (hS : ∀ k ∈ S, k ∉ z.all ∧ NoRow w z.s.bw k) : TxG w' z F := by
  obtain ⟨own, used, Bk, G, h1, h2⟩ := h
  exact ⟨own, used, Bk, G, h1.left hl hS, h2⟩
theorem RxG.bw_lt (h : RxG w z F) : z.s.bw < w.heap.size := by
  obtain ⟨own, used, Bk, W, O, h1, _⟩ := h
  exact h1.r.bw_lt
theorem TxG.bw_lt (h : TxG w z F) : z.s.bw < w.heap.size := by
  obtain ⟨own, used, Bk, G, h1, _⟩ := h
  exact h1.r.bw_lt
theorem RxG.fresh (h : RxG w z F) : ∀ k, w.heap.size ≤ k → NoRow w z.s.bw k := by
  obtain ⟨own, used, Bk, W, O, h1, _⟩ := h
  exact fun k hk => h1.r.fresh hk
theorem TxG.fresh (h : TxG w z F) : ∀ k, w.heap.size ≤ k → NoRow w z.s.bw k := by
  obtain ⟨own, used, Bk, G, h1, _⟩ := h
  exact fun k hk => h1.r.fresh hk
end

def nicCells (rx tx : QS) (a b c : Nat) : List Value := [.pointer (some ⟨rx.Q, 0, none⟩), .pointer (some ⟨tx.Q, 0, none⟩), .int .i64 a, .int .i64 b, .int .i64 c]
def Nor2 (w : World) (rx tx : QS) (k : Nat) : Prop := NoRow w rx.s.bw k ∧ NoRow w tx.s.bw k
def Keep2 (w w' : World) (rx tx : QS) : Prop := ∀ k, k < w.heap.size → Nor2 w rx tx k → Nor2 w' rx tx k
structure NicG (w : World) (N : Nat) (rx tx : QS) (lo hi : Nat) (In Out : List (List UInt8)) (drop : Nat) : Prop where
  head : Whole w N 149 (nicCells rx tx In.length Out.length drop)
  rx_ : RxG w rx In
  tx_ : TxG w tx Out
  ap : rx.Apart ∧ tx.Apart
  dis : (∀ k ∈ rx.all, k ∉ tx.all) ∧ N ∉ rx.all ∧ N ∉ tx.all
  nor : ∀ k ∈ N :: (rx.all ++ tx.all), Nor2 w rx tx k
  rng : ∀ k ∈ N :: (rx.all ++ tx.all), lo ≤ k ∧ k < hi
  hi_ : hi ≤ w.heap.size
section
variable {w w' : World} {N lo hi drop drop' : Nat} {rx tx : QS} {In Out In' Out' : List (List UInt8)} {S : List Nat}
theorem bw_all (z : QS) : z.s.bw ∈ z.all := QS.all_mem.2 (.inr (.inl (by simp [Spot.all])))
theorem NicG.rx_done (h : NicG w N rx tx lo hi In Out drop) (hl : Left (N :: rx.all) w w') (hr : RxG w' rx In') (hd : Whole w' N 149 (nicCells rx tx In'.length Out.length drop')) (hk : ∀ k, k < w.heap.size → NoRow w rx.s.bw k → NoRow w' rx.s.bw k) : NicG w' N rx tx lo hi In' Out drop' ∧ Keep2 w w' rx tx := by
  have hn : tx.s.bw ∉ N :: rx.all := fun hm => by
    rcases List.mem_cons.1 hm with e | hm
    · exact h.dis.2.2 (e ▸ bw_all tx)
    · exact h.dis.1 _ hm (bw_all tx)
  have hK : Keep2 w w' rx tx := fun k h1 h2 => ⟨hk k h1 h2.1, h2.2.left hl hn h.tx_.bw_lt⟩
  refine ⟨⟨hd, hr, h.tx_.left hl (fun k hm => ?_), h.ap, h.dis, fun k hm => hK k (Nat.lt_of_lt_of_le (h.rng k hm).2 h.hi_) (h.nor k hm), h.rng, Nat.le_trans h.hi_ hl.size⟩, hK⟩
  rcases List.mem_cons.1 hm with e | hm
  · subst e
    exact ⟨h.dis.2.2, (h.nor _ (by simp)).2⟩
  · exact ⟨h.dis.1 k hm, (h.nor k (by simp [hm])).2⟩
theorem NicG.tx_done (h : NicG w N rx tx lo hi In Out drop) (hl : Left (N :: tx.all) w w') (hr : TxG w' tx Out') (hd : Whole w' N 149 (nicCells rx tx In.length Out'.length drop')) (hk : ∀ k, k < w.heap.size → NoRow w tx.s.bw k → NoRow w' tx.s.bw k) : NicG w' N rx tx lo hi In Out' drop' ∧ Keep2 w w' rx tx := by
  have hn : rx.s.bw ∉ N :: tx.all := fun hm => by
    rcases List.mem_cons.1 hm with e | hm
    · exact h.dis.2.1 (e ▸ bw_all rx)
    · exact h.dis.1 _ (bw_all rx) hm
  have hK : Keep2 w w' rx tx := fun k h1 h2 => ⟨h2.1.left hl hn h.rx_.bw_lt, hk k h1 h2.2⟩
  refine ⟨⟨hd, h.rx_.left hl (fun k hm => ?_), hr, h.ap, h.dis, fun k hm => hK k (Nat.lt_of_lt_of_le (h.rng k hm).2 h.hi_) (h.nor k hm), h.rng, Nat.le_trans h.hi_ hl.size⟩, hK⟩
  rcases List.mem_cons.1 hm with e | hm
  · subst e
    exact ⟨h.dis.2.1, (h.nor _ (by simp)).1⟩
  · exact ⟨fun hm2 => h.dis.1 k hm2 hm, (h.nor k (by simp [hm])).1⟩
/-- Other blocks were written. -/
theorem NicG.left (h : NicG w N rx tx lo hi In Out drop) (hl : Left S w w') (hS : ∀ k ∈ S, (k < lo ∨ hi ≤ k) ∧ Nor2 w rx tx k) : NicG w' N rx tx lo hi In Out drop ∧ Keep2 w w' rx tx := by
  have hno : ∀ k ∈ S, k ∉ N :: (rx.all ++ tx.all) := fun k hk hm => by
    have := h.rng k hm
    rcases (hS k hk).1 with g | g <;> omega
  have h1 : rx.s.bw ∉ S := fun hm => hno _ hm (by simp [bw_all])
  have h2 : tx.s.bw ∉ S := fun hm => hno _ hm (by simp [bw_all])
  have hK : Keep2 w w' rx tx := fun k _ hk => ⟨hk.1.left hl h1 h.rx_.bw_lt, hk.2.left hl h2 h.tx_.bw_lt⟩
  exact ⟨⟨h.head.left hl (fun hm => hno _ hm (by simp)), h.rx_.left hl (fun k hk => ⟨fun hm => hno k hk (by simp [hm]), (hS k hk).2.1⟩), h.tx_.left hl (fun k hk => ⟨fun hm => hno k hk (by simp [hm]), (hS k hk).2.2⟩), h.ap, h.dis, fun k hm => hK k (Nat.lt_of_lt_of_le (h.rng k hm).2 h.hi_) (h.nor k hm), h.rng, Nat.le_trans h.hi_ hl.size⟩, hK⟩
theorem NicG.left0 (h : NicG w N rx tx lo hi In Out drop) (hl : Left [] w w') : NicG w' N rx tx lo hi In Out drop ∧ Keep2 w w' rx tx := h.left hl (by simp)
theorem NicG.fresh (h : NicG w N rx tx lo hi In Out drop) : ∀ k, w.heap.size ≤ k → Nor2 w rx tx k := fun k hk => ⟨h.rx_.fresh k hk, h.tx_.fresh k hk⟩
theorem Keep2.trans {w'' : World} (h1 : Keep2 w w' rx tx) (h2 : Keep2 w' w'' rx tx) (hz : w.heap.size ≤ w'.heap.size) : Keep2 w w'' rx tx := fun k hk hn => h2 k (by omega) (h1 k hk hn)
end

def wholeB (n : Nat) : Bool := decide (14 ≤ n) && decide (n ≤ 1514)
set_option maxHeartbeats 400000 in
theorem whole_any (w : World) (ao : Option Addr) (n cap : Nat) :
    Calls Try.prog 85 #[.slice ao n cap] w fun e w' => e = .returned (.bool (wholeB n)) ∧ w = w' := by
  by_cases h : 14 ≤ n
  · have hx : Hid (wholeB n = decide ((n : Int) ≤ 1514)) := Lib.hid (by
      unfold wholeB
      rw [decide_eq_true h, Bool.true_and]
      exact decide_eq_decide.2 (by omega))
    go_enter Try.func85, Try.ntmps85
    go_wp2
    go_ret
    exact ⟨by rw [hx.out]; rfl, rfl⟩
  · have hx : Hid (wholeB n = false) := Lib.hid (by simp [wholeB, h])
    go_enter Try.func85, Try.ntmps85
    go_wp2
    go_ret
    exact ⟨by rw [hx.out]; rfl, rfl⟩
end Go.Proofs.Ytfffehbipcikoaa
