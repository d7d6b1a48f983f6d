/- A disk of the program: New, Pending. -/


import Derived.Test.YtbhoiibcfibmhaaDkComp
import Derived.Test.YtbhoiibcfibmhaaBase
namespace Go.Proofs.Ytbhoiibcfibmhaa
open Go.RowKit Go.MapKept
theorem info_intD : (Try.prog.info? 3).map (fun i => (i.zero, i.size, i.bytes)) = some (some (.int .i64 0), 1, 8) := by kernel_rfl
theorem take_snoc_at {α : Type} {Z : List α} {k : Nat} {x : α} (h : Z[k]? = some x) : Z.take (k + 1) = Z.take k ++ [x] := by
  obtain ⟨hk, e⟩ := List.getElem?_eq_some_iff.1 h
  rw [take_snoc' Z k hk, e]
theorem one_newN {w : World} {e : TypeId} {x : Value} (b : Nat) (hb : w.heap.size = b) : Rd (w.alloc (.cells #[x] e)) (b + 1) 1 (.slice (some ⟨b, 0, none⟩) 1 1) 1 [x] := by
  subst hb
  exact one_new w e x
/-- Whole sectors, from one to 4096. -/
def mayD (n : Nat) : Prop := 64 ≤ n ∧ n ≤ 262144 ∧ n % 64 = 0
instance (n : Nat) : Decidable (mayD n) := by unfold mayD; infer_instance
def newS (B : List UInt8) : DS := ⟨B, [], [], 0, false, 0, false⟩
section
variable {w w' : World} {base R M : Nat} {F S : List Nat} {kv wv : Value} {Wv : List (Int × Value × List UInt8)} {Qv : List RV} {s s' : DS}
theorem new_at {v : Value} {B : List UInt8} {w1 : World} (h : w1.ownsRow w.heap.size 5 1 v B.length (u8s B)) (hb : Below w.heap.size w w1) (hm : mayD B.length) :
    DkAt ((w1.alloc (.map #[] 0)).alloc (.cells #[v, .map (some w1.heap.size), .slice none 0 0, .int .i64 0, .bool false, .int .i64 0, .bool false] 65)) w.heap.size (w1.heap.size + 1) w1.heap.size (Value.ownL v ++ [w1.heap.size, w1.heap.size + 1]) v (.slice none 0 0) [] [] (newS B) ∧
    Left [] w ((w1.alloc (.map #[] 0)).alloc (.cells #[v, .map (some w1.heap.size), .slice none 0 0, .int .i64 0, .bool false, .int .i64 0, .bool false] 65)) := by
  have hz := hb.size
  have l1 : Left [] w1 (w1.alloc (.map #[] 0)) := (Left.refl [] w1).alloc _
  have hs1 : (w1.alloc (.map #[] 0)).heap.size = w1.heap.size + 1 := by simp
  have l2 : Left [] (w1.alloc (.map #[] 0)) ((w1.alloc (.map #[] 0)).alloc (.cells #[v, .map (some w1.heap.size), .slice none 0 0, .int .i64 0, .bool false, .int .i64 0, .bool false] 65)) := (Left.refl [] _).alloc _
  have hW := Whole.new (w1.alloc (.map #[] 0)) 65 [v, .map (some w1.heap.size), .slice none 0 0, .int .i64 0, .bool false, .int .i64 0, .bool false]
  rw [hs1] at hW
  have hl := l1.trans l2 (T := []) (by simp)
  have hs2 := l2.size
  rw [hs1] at hs2
  have hs3 : ((w1.alloc (.map #[] 0)).alloc (.cells #[v, .map (some w1.heap.size), .slice none 0 0, .int .i64 0, .bool false, .int .i64 0, .bool false] 65)).heap.size = w1.heap.size + 2 := by simp
  refine ⟨⟨hW, own_leftB h hl (by simp), (IMap.new w1).left l2 (by simp), fun p hp => (by cases hp), rfl, World.ownsRow_nil _ _ _ _, fun q hq => (by cases hq), rfl, Nat.zero_le _, ⟨by simp, by simp, fun k hk => (by simp [mem_ownL, hk]), fun k hk => (by cases hk)⟩, fun k hk => ?_, ⟨hm.1, hm.2.2, hm.2.1⟩, fun h => (by cases h)⟩, (Left.of_below hb []).trans hl (by simp)⟩
  rw [hs3]
  simp only [List.mem_append, List.mem_cons, List.not_mem_nil, or_false] at hk
  rcases hk with hk | rfl | rfl
  · have := h.lt k (mem_ownL.1 hk)
    omega
  · omega
  · omega
def NewP (w : World) (B : List UInt8) (e : Ending) (w' : World) : Prop :=
  if mayD B.length then ∃ R F, e = .returned (.tuple #[.pointer (some ⟨R, 0, none⟩), .int .i64 0]) ∧ DkG w' w.heap.size R F (newS B) ∧ Left [] w w'
  else e = .returned (.tuple #[.pointer none, .int .i64 1]) ∧ w = w'
set_option maxRecDepth 20000 in
set_option maxHeartbeats 2000000 in
theorem New_no (w : World) (ao : Option Addr) (n cap : Nat) (hn : n ≤ 1048576) (hm : ¬ mayD n) :
    Calls Try.prog 6 #[.slice ao n cap] w fun e w' => e = .returned (.tuple #[.pointer none, .int .i64 1]) ∧ w = w' := by
  obtain ⟨q, hq⟩ : ∃ q, n / 64 = q := ⟨_, rfl⟩
  obtain ⟨r, hr⟩ : ∃ r, n % 64 = r := ⟨_, rfl⟩
  have q1 : ((n : Nat) : Int).tdiv 64 = (q : Int) := by rw [Int.tdiv_eq_ediv_of_nonneg (by omega)]; omega
  have q2 : ((n : Nat) : Int).tmod 64 = (r : Int) := by rw [Int.tmod_eq_emod_of_nonneg (by omega)]; omega
  have hq3 : q ≤ 1048576 := by omega
  have hr3 : r < 64 := by omega
  by_cases h1 : q < 1
  · have h0 : q = 0 := by omega
    subst h0
    have q0 : ((n : Nat) : Int).tdiv 64 = 0 := q1
    clear q1 hm hq hr h1 hq3
    go_enter Try.func6, Try.ntmps6
    go_wp2
    go_ret2
    exact ⟨rfl, rfl⟩
  · by_cases h2 : 4096 < q
    · clear hm hq hr
      go_enter Try.func6, Try.ntmps6
      go_wp2
      go_ret2
      exact ⟨rfl, rfl⟩
    · have h3 : 0 < r := by
        unfold mayD at hm
        omega
      have h4 : (((r : Nat) : Int) != 0) = true := by simp; omega
      clear hm hq hr
      go_enter Try.func6, Try.ntmps6
      go_wp2
      go_ret2
      exact ⟨rfl, rfl⟩
set_option maxRecDepth 20000 in
set_option maxHeartbeats 2000000 in
theorem New_g (w : World) {bv : Value} {B : List UInt8} (h : Rd w w.heap.size 1 bv B.length (u8s B)) (hn : B.length ≤ 1048576) :
    Calls Try.prog 6 #[bv] w (NewP w B) := by
  by_cases hm : mayD B.length
  · have HP : Hid (NewP w B = fun e w' => ∃ R F, e = .returned (.tuple #[.pointer (some ⟨R, 0, none⟩), .int .i64 0]) ∧ DkG w' w.heap.size R F (newS B) ∧ Left [] w w') := Lib.hid (by funext e w'; unfold NewP; rw [if_pos hm])
    have HC := Lib.hid (Clone_any w bv B.length (u8s B) h (u8s_one B) hn)
    obtain ⟨ao, cap, rfl, _, _⟩ := h.form
    have HN := Lib.hid (fun v (w1 : World) (h1 : w1.ownsRow w.heap.size 5 1 v B.length (u8s B)) h2 => new_at (w := w) h1 h2 hm)
    obtain ⟨m1, m2, m3⟩ := hm
    clear h
    obtain ⟨n, hnn⟩ : ∃ n, B.length = n := ⟨_, rfl⟩
    rw [hnn] at HC HN m1 m2 m3 hn ⊢
    rw [HP.out]
    obtain ⟨q, hq⟩ : ∃ q, n / 64 = q := ⟨_, rfl⟩
    have q1 : ((n : Nat) : Int).tdiv 64 = (q : Int) := by rw [Int.tdiv_eq_ediv_of_nonneg (by omega)]; omega
    have q2 : ((n : Nat) : Int).tmod 64 = 0 := by rw [Int.tmod_eq_emod_of_nonneg (by omega)]; omega
    have hq3 : q ≤ 4096 := by omega
    have hq4 : 1 ≤ q := by omega
    clear m1 m2 m3 hq hnn
    have hmm := @run_makeMap Try.prog
    go_enter Try.func6, Try.ntmps6
    go_wp2_with fail
    refine HC.out.mono ?_
    rintro e w1 ⟨v, rfl, hv, hb⟩
    obtain ⟨vo, vc, rfl, _, _⟩ := (Rd.of_own hv).form
    have HE := Lib.hid (HN.out _ w1 hv hb)
    clear hv hb
    go_wp2
    go_ret2
    exact ⟨_, _, rfl, ⟨_, _, _, _, _, HE.out.1⟩, HE.out.2⟩
  · obtain ⟨ao, cap, rfl, _, _⟩ := h.form
    refine (New_no w ao B.length cap hn hm).mono fun e w' h' => ?_
    unfold NewP
    rw [if_neg hm]
    exact h'
/-- The numbers of those that wait. -/
def ids (Q : List Rq) : List Value := Q.map fun q => .int .i64 q.id
def PendP (w : World) (s : DS) (e : Ending) (w' : World) : Prop := ∃ v, e = .returned v ∧ w'.ownsRow w.heap.size 3 1 v s.Q.length (ids s.Q) ∧ Below w.heap.size w w'
set_option maxRecDepth 20000 in
set_option maxHeartbeats 2000000 in
theorem Pending_g (h : DkG w base R F s) :
    Calls Try.prog 28 #[.pointer (some ⟨R, 0, none⟩)] w (PendP w s) := by
  obtain ⟨M, kv, wv, Wv, Qv, h⟩ := h
  obtain ⟨wo, wc, rfl, hwc, hwm⟩ := (Rd.of_own h.waits).form
  have hroom := h.room
  have hqs : s.Q = Qv.map (·.1) := h.qval.symm
  have c2 : w.cell? ⟨R, 2, none⟩ = some (.slice wo Qv.length wc) := by rw [h.head.cell]; rfl
  have HD := Lib.hid h
  have hqlen : s.Q.length = Qv.length := by rw [hqs]; simp
  have HQ : Hid (ids s.Q = Qv.map fun q => .int .i64 q.1.id) := Lib.hid (by rw [hqs]; simp [ids])
  have HP : Hid (PendP w s = fun e w' => ∃ v, e = .returned v ∧ w'.ownsRow w.heap.size 3 1 v Qv.length (Qv.map fun q => .int .i64 q.1.id) ∧ Below w.heap.size w w') := Lib.hid (by funext e w'; unfold PendP; rw [hqlen, HQ.out])
  rw [HP.out]
  obtain ⟨Z, hZ⟩ : ∃ Z, (Qv.map fun q => Value.int .i64 q.1.id) = Z := ⟨_, rfl⟩
  have hZl : Z.length = Qv.length := by rw [← hZ]; simp
  rw [hZ]
  have HZ := Lib.hid hZ
  have HZL := Lib.hid hZl
  clear h hqs hqlen hwm hZ hZl HP HQ
  go_enter Try.func28, Try.ntmps28
  go_wp2
  go_loopw [2, 10] (fun v i wr => ∃ k : Nat, k ≤ Qv.length ∧ i = .int .i64 k ∧ wr.ownsRow w.heap.size 3 1 v k (Z.take k) ∧ Below w.heap.size w wr) (fun _ i _ => Qv.length - (intOf i).toNat)
  case atStart => exact ⟨0, by omega, rfl, by simpa using World.ownsRow_nil _ _ _ _, Below.refl _ _⟩
  case round =>
    obtain ⟨k, hk, rfl, hown, hb⟩ := hrel
    have hzs := hb.size
    by_cases hlt : k < Qv.length
    · have hDr := HD.out.left (Left.of_below hb []) (by simp)
      obtain ⟨g, cap', hwv, hBg, hgl, _, _⟩ := own_form hDr.waits (by omega)
      injection hwv with e1 e2 e3
      subst e1 e3
      have hq : Qv[k]? = some Qv[k] := List.getElem?_eq_getElem hlt
      obtain ⟨q, hqq⟩ : ∃ q, q = Qv[k] := ⟨_, rfl⟩
      rw [← hqq] at hq
      obtain ⟨x1, x2, x3, x4⟩ := wCells_at Qv k q hq
      have y0 : wr.cell? ⟨g, k * 4, none⟩ = some (.int .i64 q.1.id) := (hDr.waits.cellAt (k * 4) (by omega)).trans x1
      have y1 : wr.cell? ⟨g, k * 4 + 1, none⟩ = some (.int .i64 q.1.kind) := (hDr.waits.cellAt (k * 4 + 1) (by omega)).trans x2
      have y2 : wr.cell? ⟨g, k * 4 + 2, none⟩ = some (.int .i64 q.1.n) := (hDr.waits.cellAt (k * 4 + 2) (by omega)).trans x3
      have y3 : wr.cell? ⟨g, k * 4 + 3, none⟩ = some q.2 := (hDr.waits.cellAt (k * 4 + 3) (by omega)).trans x4
      obtain ⟨ho, _, _⟩ := hDr.reqs q (List.mem_of_getElem? hq)
      obtain ⟨bo, bc, hbv, _, _⟩ := (Rd.of_own ho).form
      rw [hbv] at y3
      have hs : Z.take k ++ [.int .i64 q.1.id] = Z.take (k + 1) := (take_snoc_at (by rw [← HZ.out, List.getElem?_map, hq]; rfl)).symm
      have HS := Lib.hid hs
      have HO := Lib.hid hown
      have hgk : g < w.heap.size := by have := (HD.out.waits.lt g rfl).2; exact this
      clear hDr hqq hq x1 x2 x3 x4 ho hbv hs hown
      obtain ⟨⟨id, kind, n, b⟩, qv⟩ := q
      dsimp only at y0 y1 y2 y3 HS
      obtain ⟨bl, hbl⟩ : ∃ bl, b.length = bl := ⟨_, rfl⟩
      rw [hbl] at y3
      clear hbl
      go_wp2_with (at_builtin; refine wpList_app _ rfl (.tmp 14) (.tmp 17) _ rfl w.heap.size 3 (.int .i64 0) 1 8 Try.underlying33 info_intD rfl (by omega) _ k (Z.take k) rfl ((HO.out.alloc _).alloc _) _ _ 1 [.int .i64 id] rfl (one_newN (wr.heap.size + 1) (by simp)) (by simp [Value.oneCell']) ?_ ?_ ?_ ?_)
      · unfold maxLen; omega
      · omega
      · (try simp); omega
      intro v1 w1 hown1 hg1 _
      have hb1 := ((hb.alloc hzs _).alloc (by simp; omega) _).grown hg1 (by simp; omega) (fun g hg => (HO.out.lt g hg).1)
      rw [HS.out] at hown1
      have HO1 := Lib.hid hown1
      clear hown1 hg1
      go_wp2
      go_roundw
      case rel => exact ⟨k + 1, by omega, by go_num, HO1.out, hb1⟩
      case measure => simp [intOf]; omega
    · have : k = Qv.length := by omega
      subst this
      go_wp2
      go_ret
      exact ⟨_, rfl, by rw [List.take_of_length_le (by rw [HZL.out]; exact Nat.le_refl _)] at hown; exact hown, hb⟩
end
end Go.Proofs.Ytbhoiibcfibmhaa
