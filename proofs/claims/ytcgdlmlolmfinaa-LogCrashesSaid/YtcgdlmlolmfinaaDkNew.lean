/- A disk of the program: New. -/


import Derived.Test.YtcgdlmlolmfinaaDkComp
namespace Go.Proofs.Ytcgdlmlolmfinaa
open Go.RowKit Go.MapKept
def mayD (n : Nat) : Prop := 64 ≤ n ∧ n ≤ 262144 ∧ n % 64 = 0
instance (n : Nat) : Decidable (mayD n) := by unfold mayD; infer_instance
def newS (B : List UInt8) : DS := ⟨B, [], [], 0, false, 0, false⟩
section
variable {w w' : World} {base R M : Nat} {F S : List Nat} {kv wv : Value} {Wv : List (Int × Value × List UInt8)} {Qv : List RV} {s s' : DS}
theorem new_at {v : Value} {B : List UInt8} {w1 : World} (h : w1.ownsRow w.heap.size 5 1 v B.length (u8s B)) (hb : Below w.heap.size w w1) (hm : mayD B.length) :
    DkAt ((w1.alloc (.map #[] 0)).alloc (.cells #[v, .map (some w1.heap.size), .slice none 0 0, .int .i64 0, .bool false, .int .i64 0, .bool false] 68)) w.heap.size (w1.heap.size + 1) w1.heap.size (Value.ownL v ++ [w1.heap.size, w1.heap.size + 1]) v (.slice none 0 0) [] [] (newS B) ∧
    Left [] w ((w1.alloc (.map #[] 0)).alloc (.cells #[v, .map (some w1.heap.size), .slice none 0 0, .int .i64 0, .bool false, .int .i64 0, .bool false] 68)) := by
  have hz := hb.size
  have l1 : Left [] w1 (w1.alloc (.map #[] 0)) := (Left.refl [] w1).alloc _
  have hs1 : (w1.alloc (.map #[] 0)).heap.size = w1.heap.size + 1 := by simp
  have l2 : Left [] (w1.alloc (.map #[] 0)) ((w1.alloc (.map #[] 0)).alloc (.cells #[v, .map (some w1.heap.size), .slice none 0 0, .int .i64 0, .bool false, .int .i64 0, .bool false] 68)) := (Left.refl [] _).alloc _
  have hW := Whole.new (w1.alloc (.map #[] 0)) 68 [v, .map (some w1.heap.size), .slice none 0 0, .int .i64 0, .bool false, .int .i64 0, .bool false]
  rw [hs1] at hW
  have hl := l1.trans l2 (T := []) (by simp)
  have hs2 := l2.size
  rw [hs1] at hs2
  have hs3 : ((w1.alloc (.map #[] 0)).alloc (.cells #[v, .map (some w1.heap.size), .slice none 0 0, .int .i64 0, .bool false, .int .i64 0, .bool false] 68)).heap.size = w1.heap.size + 2 := by simp
  refine ⟨⟨hW, own_leftB h hl (by simp), (IMap.new w1).left l2 (by simp), fun p hp => (by cases hp), rfl, World.ownsRow_nil _ _ _ _, fun q hq => (by cases hq), rfl, Nat.zero_le _, ⟨by simp, by simp, fun k hk => (by simp [mem_ownL, hk]), fun k hk => (by cases hk)⟩, fun k hk => ?_, ⟨hm.1, hm.2.2, hm.2.1⟩, fun h => (by cases h)⟩, (Left.of_below hb []).trans hl (by simp)⟩
  rw [hs3]
  simp only [List.mem_append, List.mem_cons, List.not_mem_nil, or_false] at hk
  rcases hk with hk | rfl | rfl
  · have := h.lt k (mem_ownL.1 hk)
    omega
  · omega
  · omega
def NewP (w : World) (B : List UInt8) (e : Ending) (w' : World) : Prop :=
  if mayD B.length then ∃ R F, e = .returned (.tuple #[.pointer (some ⟨R, 0, none⟩), .int .i64 0]) ∧ DkG w' w.heap.size R F (newS B) ∧ Left [] w w'
  else e = .returned (.tuple #[.pointer none, .int .i64 1]) ∧ w = w'
set_option maxRecDepth 20000 in
set_option maxHeartbeats 2000000 in
theorem New_no (w : World) (ao : Option Addr) (n cap : Nat) (hn : n ≤ 1048576) (hm : ¬ mayD n) :
    Calls Try.prog 24 #[.slice ao n cap] w fun e w' => e = .returned (.tuple #[.pointer none, .int .i64 1]) ∧ w = w' := by
  obtain ⟨q, hq⟩ : ∃ q, n / 64 = q := ⟨_, rfl⟩
  obtain ⟨r, hr⟩ : ∃ r, n % 64 = r := ⟨_, rfl⟩
  have q1 : ((n : Nat) : Int).tdiv 64 = (q : Int) := by rw [Int.tdiv_eq_ediv_of_nonneg (by omega)]; omega
  have q2 : ((n : Nat) : Int).tmod 64 = (r : Int) := by rw [Int.tmod_eq_emod_of_nonneg (by omega)]; omega
  have hq3 : q ≤ 1048576 := by omega
  have hr3 : r < 64 := by omega
  by_cases h1 : q < 1
  · have h0 : q = 0 := by omega
    subst h0
    have q0 : ((n : Nat) : Int).tdiv 64 = 0 := q1
    clear q1 hm hq hr h1 hq3
    go_enter Try.func24, Try.ntmps24
    go_wp2
    go_ret2
    exact ⟨rfl, rfl⟩
  · by_cases h2 : 4096 < q
    · clear hm hq hr
      go_enter Try.func24, Try.ntmps24
      go_wp2
      go_ret2
      exact ⟨rfl, rfl⟩
    · have h3 : 0 < r := by
        unfold mayD at hm
        omega
      have h4 : (((r : Nat) : Int) != 0) = true := by simp; omega
      clear hm hq hr
      go_enter Try.func24, Try.ntmps24
      go_wp2
      go_ret2
      exact ⟨rfl, rfl⟩
set_option maxRecDepth 20000 in
set_option maxHeartbeats 2000000 in
theorem New_g (w : World) {bv : Value} {B : List UInt8} (h : Rd w w.heap.size 1 bv B.length (u8s B)) (hn : B.length ≤ 1048576) :
    Calls Try.prog 24 #[bv] w (NewP w B) := by
  by_cases hm : mayD B.length
  · have HP : Hid (NewP w B = fun e w' => ∃ R F, e = .returned (.tuple #[.pointer (some ⟨R, 0, none⟩), .int .i64 0]) ∧ DkG w' w.heap.size R F (newS B) ∧ Left [] w w') := Lib.hid (by funext e w'; unfold NewP; rw [if_pos hm])
    have HC := Lib.hid (Clone_any w bv B.length (u8s B) h (u8s_one B) hn)
    obtain ⟨ao, cap, rfl, _, _⟩ := h.form
    have HN := Lib.hid (fun v (w1 : World) (h1 : w1.ownsRow w.heap.size 5 1 v B.length (u8s B)) h2 => new_at (w := w) h1 h2 hm)
    obtain ⟨m1, m2, m3⟩ := hm
    clear h
    obtain ⟨n, hnn⟩ : ∃ n, B.length = n := ⟨_, rfl⟩
    rw [hnn] at HC HN m1 m2 m3 hn ⊢
    rw [HP.out]
    obtain ⟨q, hq⟩ : ∃ q, n / 64 = q := ⟨_, rfl⟩
    have q1 : ((n : Nat) : Int).tdiv 64 = (q : Int) := by rw [Int.tdiv_eq_ediv_of_nonneg (by omega)]; omega
    have q2 : ((n : Nat) : Int).tmod 64 = 0 := by rw [Int.tmod_eq_emod_of_nonneg (by omega)]; omega
    have hq3 : q ≤ 4096 := by omega
    have hq4 : 1 ≤ q := by omega
    clear m1 m2 m3 hq hnn
    have hmm := @run_makeMap Try.prog
    go_enter Try.func24, Try.ntmps24
    go_wp2_with fail
    refine HC.out.mono ?_
    rintro e w1 ⟨v, rfl, hv, hb⟩
    obtain ⟨vo, vc, rfl, _, _⟩ := (Rd.of_own hv).form
    have HE := Lib.hid (HN.out _ w1 hv hb)
    clear hv hb
    go_wp2
    go_ret2
    exact ⟨_, _, rfl, ⟨_, _, _, _, _, HE.out.1⟩, HE.out.2⟩
  · obtain ⟨ao, cap, rfl, _, _⟩ := h.form
    refine (New_no w ao B.length cap hn hm).mono fun e w' h' => ?_
    unfold NewP
    rw [if_neg hm]
    exact h'
end
end Go.Proofs.Ytcgdlmlolmfinaa
