/- Texts: contracts of has and levels of the page's own. -/

import Derived.Test.YtknnaeejkmlnbaaGreatDoorGa
namespace Go.Proofs.YtknnaeejkmlnbaaGreatDoor
open Go.RowKit

theorem below_drewN {B : Nat} {w w' : World} (h : Below B w w') (n : Nat) : Below B w (w'.drewN n) := ⟨h.os, h.tape, h.output, h.size, h.block⟩
theorem quiet_add_same {P : Program} {f : FuncId} {args : Array Value} {w : World} {a n : Nat} {v : Value}
    (h : Calls P f args (w.drewN (a + n)) fun e w' => e = .returned v ∧ w' = w.drewN (a + n)) :
    Calls P f args (w.drewN (a + n)) fun e w'' => e = .returned v ∧ ∃ m, w'' = w.drewN (a + m) :=
  h.mono fun _ _ ⟨he, hm⟩ => ⟨he, n, hm⟩

def bs (l : List UInt8) : ByteArray := ⟨l.toArray⟩
def strV (l : List UInt8) : Value := .string (bs l)
theorem bs_list (l : List UInt8) : (bs l).data.toList = l := by simp [bs]
theorem bs_of (s : ByteArray) : bs s.data.toList = s := by cases s; simp [bs]
theorem bs_size (l : List UInt8) : (bs l).size = l.length := by simp [bs, ByteArray.size]
theorem bs_app (a b : List UInt8) : bs a ++ bs b = bs (a ++ b) := by
  apply ByteArray.ext
  simp [bs, ByteArray.data_append]
theorem one_new (w : World) (e : TypeId) (x : Value) : Rd (w.alloc (.cells #[x] e)) (w.heap.size + 1) 1 (.slice (some ⟨w.heap.size, 0, none⟩) 1 1) 1 [x] := by
  have h := Rd.of_whole (Whole.new w e [x]) (by simp [maxLen])
  simpa using h
theorem inf_str : (Tryz.prog.info? 9).map (fun i => (i.zero, i.size, i.bytes)) = some (some (.string ⟨#[]⟩), 1, 16) := by kernel_rfl

theorem size_list (s : ByteArray) : s.data.toList.length = s.size := by
  rw [Array.length_toList]; rfl
theorem list_at (s : ByteArray) (k : Nat) (_ : k < s.size) (h' : k < s.data.toList.length) : s.data.toList[k] = s[k] := by
  rw [Array.getElem_toList]; rfl

theorem hasB_take {l : List UInt8} {k : Nat} (h : k < l.length) (hh : hasB (l.take k) = false) : hasB (l.take (k + 1)) = (l[k] == 43 || l[k] == 35) := by
  unfold hasB at hh ⊢
  rw [List.take_succ_eq_append_getElem h, List.any_append, hh]
  simp
theorem hasB_true {l : List UInt8} {k : Nat} (hh : hasB (l.take k) = true) : hasB l = true := by
  unfold hasB at hh ⊢
  rw [List.any_eq_true] at hh ⊢
  obtain ⟨x, hx, h⟩ := hh
  exact ⟨x, List.mem_of_mem_take hx, h⟩

set_option maxHeartbeats 400000 in
theorem has_any (w : World) (s : ByteArray) (hs : s.size ≤ 9223372036854775807) :
    Calls Tryz.prog 77 #[.string s] w fun e w' => e = .returned (.bool (hasB s.data.toList)) ∧ w = w' := by
  have hlen := size_list s
  have HL := Lib.hid hlen
  clear hlen
  go_enter Tryz.func77, Tryz.ntmps77
  go_wp2
  go_loop [3] (fun i => ∃ k : Nat, k ≤ s.size ∧ i = .int .i64 k ∧ Hid (hasB (s.data.toList.take k) = false)) (fun i => s.size - (intOf i).toNat)
  case atStart => exact ⟨0, by omega, rfl, Lib.hid (by simp [hasB])⟩
  case round =>
    obtain ⟨k, hk, rfl, hno⟩ := hrel
    by_cases hlt : k < s.size
    · obtain ⟨z, hz⟩ : ∃ z, z = s[k] := ⟨_, rfl⟩
      have hzl : Hid (∃ h, s.data.toList[k]'h = z) := Lib.hid ⟨by rw [HL.out]; exact hlt, by rw [hz]; exact list_at s k hlt _⟩
      by_cases h1 : z = 43
      · have HT : Hid (hasB s.data.toList = true) := Lib.hid (by
          obtain ⟨h, e⟩ := hzl.out
          refine hasB_true (k := k + 1) ?_
          rw [hasB_take h hno.out, e, h1]; rfl)
        have hb : ((s[k].toNat : Int) == 43) = true := by rw [← hz, h1]; rfl
        clear hz h1
        go_wp2
        go_ret
        exact ⟨by rw [HT.out]; rfl, rfl⟩
      · have hb : ((s[k].toNat : Int) == 43) = false := by
          rw [← hz]
          exact beq_eq_false_iff_ne.2 (fun e => h1 (UInt8.toNat_inj.1 (by have : (43 : UInt8).toNat = 43 := rfl; omega)))
        by_cases h2 : z = 35
        · have HT : Hid (hasB s.data.toList = true) := Lib.hid (by
            obtain ⟨h, e⟩ := hzl.out
            refine hasB_true (k := k + 1) ?_
            rw [hasB_take h hno.out, e, h2]; rfl)
          have hb2 : ((s[k].toNat : Int) == 35) = true := by rw [← hz, h2]; rfl
          clear hz h1 h2
          go_wp2
          go_ret
          exact ⟨by rw [HT.out]; rfl, rfl⟩
        · have hb2 : ((s[k].toNat : Int) == 35) = false := by
            rw [← hz]
            exact beq_eq_false_iff_ne.2 (fun e => h2 (UInt8.toNat_inj.1 (by have : (35 : UInt8).toNat = 35 := rfl; omega)))
          have HN : Hid (hasB (s.data.toList.take (k + 1)) = false) := Lib.hid (by
            obtain ⟨h, e⟩ := hzl.out
            rw [hasB_take h hno.out, e]
            simp [h1, h2])
          clear hz h1 h2
          go_wp2
          go_round
          case rel => exact ⟨k + 1, by omega, by go_num, HN⟩
          case measure => simp [intOf]; omega
    · have : k = s.size := by omega
      subst this
      go_wp2
      go_ret
      exact ⟨by rw [← HL.out, List.take_length] at hno; rw [hno.out]; rfl, rfl⟩

set_option maxHeartbeats 1000000 in
set_option maxRecDepth 20000 in
theorem levels_any (w : World) (s : ByteArray) (hs : s.size ≤ 100000) :
    Calls Tryz.prog 159 #[.string s] w fun e w' => ∃ v, e = .returned v ∧ w'.ownsRow w.heap.size 9 1 v (lvs s.data.toList).length ((lvs s.data.toList).map strV) ∧ Below w.heap.size w w' := by
  have hlen := size_list s
  have HL := Lib.hid hlen
  clear hlen
  go_enter Tryz.func159, Tryz.ntmps159
  go_wp2
  go_loopw [3, 4, 5] (fun v c i wr => ∃ (k : Nat) (D : List (List UInt8)) (cur : List UInt8), k ≤ s.size + 1 ∧ i = .int .i64 k ∧ c = .string (bs cur) ∧ wr.ownsRow w.heap.size 9 1 v D.length (D.map strV) ∧ Below w.heap.size w wr ∧ D.length ≤ k ∧ cur.length ≤ k ∧
    Hid (if k ≤ s.size then lvs s.data.toList = D ++ onto cur (lvs (s.data.toList.drop k)) else lvs s.data.toList = D)) (fun _ _ i _ => s.size + 1 - (intOf i).toNat)
  case atStart => exact ⟨0, [], [], by omega, rfl, rfl, World.ownsRow_nil _ _ _ _, Below.refl _ _, by simp, by simp, Lib.hid (by rw [if_pos (by omega)]; simp [onto_nil])⟩
  case round =>
    obtain ⟨k, D, cur, hk, rfl, rfl, hown, hb, hDk, hck, hrest⟩ := hrel
    have HO := Lib.hid hown
    have hzs := hb.size
    clear hown
    by_cases hlt : k < s.size
    · obtain ⟨z, hz⟩ : ∃ z, z = s[k] := ⟨_, rfl⟩
      have hzl : Hid (∃ h, s.data.toList[k]'h = z) := Lib.hid ⟨by rw [HL.out]; exact hlt, by rw [hz]; exact list_at s k hlt _⟩
      have hdrop : Hid (s.data.toList.drop k = z :: s.data.toList.drop (k + 1)) := Lib.hid (by
        obtain ⟨h, e⟩ := hzl.out
        rw [← e]
        exact List.drop_eq_getElem_cons h)
      have hle : k ≤ s.size := by omega
      by_cases h1 : z = 47
      · have hb1 : ((s[k].toNat : Int) != 47) = false := by rw [← hz, h1]; rfl
        have HN : Hid (lvs s.data.toList = (D ++ [cur]) ++ onto [] (lvs (s.data.toList.drop (k + 1)))) := Lib.hid (by
          have := hrest.out
          rw [if_pos hle, hdrop.out, h1, onto_sep] at this
          rw [this]; simp)
        clear hz h1
        go_wp2_with (at_builtin; with_reducible refine wpList_app _ rfl (.tmp 29) (.tmp 31) _ rfl w.heap.size 9 (.string ⟨#[]⟩) 1 16 Tryz.underlying46 inf_str rfl (by omega) _ D.length (D.map strV) rfl (HO.out.alloc _) _ _ 1 [.string (bs cur)] rfl (one_new _ _ _) (by simp [Value.oneCell']) ?_ ?_ ?_ ?_)
        · unfold maxLen; omega
        · omega
        · simp; omega
        intro v1 w1 hown1 hg1 _
        have hb1 := (hb.alloc hzs _).grown hg1 (by simp; omega) (fun g hg => (HO.out.lt g hg).1)
        have hs : D.map strV ++ [.string (bs cur)] = (D ++ [cur]).map strV := by simp [strV]
        rw [hs] at hown1
        have HO1 := Lib.hid hown1
        clear hown1 hs hg1
        go_wp2
        go_roundw
        case rel => exact ⟨k + 1, D ++ [cur], [], by omega, by go_num, rfl, by simpa using HO1.out, hb1, by simp; omega, by simp, Lib.hid (by rw [if_pos (by omega)]; exact HN.out)⟩
        case measure => simp [intOf]; omega
      · have hb1 : ((s[k].toNat : Int) != 47) = true := by
          rw [← hz]
          exact bne_iff_ne.2 (fun e => h1 (UInt8.toNat_inj.1 (by have : (47 : UInt8).toNat = 47 := rfl; omega)))
        have HN : Hid (lvs s.data.toList = D ++ onto (cur ++ [z]) (lvs (s.data.toList.drop (k + 1)))) := Lib.hid (by
          have := hrest.out
          rw [if_pos hle, hdrop.out, onto_byte _ _ _ h1] at this
          exact this)
        have HX : Hid (bs cur ++ s.extract k (k + 1) = bs (cur ++ [z])) := Lib.hid (by
          obtain ⟨h, e⟩ := hzl.out
          rw [← bs_app]
          congr 1
          apply ByteArray.ext
          apply Array.ext'
          rw [ByteArray.data_extract, Array.toList_extract]
          simp only [bs, List.extract_eq_take_drop]
          rw [hdrop.out]
          simp)
        have hov : ¬ 9223372036854775807 < (bs cur).size + (min (k + 1) s.size - k) := by rw [bs_size]; omega
        clear hz h1
        go_wp2
        go_roundw
        case rel => exact ⟨k + 1, D, cur ++ [z], by omega, by go_num, by rw [← HX.out], HO.out, hb, by omega, by simp; omega, Lib.hid (by rw [if_pos (by omega)]; exact HN.out)⟩
        case measure => simp [intOf]; omega
    · by_cases hke : k = s.size
      · subst hke
        have HN : Hid (lvs s.data.toList = D ++ [cur]) := Lib.hid (by
          have := hrest.out
          rw [if_pos (Nat.le_refl _), ← HL.out, List.drop_length, onto_end] at this
          exact this)
        clear hrest
        go_wp2_with (at_builtin; with_reducible refine wpList_app _ rfl (.tmp 29) (.tmp 31) _ rfl w.heap.size 9 (.string ⟨#[]⟩) 1 16 Tryz.underlying46 inf_str rfl (by omega) _ D.length (D.map strV) rfl (HO.out.alloc _) _ _ 1 [.string (bs cur)] rfl (one_new _ _ _) (by simp [Value.oneCell']) ?_ ?_ ?_ ?_)
        · unfold maxLen; omega
        · omega
        · simp; omega
        intro v1 w1 hown1 hg1 _
        have hb1 := (hb.alloc hzs _).grown hg1 (by simp; omega) (fun g hg => (HO.out.lt g hg).1)
        have hs : D.map strV ++ [.string (bs cur)] = (D ++ [cur]).map strV := by simp [strV]
        rw [hs] at hown1
        have HO1 := Lib.hid hown1
        clear hown1 hs hg1
        go_wp2
        go_roundw
        case rel => exact ⟨s.size + 1, D ++ [cur], [], by omega, by go_num, rfl, by simpa using HO1.out, hb1, by simp; omega, by simp, Lib.hid (by rw [if_neg (by omega)]; exact HN.out)⟩
        case measure => simp [intOf]
      · have hke : k = s.size + 1 := by omega
        subst hke
        have HN : Hid (lvs s.data.toList = D) := Lib.hid (by
          have := hrest.out
          rw [if_neg (by omega)] at this
          exact this)
        clear hrest
        go_wp2
        go_ret
        exact ⟨_, rfl, by rw [HN.out]; exact HO.out, hb⟩
end Go.Proofs.YtknnaeejkmlnbaaGreatDoor
