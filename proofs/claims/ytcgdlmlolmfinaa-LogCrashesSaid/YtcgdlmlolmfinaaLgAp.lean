/- The log: what helps where a record is put behind; how far a record is. -/

import Derived.Test.YtcgdlmlolmfinaaLgAt
import Derived.Test.YtcgdlmlolmfinaaLgL
import Derived.Test.YtcgdlmlolmfinaaOps
namespace Go.Proofs.Ytcgdlmlolmfinaa
open Go.RowKit
theorem inf_Ts : (Try.prog.info? 9).map (fun i => (i.zero, i.size, i.bytes)) = some (some (.string ⟨#[]⟩), 1, 16) := by kernel_rfl
theorem one_newS (w : World) (x : Value) : Rd (w.alloc (.cells #[x] 9)) (w.heap.size + 1) 1 (.slice (some ⟨w.heap.size, 0, none⟩) 1 1) 1 [x] := by
  have h := Rd.of_whole (Whole.new w 9 [x]) (by simp [maxLen])
  simpa using h
/-- How far a record is read. -/
theorem recGo_far {cb : List UInt8 → List UInt8} {E : Nat → List UInt8} {a : Nat} : ∀ (f n : Nat) (kind : UInt8) (all : List UInt8) (size : Nat) (x : List UInt8) (m : Nat), size ≤ 65541 → recGo cb E a f n kind all size = some (x, m) → n < m ∧ a + m ≤ 2048 ∧ x.length ≤ 65535
  | 0, n, kind, all, size, x, m, _, h => by rw [recGo] at h; cases h
  | f + 1, n, kind, all, size, x, m, hs, h => by
    rw [recGo] at h
    by_cases h1 : 2048 ≤ a + n
    · rw [if_pos h1] at h; cases h
    · rw [if_neg h1] at h
      by_cases h2 : okSec kind (E (a + n)) = false
      · rw [if_pos h2] at h; cases h
      · rw [if_neg h2] at h
        simp only at h
        obtain ⟨z, hz⟩ : ∃ z, (if n = 0 then sizeOf2 (all ++ bodyOf (E (a + n))) else size) = z := ⟨_, rfl⟩
        have hz2 : z ≤ 65541 := by
          rw [← hz]
          split
          · unfold sizeOf2
            have h3 := ((all ++ bodyOf (E (a + n)))[0]?.getD 0).toNat_lt
            have h4 := ((all ++ bodyOf (E (a + n)))[1]?.getD 0).toNat_lt
            omega
          · exact hs
        rw [hz] at h
        split at h
        · have := recGo_far f (n + 1) 2 _ z x m hz2 h
          omega
        · split at h
          · injection h with h
            injection h with h5 h6
            subst h5 h6
            refine ⟨by omega, by omega, ?_⟩
            rw [List.length_take]
            omega
          · cases h
theorem rec_far {cb : List UInt8 → List UInt8} {E : Nat → List UInt8} {a : Nat} {x : List UInt8} {m : Nat} (h : recE cb E a = some (x, m)) : 0 < m ∧ a + m ≤ 2048 ∧ x.length ≤ 65535 := recGo_far _ _ _ _ _ _ _ (by omega) h
section
variable {w w' w1 w2 : World} {base R RD : Nat} {F F1 X S : List Nat} {lv lv' : Value} {L L' : LS}
theorem LgAt.left0 (h : LgAt w base R RD F lv L) (hl : Left [] w w') : LgAt w' base R RD F lv L :=
  ⟨h.head.left hl (by simp), h.disk.left0 hl, own_left h.list hl (by simp), h.sepR, h.sepL, h.lt⟩
/-- A list of its own is laid at the log. -/
theorem LgAt.setl (h : LgAt w base R RD F lv L) {T : List Nat} (hl1 : Left T w w1) (hT : ∀ k ∈ T, k ∉ F ∧ k ≠ R) (hrow : w1.ownsRow base 9 1 lv' L'.l.length (L'.l.map strL)) (hlv : ∀ k, lv'.ownBlock = some k → k ∉ F ∧ k ≠ R)
    (hl : Left [R] w1 w2) (hw : Whole w2 R 54 (lgHead RD lv' L')) (hd : L'.d = L.d) : LgAt w2 base R RD F lv' L' :=
  ⟨hw, by rw [hd]; exact (h.disk.left hl1 (fun k hk => (hT k hk).1)).left hl (by simpa using h.sepR), own_leftB hrow hl (fun k hk e => by simp only [List.mem_singleton] at hk; exact (hlv k e).2 hk), h.sepR, hlv, h.lt⟩
end
end Go.Proofs.Ytcgdlmlolmfinaa
