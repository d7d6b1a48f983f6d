/- Names and filters as lists of bytes: levels, what a filter is, what it matches. Plain Lean; no program in sight. -/
import Derived.Test.YtimjbojoeacaeaaDoorSli
namespace Go.Proofs.YtimjbojoeacaeaaDoor

/-- The levels of a text: parted at '/'. -/
def lvs : List UInt8 → List (List UInt8)
  | [] => [[]]
  | c :: r => if c = 47 then [] :: lvs r else (c :: (lvs r).headD []) :: (lvs r).tail

theorem lvs_ne (l : List UInt8) : lvs l ≠ [] := by
  cases l with
  | nil => simp [lvs]
  | cons c r => unfold lvs; split <;> simp

theorem lvs_cons (l : List UInt8) : lvs l = (lvs l).headD [] :: (lvs l).tail := by
  cases h : lvs l with
  | nil => exact absurd h (lvs_ne l)
  | cons x xs => rfl

theorem lvs_pos (l : List UInt8) : 0 < (lvs l).length := List.length_pos_iff.2 (lvs_ne l)

theorem lvs_length (l : List UInt8) : (lvs l).length ≤ l.length + 1 := by
  induction l with
  | nil => simp [lvs]
  | cons c r ih =>
    have := lvs_pos r
    unfold lvs
    split
    · simp; omega
    · simp; omega

/-- What is still to come, behind what was begun. -/
def onto (cur : List UInt8) (L : List (List UInt8)) : List (List UInt8) := (cur ++ L.headD []) :: L.tail

theorem onto_sep (cur : List UInt8) (r : List UInt8) : onto cur (lvs (47 :: r)) = cur :: onto [] (lvs r) := by
  have h : lvs (47 :: r) = [] :: lvs r := by simp [lvs]
  rw [onto, h]
  show (cur ++ []) :: lvs r = cur :: (([] ++ (lvs r).headD []) :: (lvs r).tail)
  rw [List.append_nil, List.nil_append, ← lvs_cons]
theorem onto_byte (cur : List UInt8) (c : UInt8) (r : List UInt8) (h : c ≠ 47) : onto cur (lvs (c :: r)) = onto (cur ++ [c]) (lvs r) := by
  simp [onto, lvs, h]
theorem onto_nil (L : List UInt8) : onto [] (lvs L) = lvs L := (lvs_cons L).symm
theorem onto_end (cur : List UInt8) : onto cur (lvs []) = [cur] := by simp [onto, lvs]

/-- One of '+', '#'? -/
def hasB (l : List UInt8) : Bool := l.any fun c => c == 43 || c == 35

/-- A level may be: at the end, or not. -/
def levelOk (x : List UInt8) (last : Bool) : Bool := !hasB x || x == [43] || (x == [35] && last)
def levelsOk : List (List UInt8) → Bool
  | [] => true
  | x :: xs => levelOk x xs.isEmpty && levelsOk xs

def txt (valid : Bool) (s : List UInt8) : Bool := decide (1 ≤ s.length) && decide (s.length ≤ 64) && valid && !s.contains 0
def nameB (valid : Bool) (s : List UInt8) : Bool := txt valid s && !hasB s
def filtB (valid : Bool) (s : List UInt8) : Bool := txt valid s && levelsOk (lvs s)

def matchL : List (List UInt8) → List (List UInt8) → Bool
  | [], ys => ys.isEmpty
  | x :: xs, ys => x == [35] || (match ys with | [] => false | y :: ys => (x == [43] || x == y) && matchL xs ys)
/-- The first byte of a name is '$', and the filter's first level is '+' or '#'. -/
def dollar (f t : List UInt8) : Bool := t.headD 0 == 36 && (f.headD 0 == 43 || f.headD 0 == 35)
def matchB (f t : List UInt8) : Bool := !dollar f t && matchL (lvs f) (lvs t)
end Go.Proofs.YtimjbojoeacaeaaDoor
