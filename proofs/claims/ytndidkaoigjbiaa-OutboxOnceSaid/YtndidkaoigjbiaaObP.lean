/- Plain law: an outbox: messages on their way, messages that wait; filling it. -/
import Derived.Test.YtndidkaoigjbiaaEnc
namespace Go.Proofs.Ytndidkaoigjbiaa
/-- A message: its topic, its payload, its quality, whether it is kept. -/
structure Msg where
  t : ByteArray
  p : ByteArray
  q : Int
  r : Bool
deriving DecidableEq
structure Fl where
  id : Int
  m : Msg
  rc : Bool
deriving DecidableEq
/-- A packet of a message, or the word that one may be let go. -/
structure Pk where
  kind : Int
  t : ByteArray
  p : ByteArray
  q : Int
  r : Bool
  id : Int
  dup : Bool
deriving DecidableEq
structure OB where
  last : Int
  F : List Fl
  Q : List Msg
def msgC (m : Msg) : List Value := [.string m.t, .string m.p, .int .i64 m.q, .bool m.r]
def flC (f : Fl) : List Value := [.int .i64 f.id, .string f.m.t, .string f.m.p, .int .i64 f.m.q, .bool f.m.r, .bool f.rc]
def pkC (k : Pk) : List Value := [.int .i64 k.kind, .string ⟨#[]⟩, .bool false, .int .i64 0, .bool false, .string ⟨#[]⟩, .string ⟨#[]⟩, .int .i64 0, .bool false, .string ⟨#[]⟩, .bool false, .string ⟨#[]⟩, .bool false, .bool false, .int .i64 0, .slice none 0 0, .bool k.dup, .int .i64 k.q, .bool k.r, .string k.t, .int .i64 k.id, .string k.p, .slice none 0 0, .slice none 0 0]
def eM : Enc Msg := ⟨msgC, 4, fun _ => rfl, fun x u hu => by
  simp only [msgC, List.mem_cons, List.mem_nil_iff, or_false] at hu
  rcases hu with rfl | rfl | rfl | rfl <;> rfl⟩
def eF : Enc Fl := ⟨flC, 6, fun _ => rfl, fun x u hu => by
  simp only [flC, List.mem_cons, List.mem_nil_iff, or_false] at hu
  rcases hu with rfl | rfl | rfl | rfl | rfl | rfl <;> rfl⟩
def eP : Enc Pk := ⟨pkC, 24, fun _ => rfl, fun x u hu => by
  simp only [pkC, List.mem_cons, List.mem_nil_iff, or_false] at hu
  rcases hu with rfl | rfl | rfl | rfl | rfl | rfl | rfl | rfl | rfl | rfl | rfl | rfl | rfl | rfl | rfl | rfl | rfl | rfl | rfl | rfl | rfl | rfl | rfl | rfl <;> rfl⟩
def msgV (m : Msg) : Value := .agg #[.string m.t, .string m.p, .int .i64 m.q, .bool m.r]
def flV (f : Fl) : Value := .agg #[.int .i64 f.id, .string f.m.t, .string f.m.p, .int .i64 f.m.q, .bool f.m.r, .bool f.rc]
def pkV (k : Pk) : Value := .agg #[.int .i64 k.kind, .string ⟨#[]⟩, .bool false, .int .i64 0, .bool false, .string ⟨#[]⟩, .string ⟨#[]⟩, .int .i64 0, .bool false, .string ⟨#[]⟩, .bool false, .string ⟨#[]⟩, .bool false, .bool false, .int .i64 0, .slice none 0 0, .bool k.dup, .int .i64 k.q, .bool k.r, .string k.t, .int .i64 k.id, .string k.p, .slice none 0 0, .slice none 0 0]
/-- A message that may be sent. -/
def okM (m : Msg) : Bool := decide (1 ≤ m.t.size) && decide (m.t.size ≤ 64) && decide (m.p.size ≤ 128) && (decide (m.q = 1) || decide (m.q = 2))
def pub (f : Fl) (dup : Bool) : Pk := ⟨3, f.m.t, f.m.p, f.m.q, f.m.r, f.id, dup⟩
def rel (id : Int) : Pk := ⟨6, ⟨#[]⟩, ⟨#[]⟩, 0, false, id, false⟩
def okF (f : Fl) : Bool := decide (1 ≤ f.id) && decide (f.id ≤ 65535) && okM f.m && (!f.rc || decide (f.m.q = 2))
def ids (F : List Fl) : List Int := F.map (·.id)
def okO (o : OB) : Prop := 0 ≤ o.last ∧ o.last ≤ 65535 ∧ o.F.length ≤ 4 ∧ o.Q.length ≤ 8 ∧ (∀ f ∈ o.F, okF f = true) ∧ (ids o.F).Nodup ∧ ∀ m ∈ o.Q, okM m = true
/-- The next identifier. -/
def nx (l : Int) : Int := l % 65535 + 1
def nid (I : List Int) : Nat → Int → Int
  | 0, l => l
  | k + 1, l => if nx l ∈ I then nid I k (nx l) else nx l
theorem nx_in (l : Int) (h : 0 ≤ l) : 1 ≤ nx l ∧ nx l ≤ 65535 := by unfold nx; omega
/-- Some steps on. -/
def nxs : Nat → Int → Int
  | 0, l => l
  | k + 1, l => nxs k (nx l)
theorem nxs_succ : ∀ (k : Nat) (l : Int), nxs (k + 1) l = nx (nxs k l)
  | 0, _ => rfl
  | k + 1, l => nxs_succ k (nx l)
theorem nxs_is (l : Int) (h : 0 ≤ l) : ∀ k : Nat, nxs (k + 1) l = (l + k) % 65535 + 1
  | 0 => by simp [nxs, nx]
  | k + 1 => by rw [nxs_succ, nxs_is l h k]; unfold nx; omega
theorem nxs_inj {l : Int} (h : 0 ≤ l) {i j : Nat} (hi : i < j) (hj : j < 65535) : nxs (i + 1) l ≠ nxs (j + 1) l := by
  rw [nxs_is l h i, nxs_is l h j]; omega
/-- So many that are known are all among them: then there are so many. -/
theorem nxs_le {l : Int} (h : 0 ≤ l) (I : List Int) (k : Nat) (hk : k < 65535) (hm : ∀ i, i < k → nxs (i + 1) l ∈ I) : k ≤ I.length := by
  have hnd : ((List.range k).map fun i => nxs (i + 1) l).Nodup := by
    refine List.pairwise_map.2 (List.Pairwise.imp_of_mem (R := (· < ·)) (fun {i j} hi hj hlt => ?_) List.pairwise_lt_range)
    have hj' := List.mem_range.1 hj
    exact nxs_inj h hlt (by omega)
  have hsub : ((List.range k).map fun i => nxs (i + 1) l) ⊆ I := by
    intro x hx
    obtain ⟨i, hi, rfl⟩ := List.mem_map.1 hx
    exact hm i (List.mem_range.1 hi)
  have := hnd.length_le_of_subset hsub
  simpa using this
theorem nid_spec {I : List Int} : ∀ (k : Nat) (l : Int), 0 ≤ l → (∃ i, i < k ∧ nxs (i + 1) l ∉ I) → nid I k l ∉ I ∧ 1 ≤ nid I k l ∧ nid I k l ≤ 65535
  | 0, _, _, ⟨i, hi, _⟩ => by omega
  | k + 1, l, h, ⟨i, hi, hn⟩ => by
    unfold nid
    by_cases hm : nx l ∈ I
    · rw [if_pos hm]
      have hi0 : i ≠ 0 := fun e => by subst e; exact hn (by simpa [nxs] using hm)
      obtain ⟨j, rfl⟩ := Nat.exists_eq_succ_of_ne_zero hi0
      exact nid_spec k (nx l) (by have := (nx_in l h).1; omega) ⟨j, by omega, hn⟩
    · rw [if_neg hm]
      exact ⟨hm, nx_in l h⟩
/-- There is always a next one. -/
theorem nid_new {I : List Int} {l : Int} (h : 0 ≤ l) (hI : I.length ≤ 60000) : nid I (I.length + 1) l ∉ I ∧ 1 ≤ nid I (I.length + 1) l ∧ nid I (I.length + 1) l ≤ 65535 := by
  refine nid_spec _ _ h (Classical.byContradiction fun hc => ?_)
  have := nxs_le h I (I.length + 1) (by omega) (fun i hi => Classical.byContradiction fun hn => hc ⟨i, hi, hn⟩)
  omega
/-- The outbox is filled; what is sent. -/
def fillO (last : Int) (F : List Fl) : List Msg → OB × List Fl
  | [] => (⟨last, F, []⟩, [])
  | m :: Q => if F.length < 4 then
      let id := nid (ids F) (F.length + 1) last
      let r := fillO id (F ++ [⟨id, m, false⟩]) Q
      (r.1, ⟨id, m, false⟩ :: r.2)
    else (⟨last, F, m :: Q⟩, [])
end Go.Proofs.Ytndidkaoigjbiaa
