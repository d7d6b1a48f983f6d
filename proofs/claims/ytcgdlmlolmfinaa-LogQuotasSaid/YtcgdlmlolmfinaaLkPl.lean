/- The log's calls over a new disk, plainly. -/
import Derived.Test.YtcgdlmlolmfinaaLgL
import Derived.Test.YtcgdlmlolmfinaaLgRcd
namespace Go.Proofs.Ytcgdlmlolmfinaa
def noughts : List UInt8 := List.replicate 262144 0
theorem noughts_len : noughts.length = 262144 := List.length_replicate
theorem secN_nought (m : Nat) (hm : m < 4096) : secN noughts m = zero64 := by
  unfold secN noughts zero64
  rw [List.drop_replicate, List.take_replicate]
  congr 1
  omega
theorem on_new {B : List UInt8} (h : B.length = 262144) : On (newS B) := ⟨rfl, rfl, h, fun p hp => by cases hp⟩
theorem view_new (B : List UInt8) (m : Nat) : (view (newS B)).1 m = secN B m ∧ (view (newS B)).2 m = secN B m := ⟨rfl, rfl⟩
theorem rec_zero (cb : List UInt8 → List UInt8) (E : Nat → List UInt8) (a : Nat) (h : E a = zero64) : recE cb E a = none := rec_none (by
  rw [h]; rfl)
theorem same_zero {C : Secs} (h : ∀ m, m < 4096 → C m = zero64) : Same cbL 0 0 [] C := by
  have g0 : genV zero64 = 0 := rfl
  have gk : genOk zero64 := ⟨rfl, by decide⟩
  refine ⟨⟨?_, ?_, trivial, rec_zero _ _ _ (h _ (by simp [endA])), (fun x hx => by cases hx), by simp [wtL]⟩, by rw [h 0 (by omega)]; exact gk, by rw [h 2048 (by omega)]; exact gk⟩
  · rw [h 0 (by omega), h 2048 (by omega), if_neg (by omega)]
  · rw [h _ (by omega), g0]
/-- A log that lives on a disk without a fuse. -/
structure LSafe (L : LS) (ls l : List (List UInt8)) (G N : Int) : Prop where
  ok : LOk cbL L ls l
  ar : L.d.armed = false
  g : 0 ≤ L.gen ∧ L.gen ≤ G
  n : 0 ≤ L.d.last ∧ L.d.last ≤ N
theorem live_gen {cb : List UInt8 → List UInt8} {v : Secs × Secs} {r : Nat} {g : Int} {ls l : List (List UInt8)} (h : Live cb v r g ls l) : 0 ≤ g := by
  have hr := h.opn.reg
  have hg := h.opn.hg
  have h0 := genV_nn h.g0
  have h1 := genV_nn h.g1
  have : r = 0 ∨ r = 1 := by omega
  rcases this with rfl | rfl
  · simp only [Nat.zero_mul] at hg; omega
  · simp only [Nat.one_mul] at hg; omega
theorem cbL4 : ∀ s, (cbL s).length = 4 := fun _ => rfl
/-- Opened where an opening finds l. -/
theorem open_safe {B : List UInt8} (hB : B.length = 262144) {r : Nat} {g : Int} {l : List (List UInt8)} (h : Same cbL r g l (fun m => secN B m)) :
    ∃ L, openS cbL (newS B) = (0, L) ∧ LSafe L l l g 5000000 ∧ L.gen = g := by
  have hs := open_out (cb := cbL) cbL4 (on_new hB) (r := r) (g := g) (l := l) (fun m hm => rfl) h
  rcases hs with ⟨s', e, hon, har, hla, hlv, hW⟩ | ⟨L, e, hf⟩
  · refine ⟨_, e, ⟨⟨rfl, rfl, rfl, rfl, hon, hlv⟩, har, ⟨live_gen hlv, Int.le_refl _⟩, ?_⟩, rfl⟩
    have : (newS B).last = 0 := rfl
    rw [this] at hla
    exact ⟨by show (0 : Int) ≤ s'.last; omega, by show s'.last ≤ 5000000; omega⟩
  · have := hf.armed
    cases this
theorem open_zero : ∃ L, openS cbL (newS noughts) = (0, L) ∧ LSafe L [] [] 0 5000000 := by
  obtain ⟨L, h1, h2, _⟩ := open_safe (B := noughts) noughts_len (same_zero (fun m hm => secN_nought m hm))
  exact ⟨L, h1, h2⟩
section
variable {L : LS} {ls l : List (List UInt8)} {x : List UInt8} {G N : Int}
theorem append_safe (h : LSafe L ls l G N) (x : List UInt8) (h1 : x.length ≤ 16384) (h2 : wtL l + x.length + 128 ≤ 65536) : ∃ L', appendS cbL L x = (0, L') ∧ LSafe L' ls (l ++ [x]) G (N + 1000) := by
  have hl := append_law cbL4 h.ok x
  rw [if_neg (by omega), if_neg (by omega)] at hl
  rcases hl with ⟨L', e, ok, g, ar, n1, n2⟩ | ⟨L', e, hd⟩
  · exact ⟨L', e, ok, by rw [ar]; exact h.ar, by rw [g]; exact h.g, by have := h.n; omega⟩
  · have := hd.fell.armed
    rw [h.ar] at this
    cases this
theorem append_form (h : LSafe L ls l G N) (x : List UInt8) (h1 : 16384 < x.length) : appendS cbL L x = (1, L) := by
  have hl := append_law cbL4 h.ok x
  rwa [if_pos h1] at hl
theorem append_full (h : LSafe L ls l G N) (x : List UInt8) (h1 : x.length ≤ 16384) (h2 : 65536 < x.length + 128 + wtL l) : appendS cbL L x = (5, L) := by
  have hl := append_law cbL4 h.ok x
  rwa [if_neg (by omega), if_pos h2] at hl
theorem sync_safe (h : LSafe L ls l G N) : ∃ L', syncS L = (0, L') ∧ LSafe L' l l G (N + 1) ∧ L'.d.W = [] := by
  rcases sync_law cbL4 h.ok with ⟨L', e, ok, g, ar, n1, n2, hW⟩ | ⟨L', e, hd⟩
  · exact ⟨L', e, ⟨ok, by rw [ar]; exact h.ar, by rw [g]; exact h.g, by have := h.n; omega⟩, hW⟩
  · have := hd.fell.armed
    rw [h.ar] at this
    cases this
theorem reset_safe (h : LSafe L ls l G N) (hG : G < 4611686018427387900) (l2 : List (List UInt8)) (h1 : ∀ x ∈ l2, x.length ≤ 16384) (h2 : wtL l2 ≤ 65536) : ∃ L', resetS cbL L l2 = (0, L') ∧ LSafe L' l2 l2 (G + 1) (N + 10000) := by
  have hl := reset_law cbL4 h.ok (by have := h.g; omega) l2
  rw [if_neg (fun ⟨x, hx, hb⟩ => by have := h1 x hx; omega), if_neg (by omega)] at hl
  rcases hl with ⟨L', e, ok, g, ar, n1, n2⟩ | ⟨L', e, hd⟩
  · exact ⟨L', e, ok, by rw [ar]; exact h.ar, by have := h.g; rw [g]; omega, by have := h.n; omega⟩
  · have := hd.fell.armed
    rw [h.ar] at this
    cases this
theorem reset_form (h : LSafe L ls l G N) (hG : G < 4611686018427387900) (l2 : List (List UInt8)) (h1 : ∃ x ∈ l2, 16384 < x.length) : resetS cbL L l2 = (1, L) := by
  have hl := reset_law cbL4 h.ok (by have := h.g; omega) l2
  rwa [if_pos h1] at hl
theorem reset_full (h : LSafe L ls l G N) (hG : G < 4611686018427387900) (l2 : List (List UInt8)) (h1 : ∀ x ∈ l2, x.length ≤ 16384) (h2 : 65536 < wtL l2) : resetS cbL L l2 = (5, L) := by
  have hl := reset_law cbL4 h.ok (by have := h.g; omega) l2
  rwa [if_neg (fun ⟨x, hx, hb⟩ => by have := h1 x hx; omega), if_pos h2] at hl
end
end Go.Proofs.Ytcgdlmlolmfinaa
