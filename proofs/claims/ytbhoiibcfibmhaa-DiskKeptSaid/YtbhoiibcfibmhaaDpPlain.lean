/- Plain law: what the page's disk holds. -/
import Derived.Test.YtbhoiibcfibmhaaDkPlain2
namespace Go.Proofs.Ytbhoiibcfibmhaa
def frL (K : List UInt8) (W : List (Int × List UInt8)) : List Bool := (List.range (K.length / 64)).map fun n => (lookW W (n : Nat)).isSome
section
variable {K : List UInt8} {W : List (Int × List UInt8)} {n : Nat} {b : List UInt8}
theorem frL_length : (frL K W).length = K.length / 64 := by simp [frL]
theorem frL_at (h : 64 * n + 64 ≤ K.length) : (frL K W)[n]? = some (lookW W (n : Nat)).isSome := by
  unfold frL
  rw [List.getElem?_map, List.getElem?_range (by omega)]
  rfl
theorem frL_nil : frL K [] = List.replicate (K.length / 64) false := by
  apply List.ext_getElem?
  intro i
  unfold frL
  rw [List.getElem?_map]
  by_cases hi : i < K.length / 64
  · rw [List.getElem?_range hi, List.getElem?_replicate, if_pos hi]
    rfl
  · rw [List.getElem?_eq_none (by rw [List.length_range]; omega), List.getElem?_replicate, if_neg hi]
    rfl
theorem frL_upd : frL K (updW W (n : Nat) b) = (frL K W).set n true := by
  apply List.ext_getElem?
  intro i
  rw [List.getElem?_set]
  unfold frL
  rw [List.getElem?_map, List.getElem?_map, List.length_map, List.length_range]
  by_cases hi : i < K.length / 64
  · rw [List.getElem?_range hi]
    simp only [Option.map_some]
    rw [lookW_upd]
    by_cases e : n = i
    · subst e
      rw [if_pos rfl, if_pos rfl, if_pos hi]
      rfl
    · rw [if_neg (by omega), if_neg e]
  · rw [List.getElem?_eq_none (by rw [List.length_range]; omega)]
    by_cases e : n = i
    · subst e
      rw [if_pos rfl, if_neg hi]
      rfl
    · rw [if_neg e]
      rfl
theorem flushK_nil (h64 : K.length % 64 = 0) : flushK K [] = K := (flushK_ext h64 (by simp) rfl (fun n _ => rfl)).symm
theorem flushK_upd (h64 : K.length % 64 = 0) (hW : ∀ p ∈ W, p.2.length = 64) (hn : 64 * n + 64 ≤ K.length) (hb : b.length = 64) : setSec (flushK K W) n b = flushK K (updW W (n : Nat) b) := by
  have hl := flushK_length h64 hW
  have hn' : 64 * n + 64 ≤ (flushK K W).length := by rw [hl]; exact hn
  have hW' : ∀ p ∈ updW W (n : Nat) b, p.2.length = 64 := by
    intro p hp
    unfold updW at hp
    split at hp
    · obtain ⟨q, hq, rfl⟩ := List.mem_map.1 hp
      split
      · exact hb
      · exact hW q hq
    · rcases List.mem_append.1 hp with hp | hp
      · exact hW p hp
      · simp only [List.mem_singleton] at hp
        subst hp
        exact hb
  refine flushK_ext h64 hW' (by rw [setSec_length hn' hb, hl]) (fun m hm => ?_)
  rw [lookW_upd]
  by_cases e : m = n
  · subst e
    rw [secN_set hn' hb, if_pos rfl]
    rfl
  · rw [secN_other hn' hb e, flushK_sec hW hm, if_neg (by omega)]
theorem updW_ok {Pr : Int × List UInt8 → Prop} (hW : ∀ p ∈ W, Pr p) {m : Int} (hb : Pr (m, b)) : ∀ p ∈ updW W m b, Pr p := by
  intro p hp
  unfold updW at hp
  split at hp
  · obtain ⟨q, hq, rfl⟩ := List.mem_map.1 hp
    split
    · exact hb
    · exact hW q hq
  · rcases List.mem_append.1 hp with hp | hp
    · exact hW p hp
    · simp only [List.mem_singleton] at hp
      subst hp
      exact hb
end
end Go.Proofs.Ytbhoiibcfibmhaa
