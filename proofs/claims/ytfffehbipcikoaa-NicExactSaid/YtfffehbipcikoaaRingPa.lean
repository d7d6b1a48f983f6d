/- Plain laws of memory: what is read behind what was put. -/

import Derived.Test.YtfffehbipcikoaaRing7
import Derived.Test.YtfffehbipcikoaaRing10
namespace Go.Proofs.Ytfffehbipcikoaa

theorem getD_take_drop (B : List UInt8) (p n i : Nat) (hi : i < n) (h : p + n ≤ B.length) : ((B.drop p).take n).getD i 0 = B.getD (p + i) 0 := by
  simp only [List.getD_eq_getElem?_getD, List.getElem?_take, List.getElem?_drop]
  rw [if_pos hi]
theorem cut_ext (B B' : List UInt8) (p n : Nat) (hl : B'.length = B.length) (hp : p + n ≤ B.length) (h : ∀ i, p ≤ i → i < p + n → B'.getD i 0 = B.getD i 0) : (B'.drop p).take n = (B.drop p).take n := by
  apply List.ext_getElem
  · simp [hl]
  · intro i h1 h2
    have hi : i < n := by simp at h1; omega
    have a := getD_take_drop B' p n i hi (by omega)
    have b := getD_take_drop B p n i hi hp
    rw [List.getD_eq_getElem?_getD, List.getElem?_eq_getElem h1] at a
    rw [List.getD_eq_getElem?_getD, List.getElem?_eq_getElem h2] at b
    simp only [Option.getD_some] at a b
    rw [a, b]
    exact h _ (by omega) (by omega)
theorem getV_same {B B' : List UInt8} {p n : Int} (hl : B'.length = B.length) (h : ∀ i : Nat, p ≤ (i : Int) → (i : Int) < p + n → B'.getD i 0 = B.getD i 0) : getV B' p n = getV B p n := by
  unfold getV
  rw [hl]
  split
  · rename_i hz
    obtain ⟨hw, h0, h1⟩ := askE_zero hz
    have hn : 0 ≤ n := by rcases isW_cases hw with h | h | h | h <;> omega
    rw [cut_ext B B' p.toNat n.toNat hl (by omega) (fun i a b => h i (by omega) (by omega))]
  · rfl
theorem putV_out {B : List UInt8} {p n : Int} {v i : Nat} (h : ¬ (p ≤ (i : Int) ∧ (i : Int) < p + n)) : (putV B p n v).getD i 0 = B.getD i 0 := by
  by_cases hz : askE B.length p n = 0
  · obtain ⟨hw, h0, h1⟩ := askE_zero hz
    have hn : 0 ≤ n := by rcases isW_cases hw with h | h | h | h <;> omega
    obtain ⟨P, rfl⟩ := Int.eq_ofNat_of_zero_le h0
    obtain ⟨K, rfl⟩ := Int.eq_ofNat_of_zero_le hn
    exact put_out B P K v i hw (by omega) (fun hh => h (by omega))
  · unfold putV
    rw [if_neg hz]
theorem get_other {B : List UInt8} {p n p' n' : Int} {v : Nat} (h : p' + n' ≤ p ∨ p + n ≤ p') : getV (putV B p n v) p' n' = getV B p' n' :=
  getV_same (putV_length _ _ _ _) fun i h1 h2 => putV_out (by omega)
theorem get_same {B : List UInt8} {p n : Int} {v : Nat} (hw : isW n = true) (h0 : 0 ≤ p) (h1 : p + n ≤ B.length) (hv : v < 256 ^ n.toNat) : getV (putV B p n v) p n = (v : Int) := by
  have hn : 0 ≤ n := by rcases isW_cases hw with h | h | h | h <;> omega
  obtain ⟨P, rfl⟩ := Int.eq_ofNat_of_zero_le h0
  obtain ⟨K, rfl⟩ := Int.eq_ofNat_of_zero_le hn
  have hv' : v < 256 ^ K := hv
  rw [get_put B P K v hw (by omega), Nat.mod_eq_of_lt hv']
theorem get_same2 {B : List UInt8} {p : Int} {v : Nat} (h0 : 0 ≤ p) (h1 : p + 2 ≤ B.length) (hv : v ≤ 65535) : getV (putV B p 2 v) p 2 = (v : Int) := get_same rfl h0 h1 (by show v < 256 ^ 2; omega)
theorem get_same4 {B : List UInt8} {p : Int} {v : Nat} (h0 : 0 ≤ p) (h1 : p + 4 ≤ B.length) (hv : v ≤ 4294967295) : getV (putV B p 4 v) p 4 = (v : Int) := get_same rfl h0 h1 (by show v < 256 ^ 4; omega)
theorem get_same8 {B : List UInt8} {p : Int} {v : Nat} (h0 : 0 ≤ p) (h1 : p + 8 ≤ B.length) (hv : v ≤ 4294967296) : getV (putV B p 8 v) p 8 = (v : Int) := get_same rfl h0 h1 (by show v < 256 ^ 8; omega)

/-- What the descriptors own say: the chain L. -/
def ChainL (B : List UInt8) : List Nat → List Buf → Prop
  | [], [] => True
  | x :: o, b :: r => getV B (16 * (x : Int)) 8 = b.addr ∧ getV B (16 * (x : Int) + 8) 4 = b.len ∧ getV B (16 * (x : Int) + 12) 2 = (if b.wr then 2 else 0) + (if o.isEmpty then 0 else 1) ∧ getV B (16 * (x : Int) + 14) 2 = (o.headD 0 : Nat) ∧ ChainL B o r
  | _, _ => False
theorem ChainL.keep {B B' : List UInt8} (hl : B'.length = B.length) : ∀ {o : List Nat} {L : List Buf}, ChainL B o L → (∀ x ∈ o, ∀ i : Nat, 16 * x ≤ i → i < 16 * x + 16 → B'.getD i 0 = B.getD i 0) → ChainL B' o L
  | [], [], _, _ => trivial
  | x :: o, b :: r, ⟨h1, h2, h3, h4, h5⟩, h => by
    have hx := h x (by simp)
    refine ⟨?_, ?_, ?_, ?_, ChainL.keep hl h5 (fun y hy => h y (by simp [hy]))⟩
    · rw [getV_same hl (fun i a b => hx i (by omega) (by omega)), h1]
    · rw [getV_same hl (fun i a b => hx i (by omega) (by omega)), h2]
    · rw [getV_same hl (fun i a b => hx i (by omega) (by omega)), h3]
    · rw [getV_same hl (fun i a b => hx i (by omega) (by omega)), h4]

theorem oneB_out {B : List UInt8} {x : Nat} {b : Buf} {nx : Option Nat} {i : Nat} (h : ¬ (16 * x ≤ i ∧ i < 16 * x + 16)) : (oneB B x b nx).getD i 0 = B.getD i 0 := by
  unfold oneB
  rw [putV_out (by omega), putV_out (by omega), putV_out (by omega), putV_out (by omega)]
theorem oneB_in {B : List UInt8} {x : Nat} {b : Buf} {nx : Option Nat} (h : 16 * x + 16 ≤ B.length) (hb : bufB b = true) (hn : ∀ y, nx = some y → y ≤ 65535) :
    getV (oneB B x b nx) (16 * (x : Int)) 8 = b.addr ∧ getV (oneB B x b nx) (16 * (x : Int) + 8) 4 = b.len ∧ getV (oneB B x b nx) (16 * (x : Int) + 12) 2 = (if b.wr then 2 else 0) + (if nx.isSome then 1 else 0) ∧ getV (oneB B x b nx) (16 * (x : Int) + 14) 2 = (nx.getD 0 : Nat) := by
  have hb' : 0 ≤ b.addr ∧ b.addr ≤ 4294967296 ∧ 1 ≤ b.len ∧ b.len ≤ 65536 := by simp [bufB] at hb; omega
  have hnx : nx.getD 0 ≤ 65535 := by cases nx with | none => simp | some y => exact hn y rfl
  unfold oneB
  refine ⟨?_, ?_, ?_, ?_⟩
  · rw [get_other (by omega), get_other (by omega), get_other (by omega), get_same8 (by omega) (by omega) (by omega)]
    omega
  · rw [get_other (by omega), get_other (by omega), get_same4 (by omega) (by simp only [putV_length]; omega) (by omega)]
    omega
  · rw [get_other (by omega), get_same2 (by omega) (by simp only [putV_length]; omega) (by split <;> split <;> omega)]
    cases b.wr <;> cases nx <;> rfl
  · rw [get_same2 (by omega) (by simp only [putV_length]; omega) hnx]

theorem descsB_out {B : List UInt8} {L : List Buf} {own : List Nat} {j i : Nat} (h : ∀ x ∈ own, ¬ (16 * x ≤ i ∧ i < 16 * x + 16)) : (descsB B L own j).getD i 0 = B.getD i 0 := by
  induction j with
  | zero => rfl
  | succ j ih =>
    unfold descsB
    split
    · rename_i b x hb hx
      rw [oneB_out (h x (List.mem_of_getElem? hx)), ih]
    · exact ih
/-- The descriptor number k of a chain is as it was written. -/
theorem descsB_at {B : List UInt8} {L : List Buf} {own : List Nat} (hlen : own.length = L.length) (hnd : own.Nodup) (hb : ∀ b ∈ L, bufB b = true) (hx : ∀ x ∈ own, 16 * x + 16 ≤ B.length ∧ x ≤ 65535) :
    ∀ (j k : Nat) (b : Buf) (x : Nat), k < j → L[k]? = some b → own[k]? = some x →
      getV (descsB B L own j) (16 * (x : Int)) 8 = b.addr ∧ getV (descsB B L own j) (16 * (x : Int) + 8) 4 = b.len ∧ getV (descsB B L own j) (16 * (x : Int) + 12) 2 = (if b.wr then 2 else 0) + (if (own[k + 1]?).isSome then 1 else 0) ∧ getV (descsB B L own j) (16 * (x : Int) + 14) 2 = ((own[k + 1]?).getD 0 : Nat)
  | 0, k, b, x, hk, _, _ => absurd hk (by omega)
  | j + 1, k, b, x, hk, h1, h2 => by
    by_cases hkj : k = j
    · subst hkj
      rw [descsB_succ h1 h2]
      exact oneB_in (by rw [descsB_length]; exact (hx x (List.mem_of_getElem? h2)).1) (hb b (List.mem_of_getElem? h1)) (fun y hy => (hx y (List.mem_of_getElem? hy)).2)
    · have ih := descsB_at hlen hnd hb hx j k b x (by omega) h1 h2
      cases h3 : L[j]? with
      | none =>
        have : descsB B L own (j + 1) = descsB B L own j := by rw [descsB]; simp only [h3]
        rw [this]
        exact ih
      | some c =>
        obtain ⟨y, h4⟩ : ∃ y, own[j]? = some y := ⟨_, List.getElem?_eq_getElem (by have := (List.getElem?_eq_some_iff.1 h3).1; omega)⟩
        have hyx : y ≠ x := by
          intro e
          subst e
          obtain ⟨l2, e2⟩ := List.getElem?_eq_some_iff.1 h2
          obtain ⟨l4, e4⟩ := List.getElem?_eq_some_iff.1 h4
          rcases Nat.lt_or_gt_of_ne hkj with h | h
          · exact List.pairwise_iff_getElem.1 hnd k j l2 l4 h (e2.trans e4.symm)
          · exact List.pairwise_iff_getElem.1 hnd j k l4 l2 h (e4.trans e2.symm)
        rw [descsB_succ h3 h4]
        have ho : ∀ i : Nat, 16 * x ≤ i → i < 16 * x + 16 → (oneB (descsB B L own j) y c own[j + 1]?).getD i 0 = (descsB B L own j).getD i 0 := fun i a b => oneB_out (by omega)
        have hlen' : (oneB (descsB B L own j) y c own[j + 1]?).length = (descsB B L own j).length := oneB_length _ _ _ _
        refine ⟨?_, ?_, ?_, ?_⟩
        · rw [getV_same hlen' (fun i a b => ho i (by omega) (by omega))]; exact ih.1
        · rw [getV_same hlen' (fun i a b => ho i (by omega) (by omega))]; exact ih.2.1
        · rw [getV_same hlen' (fun i a b => ho i (by omega) (by omega))]; exact ih.2.2.1
        · rw [getV_same hlen' (fun i a b => ho i (by omega) (by omega))]; exact ih.2.2.2
theorem chainL_of {B : List UInt8} : ∀ (o : List Nat) (L : List Buf), o.length = L.length → (∀ (k : Nat) (b : Buf) (x : Nat), L[k]? = some b → o[k]? = some x →
      getV B (16 * (x : Int)) 8 = b.addr ∧ getV B (16 * (x : Int) + 8) 4 = b.len ∧ getV B (16 * (x : Int) + 12) 2 = (if b.wr then 2 else 0) + (if (o[k + 1]?).isSome then 1 else 0) ∧ getV B (16 * (x : Int) + 14) 2 = ((o[k + 1]?).getD 0 : Nat)) → ChainL B o L
  | [], [], _, _ => trivial
  | [], _ :: _, h, _ => by simp at h
  | _ :: _, [], h, _ => by simp at h
  | x :: o, b :: r, hl, h => by
    obtain ⟨h1, h2, h3, h4⟩ := h 0 b x rfl rfl
    refine ⟨h1, h2, ?_, ?_, chainL_of o r (by simpa using hl) (fun k c y hc hy => by
      have := h (k + 1) c y (by simpa using hc) (by simpa using hy)
      simpa using this)⟩
    · rw [h3]
      cases o <;> simp
    · rw [h4]
      cases o <;> simp
theorem descsB_chain {B : List UInt8} {L : List Buf} {own : List Nat} (hlen : own.length = L.length) (hnd : own.Nodup) (hb : ∀ b ∈ L, bufB b = true) (hx : ∀ x ∈ own, 16 * x + 16 ≤ B.length ∧ x ≤ 65535) : ChainL (descsB B L own L.length) own L :=
  chainL_of own L hlen (fun k b x h1 h2 => descsB_at hlen hnd hb hx L.length k b x (List.getElem?_eq_some_iff.1 h1).1 h1 h2)

/-- The device reads just that chain. -/
theorem chainL_walk {B : List UInt8} {q : Nat} : ∀ (r : List Buf) (o : List Nat) (x : Nat) (b : Buf) (after : Bool) (pre : List Buf) (f : Nat), ChainL B (x :: o) (b :: r) → chainOk after (b :: r) = true → (∀ y ∈ x :: o, y < q) → pre.length + r.length + 1 ≤ 16 → pre.length + r.length + 1 ≤ q → r.length + 1 ≤ f →
    chainV B q f x after pre = some (pre ++ b :: r)
  | r, o, x, b, after, pre, f, hc, hok, hq, h16, hpq, hf => by
    obtain ⟨h1, h2, h3, h4, h5⟩ := hc
    obtain ⟨f, rfl⟩ : ∃ f', f = f' + 1 := ⟨f - 1, by omega⟩
    have hxq := hq x (by simp)
    simp only [chainOk, Bool.and_eq_true] at hok
    have hbb : bufB b = true := by have := hok.1; simp [pieceB] at this; exact this.1
    have hb' : 0 ≤ b.addr ∧ b.addr ≤ 4294967296 ∧ 1 ≤ b.len ∧ b.len ≤ 65536 := by simp [bufB] at hbb; omega
    have hde : descAt B x = b := by
      unfold descAt flagsAt
      rw [h1, h2, h3]
      obtain ⟨a, l, w⟩ := b
      cases w <;> cases o <;> rfl
    have hfl : flagsAt B x = (if b.wr then 2 else 0) + (if o.isEmpty then 0 else 1) := h3
    have c0 : ¬ ((q : Int) ≤ x ∨ pre.length = q ∨ pre.length = 16) := by omega
    have c1 : ¬ (4294967296 < (descAt B x).addr ∨ 3 < flagsAt B x) := by
      rw [hde, hfl]
      cases b.wr <;> cases o <;> simp <;> omega
    have c2 : pieceB (descAt B x) after = true := by rw [hde]; exact hok.1
    match o, r with
    | [], [] =>
      rw [chainV_c5 c0 c1 c2 (by rw [hfl]; cases b.wr <;> simp), hde]
    | y :: o, c :: r =>
      rw [chainV_c4 c0 c1 c2 (by rw [hfl]; cases b.wr <;> simp), hde]
      have hn : nextAt B x = (y : Int) := h4
      rw [hn, chainL_walk r o y c b.wr (pre ++ [b]) f h5 hok.2 (fun z hz => hq z (by simp [hz])) (by simp at h16 ⊢; omega) (by simp at hpq ⊢; omega) (by simp at hf ⊢; omega)]
      simp
    | [], _ :: _ => exact absurd h5 (by simp [ChainL])
    | _ :: _, [] => exact absurd h5 (by simp [ChainL])
end Go.Proofs.Ytfffehbipcikoaa
