/- The plain law of a ring: what is added is popped, what is pushed is used, in order. -/

import Derived.Test.YtfffehbipcikoaaRingPb
namespace Go.Proofs.Ytfffehbipcikoaa

theorem putV_outs {B : List UInt8} {p : Int} {n v i : Nat} (h : (i : Int) < p ∨ p + n ≤ i) : (putV B p n v).getD i 0 = B.getD i 0 := putV_out (by omega)

structure Goes (B : List UInt8) (q : Nat) (bz : List Bool) (wy : List (Int × List Nat)) (ls : List (Int × Int)) (wrt rdD wrV rdV : Nat) (want : List Fl) (out : List (Fl × Nat)) : Prop where
  isq : isQ q = true
  len : bz.length = q
  size : sizeAt q ≤ B.length
  w1 : wrt = (rdV + want.length) % 65536
  w2 : wrV = (rdD + out.length) % 65536
  r1 : rdV < 65536
  r2 : rdD < 65536
  ai : getV B (16 * (q : Int) + 2) 2 = wrt
  ui : getV B (usedAt q + 2) 2 = wrV
  ae : ∀ (j : Nat) (f : Fl), want[j]? = some f → getV B (16 * (q : Int) + 4 + 2 * (((rdV + j) % q : Nat) : Int)) 2 = (f.h : Nat)
  ue : ∀ (j : Nat) (p : Fl × Nat), out[j]? = some p → getV B (usedAt q + 4 + 8 * (((rdD + j) % q : Nat) : Int)) 4 = (p.1.h : Nat) ∧ getV B (usedAt q + 4 + 8 * (((rdD + j) % q : Nat) : Int) + 4) 4 = (p.2 : Nat)
  ch : ∀ f ∈ want, ChainL B f.own f.L
  on : ∀ p ∈ out, (p.2 : Int) ≤ wsum p.1.L ∧ p.2 ≤ 4294967295
  held : Held bz wy ls (want ++ out.map (·.1))

theorem q_cases {q : Nat} (h : isQ q = true) : q = 1 ∨ q = 2 ∨ q = 4 ∨ q = 8 ∨ q = 16 ∨ q = 32 ∨ q = 64 := by have := isQ_range h; omega
theorem mod_q {q a : Nat} (h : isQ q = true) : a % 65536 % q = a % q := by rcases q_cases h with rfl | rfl | rfl | rfl | rfl | rfl | rfl <;> omega
theorem mod_q' {q a j : Nat} (h : isQ q = true) : (a % 65536 + j) % q = (a + j) % q := by rcases q_cases h with rfl | rfl | rfl | rfl | rfl | rfl | rfl <;> omega
theorem mod_ne {q a i j : Nat} (h : isQ q = true) (h1 : i < j) (h2 : j < i + q) : (a + i) % q ≠ (a + j) % q := by rcases q_cases h with rfl | rfl | rfl | rfl | rfl | rfl | rfl <;> omega
theorem used_lo {q : Nat} (h : isQ q = true) : (18 * q + 4 : Int) ≤ usedAt q ∧ usedAt q ≤ 18 * q + 7 := by unfold usedAt; rcases q_cases h with rfl | rfl | rfl | rfl | rfl | rfl | rfl <;> decide

theorem count_le {α : Type} (A : List α) (g : α → List Nat) (h : ∀ f ∈ A, 1 ≤ (g f).length) : A.length ≤ (A.flatMap g).length := by
  induction A with
  | nil => simp
  | cons f r ih =>
    have h1 := h f (by simp)
    have := ih (fun x hx => h x (by simp [hx]))
    rw [List.flatMap_cons, List.length_append, List.length_cons]
    omega
theorem Held.count {bz : List Bool} {wy : List (Int × List Nat)} {ls : List (Int × Int)} {A : List Fl} (h : Held bz wy ls A) : A.length + freeN bz ≤ bz.length := by
  have h1 := h.free
  have := count_le A Fl.own (fun f hf => by obtain ⟨a, b, _⟩ := h.ok f hf; have := bufsB_pos a; omega)
  omega
theorem Held.lt {bz : List Bool} {wy : List (Int × List Nat)} {ls : List (Int × Int)} {A : List Fl} (h : Held bz wy ls A) {f : Fl} (hf : f ∈ A) : ∀ x ∈ f.own, x < bz.length := fun x hx =>
  (List.getElem?_eq_some_iff.1 ((h.bt x).2 (List.mem_flatMap.2 ⟨f, hf, hx⟩))).1

section
variable {B : List UInt8} {q : Nat} {bz : List Bool} {wy : List (Int × List Nat)} {ls : List (Int × Int)} {wrt rdD wrV rdV : Nat} {want : List Fl} {out : List (Fl × Nat)}

theorem Goes.q_range (h : Goes B q bz wy ls wrt rdD wrV rdV want out) : 1 ≤ q ∧ q ≤ 64 := by rcases q_cases h.isq with rfl | rfl | rfl | rfl | rfl | rfl | rfl <;> omega
theorem Goes.room (h : Goes B q bz wy ls wrt rdD wrV rdV want out) : want.length + out.length + freeN bz ≤ q := by
  have := h.held.count
  rw [h.len, List.length_append, List.length_map] at this
  omega
theorem Goes.add (h : Goes B q bz wy ls wrt rdD wrV rdV want out) {L : List Buf} (hL : bufsB L = true) (hf : L.length ≤ freeN bz) {o0 : Nat} (ho : (takes bz L.length)[0]? = some o0) :
    Goes (addB B L (takes bz L.length) o0 q wrt) q (setAll bz (takes bz L.length) true) (wy ++ [((o0 : Int), takes bz L.length)]) (ls ++ [((o0 : Int), wsum L)]) ((wrt + 1) % 65536) rdD wrV rdV (want ++ [⟨takes bz L.length, L⟩]) out := by
  have hheld := h.held.add hL hf ho
  obtain ⟨own, hown⟩ : ∃ own, takes bz L.length = own := ⟨_, rfl⟩
  have hlen : own.length = L.length := by rw [← hown, takes_length]; omega
  have hnd : own.Nodup := hown ▸ takes_nodup _ _
  have hmem : ∀ x ∈ own, bz[x]? = some false := fun x hx => takes_mem (n := L.length) (by rw [hown]; exact hx)
  rw [hown] at ho hheld ⊢
  obtain ⟨q1, q2⟩ := h.q_range
  obtain ⟨u1, u2⟩ := used_lo h.isq
  have hsz := h.size
  unfold sizeAt at hsz
  have hroom := h.room
  obtain ⟨l1, l2⟩ := bufsB_pos hL
  have hxq : ∀ x ∈ own, x < q := fun x hx => by have := (List.getElem?_eq_some_iff.1 (hmem x hx)).1; rw [h.len] at this; exact this
  have ho0 : o0 < q := hxq o0 (List.mem_of_getElem? ho)
  have hh : (⟨own, L⟩ : Fl).h = o0 := by
    unfold Fl.h
    cases hc : own with
    | nil => rw [hc] at ho; simp at ho
    | cons y r => rw [hc] at ho; simpa using ho
  have hwm : wrt % q = (rdV + want.length) % q := by rw [h.w1, mod_q h.isq]
  have hmlt : (rdV + want.length) % q < q := Nat.mod_lt _ (by omega)
  have hB1 : (descsB B L own L.length).length = B.length := descsB_length _ _ _ _
  have hD : ∀ i : Nat, 16 * q ≤ i → (descsB B L own L.length).getD i 0 = B.getD i 0 := fun i hi => descsB_out (fun x hx hh => by have := hxq x hx; omega)
  have hA : (addB B L own o0 q wrt).length = B.length := by unfold addB; rw [putV_length, putV_length, hB1]
  -- beyond the heads of avail
  have hU : ∀ i : Nat, 18 * q + 4 ≤ i → (addB B L own o0 q wrt).getD i 0 = B.getD i 0 := fun i hi => by
    unfold addB
    rw [putV_out (by omega), putV_out (by omega), hD i (by omega)]
  have hI : ∀ i : Nat, i < 16 * q → (addB B L own o0 q wrt).getD i 0 = (descsB B L own L.length).getD i 0 := fun i hi => by
    unfold addB
    rw [putV_out (by omega), putV_out (by omega)]
  have hbb : ∀ b ∈ L, bufB b = true := fun b hb => by
    obtain ⟨j, hj⟩ := List.getElem?_of_mem hb
    simp [bufsB] at hL
    exact chainOk_at hL.2 hj
  refine ⟨h.isq, by rw [setAll_length]; exact h.len, by unfold sizeAt; rw [hA]; exact hsz, ?_, h.w2, h.r1, h.r2, ?_, ?_, ?_, ?_, ?_, h.on, ?_⟩
  · rw [h.w1]; simp; omega
  · unfold addB
    exact get_same2 (by omega) (by rw [putV_length, hB1]; omega) (by omega)
  · rw [getV_same hA (fun i a b => hU i (by omega))]
    exact h.ui
  · intro j f hj
    rcases Nat.lt_or_ge j want.length with hjl | hjl
    · rw [List.getElem?_append_left hjl] at hj
      have hne : (rdV + j) % q ≠ wrt % q := by rw [hwm]; exact mod_ne h.isq hjl (by omega)
      have hjm : (rdV + j) % q < q := Nat.mod_lt _ (by omega)
      rw [getV_same hA (fun i a b => by
        unfold addB
        rw [putV_out (by omega), putV_out (by omega), hD i (by omega)])]
      exact h.ae j f hj
    · have hjn := (List.getElem?_eq_some_iff.1 hj).1
      have hje : j = want.length := by simp at hjn; omega
      subst hje
      rw [List.getElem?_append_right (Nat.le_refl _), Nat.sub_self] at hj
      injection hj with hj
      subst hj
      rw [hh, ← hwm]
      rw [← hwm] at hmlt
      unfold addB
      rw [get_other (by omega), get_same2 (by omega) (by rw [hB1]; omega) (by omega)]
  · intro j p hj
    have hjm : (rdD + j) % q < q := Nat.mod_lt _ (by omega)
    obtain ⟨a1, a2⟩ := h.ue j p hj
    rw [getV_same hA (fun i a b => hU i (by omega)), getV_same hA (fun i a b => hU i (by omega))]
    exact ⟨a1, a2⟩
  · intro f hfm
    rcases List.mem_append.1 hfm with hfm | hfm
    · have hlt := h.held.lt (List.mem_append_left _ hfm)
      rw [h.len] at hlt
      refine (h.ch f hfm).keep hA (fun x hx i a b => ?_)
      have hxq' := hlt x hx
      rw [hI i (by omega)]
      refine descsB_out (fun y hy hh => ?_)
      have e : y = x := by omega
      have h1 := hmem y hy
      have h2 := (h.held.bt x).2 (List.mem_flatMap.2 ⟨f, List.mem_append_left _ hfm, hx⟩)
      rw [e, h2] at h1
      cases h1
    · simp at hfm
      subst hfm
      refine (descsB_chain hlen hnd hbb (fun x hx => ⟨by have := hxq x hx; omega, by have := hxq x hx; omega⟩)).keep (hA.trans hB1.symm) (fun x hx i a b => ?_)
      exact hI i (by have := hxq x hx; omega)
  · refine hheld.perm ?_
    rw [List.append_assoc]
    exact (List.perm_middle).symm

/-- What Pop reads when something is there. -/
theorem Goes.pop {f : Fl} (h : Goes B q bz wy ls wrt rdD wrV rdV (f :: want) out) :
    aheadV B (16 * (q : Int) + 2) rdV = ((want.length + 1 : Nat) : Int) ∧ want.length + 1 ≤ q ∧ popHead B q rdV = (f.h : Nat) ∧ f.h < q ∧ chainV B q 17 (f.h : Nat) false [] = some f.L := by
  obtain ⟨q1, q2⟩ := h.q_range
  have hroom := h.room
  have hr := h.r1
  have hw := h.w1
  simp at hroom hw
  have hfm : f ∈ (f :: want) ++ out.map (·.1) := by simp
  obtain ⟨f1, f2, _⟩ := h.held.ok f hfm
  have hlt := h.held.lt hfm
  rw [h.len] at hlt
  obtain ⟨l1, l2⟩ := bufsB_pos f1
  have hfree := h.held.free
  rw [h.len] at hfree
  have hfl : f.own.length ≤ q := by simp at hfree; omega
  refine ⟨?_, by omega, ?_, hlt _ (Fl.h_mem (by omega)), ?_⟩
  · unfold aheadV
    rw [h.ai, hw]
    omega
  · exact h.ae 0 f rfl
  · have hc := h.ch f (by simp)
    obtain ⟨own, L⟩ := f
    cases own with
    | nil => simp at f2; simp at l1; omega
    | cons x o =>
      cases L with
      | nil => simp at l1
      | cons b r =>
        simp [bufsB] at f1
        have := chainL_walk r o x b false [] 17 hc f1.2 hlt (by simp at l2 ⊢; omega) (by simp at f2 hfl ⊢; omega) (by simp at l2; omega)
        simpa [Fl.h] using this
theorem Goes.pop_none (h : Goes B q bz wy ls wrt rdD wrV rdV [] out) : aheadV B (16 * (q : Int) + 2) rdV = 0 := by
  have hr := h.r1
  have hw := h.w1
  simp at hw
  unfold aheadV
  rw [h.ai, hw]
  omega
theorem Goes.push {f : Fl} {n : Nat} (h : Goes B q bz wy ls wrt rdD wrV rdV (f :: want) out) (hn : (n : Int) ≤ wsum f.L) (hn2 : n ≤ 4294967295) :
    Goes (pushB B q wrV f.h n) q bz wy ls wrt rdD ((wrV + 1) % 65536) ((rdV + 1) % 65536) want (out ++ [(f, n)]) := by
  obtain ⟨q1, q2⟩ := h.q_range
  obtain ⟨u1, u2⟩ := used_lo h.isq
  have hsz := h.size
  unfold sizeAt at hsz
  have hroom := h.room
  simp at hroom
  obtain ⟨_, _, _, hfq, _⟩ := h.pop
  have hlen : (pushB B q wrV f.h n).length = B.length := by unfold pushB; simp [putV_length]
  have hwm : wrV % q = (rdD + out.length) % q := by rw [h.w2, mod_q h.isq]
  have hmlt : (rdD + out.length) % q < q := Nat.mod_lt _ (by omega)
  have hup : usedPos q wrV = usedAt q + 4 + 8 * (((rdD + out.length) % q : Nat) : Int) := by unfold usedPos; rw [show ((q : Int)).toNat = q by simp, hwm]
  have hl : ∀ i : Nat, (i : Int) < usedAt q → (pushB B q wrV f.h n).getD i 0 = B.getD i 0 := fun i hi => by
    unfold pushB
    rw [hup, putV_out (by omega), putV_out (by omega), putV_out (by omega)]
  have hr1 := h.r1
  have hw1 := h.w1
  simp at hw1
  refine ⟨h.isq, h.len, by unfold sizeAt; rw [hlen]; exact hsz, ?_, ?_, by omega, h.r2, ?_, ?_, ?_, ?_, ?_, ?_, ?_⟩
  · rw [hw1]; omega
  · rw [h.w2]; simp; omega
  · rw [getV_same hlen (fun i a b => hl i (by omega))]; exact h.ai
  · unfold pushB
    rw [get_same2 (by omega) (by rw [putV_length, putV_length]; omega) (by omega)]
  · intro j g hj
    have := h.ae (j + 1) g (by simpa using hj)
    have hjm : (rdV + (j + 1)) % q < q := Nat.mod_lt _ (by omega)
    rw [mod_q' h.isq, show rdV + 1 + j = rdV + (j + 1) by omega, getV_same hlen (fun i a b => hl i (by omega))]
    exact this
  · intro j p hj
    rcases Nat.lt_or_ge j out.length with hjl | hjl
    · rw [List.getElem?_append_left hjl] at hj
      have hne : (rdD + j) % q ≠ (rdD + out.length) % q := mod_ne h.isq hjl (by omega)
      have hjm : (rdD + j) % q < q := Nat.mod_lt _ (by omega)
      obtain ⟨a1, a2⟩ := h.ue j p hj
      unfold pushB
      rw [hup]
      refine ⟨?_, ?_⟩
      · rw [get_other (by omega), get_other (by omega), get_other (by omega), a1]
      · rw [get_other (by omega), get_other (by omega), get_other (by omega), a2]
    · have hjn := (List.getElem?_eq_some_iff.1 hj).1
      have hje : j = out.length := by simp at hjn; omega
      subst hje
      rw [List.getElem?_append_right (Nat.le_refl _), Nat.sub_self] at hj
      injection hj with hj
      subst hj
      unfold pushB
      rw [hup]
      refine ⟨?_, ?_⟩
      · rw [get_other (by omega), get_other (by omega), get_same4 (by omega) (by omega) (by omega)]
      · rw [get_other (by omega), get_same4 (by omega) (by rw [putV_length]; omega) hn2]
  · intro g hg
    have hlt := h.held.lt (List.mem_append_left _ (List.mem_cons_of_mem _ hg))
    rw [h.len] at hlt
    exact (h.ch g (by simp [hg])).keep hlen (fun x hx i a b => hl i (by have := hlt x hx; omega))
  · intro p hp
    rcases List.mem_append.1 hp with hp | hp
    · exact h.on p hp
    · simp at hp; subst hp; exact ⟨hn, hn2⟩
  · refine h.held.perm ?_
    rw [List.map_append, ← List.append_assoc]
    exact (List.perm_append_comm (l₁ := [f]) (l₂ := want ++ out.map (·.1)))

/-- What Used reads when something is there. -/
theorem Goes.used {f : Fl} {n : Nat} (h : Goes B q bz wy ls wrt rdD wrV rdV want ((f, n) :: out)) :
    aheadV B (usedAt q + 2) rdD = ((out.length + 1 : Nat) : Int) ∧ ((out.length + 1 : Nat) : Int) ≤ (wy.length : Int) ∧ usedHead B q rdD = (f.h : Nat) ∧ usedLen B q rdD = (n : Nat) ∧ lookW wy (f.h : Nat) = some f.own ∧ (n : Int) ≤ lookL ls (f.h : Nat) ∧ (∀ x ∈ f.own, x < bz.length) ∧
      Goes B q (setAll bz f.own false) (delW wy (f.h : Nat)) (delL ls (f.h : Nat)) wrt ((rdD + 1) % 65536) wrV rdV want out := by
  obtain ⟨q1, q2⟩ := h.q_range
  have hroom := h.room
  simp at hroom
  have hfm : f ∈ want ++ ((f, n) :: out).map (·.1) := by simp
  obtain ⟨f1, f2, f3, f4⟩ := h.held.ok f hfm
  obtain ⟨a1, a2⟩ := h.ue 0 _ rfl
  have hr2 := h.r2
  have hw2 := h.w2
  simp at hw2
  have hwl := h.held.wl
  simp at hwl
  have hpos : usedPos q rdD = usedAt q + 4 + 8 * ((rdD % q : Nat) : Int) := by unfold usedPos; rw [show ((q : Int)).toNat = q by simp]
  have hperm : (want ++ ((f, n) :: out).map (·.1)).Perm (f :: (want ++ out.map (·.1))) := by simp
  refine ⟨?_, by omega, ?_, ?_, f3, by rw [f4]; exact (h.on (f, n) (by simp)).1, h.held.lt hfm, ?_⟩
  · unfold aheadV
    rw [h.ui, hw2]
    omega
  · unfold usedHead; rw [hpos]; exact a1
  · unfold usedLen; rw [hpos]; exact a2
  · refine ⟨h.isq, by rw [setAll_length]; exact h.len, h.size, h.w1, by rw [hw2]; omega, h.r1, by omega, h.ai, h.ui, h.ae, ?_, h.ch, fun p hp => h.on p (by simp [hp]), (h.held.perm hperm).del⟩
    intro j p hj
    have := h.ue (j + 1) p (by simpa using hj)
    rw [mod_q' h.isq, show rdD + 1 + j = rdD + (j + 1) by omega]
    exact this
theorem Goes.used_none (h : Goes B q bz wy ls wrt rdD wrV rdV want []) : aheadV B (usedAt q + 2) rdD = 0 := by
  have hr := h.r2
  have hw := h.w2
  simp at hw
  unfold aheadV
  rw [h.ui, hw]
  omega
end

theorem le_zeros (n : Nat) : le (List.replicate n 0) = 0 := by
  induction n with
  | zero => rfl
  | succ n ih => rw [List.replicate_succ, le, ih]; rfl
theorem getV_zeros (n : Nat) (p k : Int) : getV (List.replicate n 0) p k = 0 := by
  unfold getV
  split
  · rw [List.drop_replicate, List.take_replicate, le_zeros]; rfl
  · rfl
theorem Goes.start {q n : Nat} (hq : isQ q = true) (hn : sizeAt q ≤ (n : Int)) : Goes (List.replicate n 0) q (List.replicate q false) [] [] 0 0 0 0 [] [] := by
  refine ⟨hq, by simp, by rw [List.length_replicate]; exact hn, rfl, rfl, by omega, by omega, getV_zeros _ _ _, getV_zeros _ _ _, fun j f h => by simp at h, fun j f h => by simp at h, fun f h => by simp at h, fun f h => by simp at h, ?_⟩
  refine ⟨fun f h => by simp at h, by simp, fun x => ?_, by simp, fun k h => by simp at h, by simp, fun k h => by simp at h, fun f h => by simp at h, rfl⟩
  simp [List.getElem?_replicate]
end Go.Proofs.Ytfffehbipcikoaa
