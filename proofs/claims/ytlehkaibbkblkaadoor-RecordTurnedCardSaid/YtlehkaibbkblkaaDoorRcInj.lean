/- Plain: brokers that last and have the same bytes are the same. -/

import Derived.Test.YtlehkaibbkblkaaDoorRcBy2
namespace Go.Proofs.YtlehkaibbkblkaaDoor
/-- Whoever reads a thing from the front of bytes reads it back: things with the same bytes in front are the same, and so is what comes behind. -/
def Inj {α : Type} (P : α → Prop) (f : α → List UInt8) : Prop := ∀ x y a b, P x → P y → f x ++ a = f y ++ b → x = y ∧ a = b
def N24 (n : Int) : Prop := 0 ≤ n ∧ n < 16777216
theorem b8_inj {m n : Int} (h : b8 m = b8 n) : m % 256 = n % 256 := by
  have h1 := b8_nat m
  have h2 := b8_nat n
  rw [h] at h1
  omega
theorem n3_inj : Inj N24 n3 := by
  intro x y a b hx hy h
  unfold n3 at h
  simp only [List.cons_append, List.nil_append, List.cons.injEq] at h
  obtain ⟨h1, h2, h3, h4⟩ := h
  have e1 := b8_inj h1
  have e2 := b8_inj h2
  have e3 := b8_inj h3
  unfold N24 at hx hy
  exact ⟨by omega, h4⟩
theorem Inj.seq {α β : Type} {P : α → Prop} {Q : β → Prop} {f : α → List UInt8} {g : β → List UInt8} (hf : Inj P f) (hg : Inj Q g) : Inj (fun x : α × β => P x.1 ∧ Q x.2) (fun x => f x.1 ++ g x.2) := by
  rintro ⟨x1, x2⟩ ⟨y1, y2⟩ a b ⟨hx1, hx2⟩ ⟨hy1, hy2⟩ h
  simp only [List.append_assoc] at h
  obtain ⟨e1, h2⟩ := hf _ _ _ _ hx1 hy1 h
  obtain ⟨e2, h3⟩ := hg _ _ _ _ hx2 hy2 h2
  exact ⟨by simp only at e1 e2; rw [e1, e2], h3⟩
theorem Inj.map {α β : Type} {P : α → Prop} {Q : β → Prop} {f : α → List UInt8} {g : β → List UInt8} (hf : Inj P f) (t : β → α) (ht : ∀ x y, Q x → Q y → t x = t y → x = y) (hq : ∀ x, Q x → P (t x)) (he : ∀ x, g x = f (t x)) : Inj Q g := by
  intro x y a b hx hy h
  rw [he, he] at h
  obtain ⟨e, h2⟩ := hf _ _ _ _ (hq x hx) (hq y hy) h
  exact ⟨ht x y hx hy e, h2⟩
/-- A text with its length ahead. -/
theorem t3_inj : Inj (fun s : ByteArray => s.size < 16777216) t3 := by
  intro x y a b hx hy h
  unfold t3 at h
  rw [List.append_assoc, List.append_assoc] at h
  obtain ⟨e, h2⟩ := n3_inj _ _ _ _ ⟨by omega, by omega⟩ ⟨by omega, by omega⟩ h
  have hl : x.data.toList.length = y.data.toList.length := by
    rw [Array.length_toList, Array.length_toList]
    have : x.size = y.size := by omega
    exact this
  obtain ⟨e2, h3⟩ := List.append_inj h2 hl
  exact ⟨ByteArray.ext (Array.ext' e2), h3⟩
/-- Things one behind the other, so many as is known. -/
theorem fm_inj {α : Type} {P : α → Prop} {f : α → List UInt8} (hf : Inj P f) : ∀ (X Y : List α) (a b : List UInt8), X.length = Y.length → (∀ x ∈ X, P x) → (∀ y ∈ Y, P y) → X.flatMap f ++ a = Y.flatMap f ++ b → X = Y ∧ a = b
  | [], [], a, b, _, _, _, h => ⟨rfl, by simpa using h⟩
  | [], _ :: _, _, _, hl, _, _, _ => by simp at hl
  | _ :: _, [], _, _, hl, _, _, _ => by simp at hl
  | x :: X, y :: Y, a, b, hl, hX, hY, h => by
    rw [List.flatMap_cons, List.flatMap_cons, List.append_assoc, List.append_assoc] at h
    obtain ⟨e, h2⟩ := hf _ _ _ _ (hX x (by simp)) (hY y (by simp)) h
    obtain ⟨e2, h3⟩ := fm_inj hf X Y a b (by simpa using hl) (fun z hz => hX z (by simp [hz])) (fun z hz => hY z (by simp [hz])) h2
    exact ⟨by rw [e, e2], h3⟩
/-- .. with their number ahead. -/
theorem l_inj {α : Type} {P : α → Prop} {f : α → List UInt8} (hf : Inj P f) : Inj (fun X : List α => X.length < 16777216 ∧ ∀ x ∈ X, P x) (fun X => n3 X.length ++ X.flatMap f) := by
  intro X Y a b hX hY h
  rw [List.append_assoc, List.append_assoc] at h
  obtain ⟨e, h2⟩ := n3_inj _ _ _ _ ⟨by omega, by omega⟩ ⟨by omega, by omega⟩ h
  exact fm_inj hf X Y a b (by omega) hX.2 hY.2 h2
theorem bit_inj {a b : Bool} (h : bit a = bit b) : a = b := by
  unfold bit at h
  cases a <;> cases b <;> simp at h ⊢
theorem bit_24 (b : Bool) : N24 (bit b) := by cases b <;> simp [bit, N24]
def M24 (m : Msg) : Prop := m.t.size < 16777216 ∧ m.p.size < 16777216 ∧ N24 m.q
theorem m3_inj : Inj M24 m3 :=
  (t3_inj.seq (t3_inj.seq (n3_inj.seq n3_inj))).map (fun m => (m.t, m.p, m.q, bit m.r)) (fun x y _ _ h => by
    obtain ⟨t, p, q, r⟩ := x
    obtain ⟨t', p', q', r'⟩ := y
    simp only [Prod.mk.injEq] at h
    obtain ⟨e1, e2, e3, e4⟩ := h
    rw [e1, e2, e3, bit_inj e4]) (fun x h => ⟨h.1, h.2.1, h.2.2, bit_24 _⟩) (fun x => rfl)
theorem w3_inj : Inj (fun x : Wish1 => x.f.size < 16777216 ∧ N24 x.q) w3 :=
  (t3_inj.seq n3_inj).map (fun x => (x.f, x.q)) (fun x y _ _ h => by
    obtain ⟨f, q⟩ := x
    obtain ⟨f', q'⟩ := y
    simp only [Prod.mk.injEq] at h
    rw [h.1, h.2]) (fun x h => h) (fun x => rfl)
theorem f3_inj : Inj (fun x : Fl => N24 x.id ∧ M24 x.m) f3 :=
  (n3_inj.seq (m3_inj.seq n3_inj)).map (fun x => (x.id, x.m, bit x.rc)) (fun x y _ _ h => by
    obtain ⟨i, m, r⟩ := x
    obtain ⟨i', m', r'⟩ := y
    simp only [Prod.mk.injEq] at h
    rw [h.1, h.2.1, bit_inj h.2.2]) (fun x h => ⟨h.1, h.2, bit_24 _⟩) (fun x => rfl)
/-- A session that lasts, whose numbers are small. -/
def S24 (s : Se) : Prop := s.c.size < 16777216 ∧ (s.S.length < 16777216 ∧ ∀ x ∈ s.S, x.f.size < 16777216 ∧ N24 x.q) ∧ N24 s.o.last ∧ (s.o.F.length < 16777216 ∧ ∀ x ∈ s.o.F, N24 x.id ∧ M24 x.m) ∧ (s.o.Q.length < 16777216 ∧ ∀ x ∈ s.o.Q, M24 x) ∧ (s.I.length < 16777216 ∧ ∀ x ∈ s.I, N24 x) ∧
  s.cl = false ∧ s.ln = 0 ∧ s.wl = wl0 ∧ s.keep = 0 ∧ s.idle = 0
theorem s3_inj : Inj S24 s3 :=
  (t3_inj.seq ((l_inj w3_inj).seq (n3_inj.seq ((l_inj f3_inj).seq ((l_inj m3_inj).seq (l_inj n3_inj)))))).map (fun s => (s.c, s.S, s.o.last, s.o.F, s.o.Q, s.I)) (fun x y hx hy h => by
    obtain ⟨c, cl, ln, S, ⟨last, F, Q⟩, I, wl, keep, idle⟩ := x
    obtain ⟨c', cl', ln', S', ⟨last', F', Q'⟩, I', wl', keep', idle'⟩ := y
    obtain ⟨_, _, _, _, _, _, x1, x2, x3, x4, x5⟩ := hx
    obtain ⟨_, _, _, _, _, _, y1, y2, y3, y4, y5⟩ := hy
    simp only [Prod.mk.injEq] at h x1 x2 x3 x4 x5 y1 y2 y3 y4 y5
    obtain ⟨e1, e2, e3, e4, e5, e6⟩ := h
    rw [e1, e2, e3, e4, e5, e6, x1, x2, x3, x4, x5, y1, y2, y3, y4, y5]) (fun x h => ⟨h.1, h.2.1, h.2.2.1, h.2.2.2.1, h.2.2.2.2.1, h.2.2.2.2.2.1⟩) (fun x => by simp [s3, List.append_assoc])
theorem q2_24 {n : Int} (h : 0 ≤ n ∧ n ≤ 2) : N24 n := by unfold N24; omega
theorem okM_24 {m : Msg} (h : okM m = true) : M24 m := by
  have hl := okM_f h
  unfold okM at h
  simp only [Bool.and_eq_true, decide_eq_true_eq, Bool.or_eq_true] at h
  exact ⟨by omega, by omega, q2_24 (by omega)⟩
theorem subs_q {L : List Wish1} (h : subsB L = true) : ∀ x ∈ L, 0 ≤ x.q ∧ x.q ≤ 2 := by
  unfold subsB at h
  simp only [Bool.and_eq_true, decide_eq_true_eq] at h
  intro x hx
  obtain ⟨i, hi⟩ := List.getElem?_of_mem hx
  have h2 := List.all_eq_true.1 h.2 i (List.mem_range.2 (List.getElem?_eq_some_iff.1 hi).1)
  rw [hi] at h2
  simp only [wOk, mayW, Bool.and_eq_true, decide_eq_true_eq] at h2
  exact h2.1.2
theorem kept_q {K : List Msg} (h : Kq.subsB (K.map k1) = true) : ∀ m ∈ K, 0 ≤ m.q ∧ m.q ≤ 2 := by
  unfold Kq.subsB at h
  simp only [Bool.and_eq_true, decide_eq_true_eq, List.length_map] at h
  intro m hm
  obtain ⟨i, hi⟩ := List.getElem?_of_mem hm
  have hi2 : (K.map k1)[i]? = some (k1 m) := by rw [List.getElem?_map, hi]; rfl
  have h2 := List.all_eq_true.1 h.2 i (List.mem_range.2 (by rw [List.length_map]; exact (List.getElem?_eq_some_iff.1 hi).1))
  rw [hi2] at h2
  simp only [Kq.wOk, Kq.mayK, Kq.mayW, Bool.and_eq_true, decide_eq_true_eq] at h2
  exact h2.1.1.1.2
theorem ses_24 {s : Se} (h : sesOk s) (h0 : s.ln = 0 ∧ s.cl = false) : S24 s := by
  obtain ⟨h1, _, _, h4, h5, h6, h7, h8, _, _, h11⟩ := h
  obtain ⟨w1, w2⟩ := subs_f h4
  have w3 := subs_q h4
  obtain ⟨o1, o2, o3, o4, o5, _, o7⟩ := h5
  have hwl : s.wl = wl0 := by
    refine h7.1 ?_
    cases hw : s.wl.is
    · rfl
    · exact absurd h0.1 (h8 hw).1
  refine ⟨by omega, ⟨by omega, fun x hx => ⟨by have := w2 x hx; omega, q2_24 (w3 x hx)⟩⟩, by unfold N24; omega, ⟨by omega, fun x hx => ?_⟩, ⟨by omega, fun x hx => okM_24 (o7 x hx)⟩, ⟨by have := h6.1; omega, fun x hx => ?_⟩, h0.2, h0.1, hwl, by omega, by omega⟩
  · have h := o5 x hx
    unfold okF at h
    simp only [Bool.and_eq_true, decide_eq_true_eq] at h
    exact ⟨by unfold N24; omega, okM_24 h.1.2⟩
  · obtain ⟨i, hi⟩ := List.getElem?_of_mem hx
    have := h6.2 i x hi
    unfold idOk at this
    unfold N24
    omega
/-- Unlike ones have unlike bytes. -/
theorem all3_inj {a b : Br} (ha : rmOk a) (hb : rmOk b) (h : all3 a = all3 b) : a = b := by
  have hl : (sum4 (l3 a)).length = (sum4 (l3 b)).length := rfl
  have h1 := (List.append_inj' h hl).1
  have hP : ∀ c : Br, rmOk c → (c.S.length < 16777216 ∧ ∀ x ∈ c.S, S24 x) ∧ (c.K.length < 16777216 ∧ ∀ m ∈ c.K, M24 m) := fun c hc => by
    obtain ⟨⟨g1, g2, _, g4, _⟩, _, g6⟩ := hc
    obtain ⟨k1', k2'⟩ := kept_f g2
    have k3' := kept_q g2
    refine ⟨⟨by omega, fun x hx => ?_⟩, ⟨by omega, fun m hm => ⟨by have := k2' m hm; omega, by have := k2' m hm; omega, q2_24 (k3' m hm)⟩⟩⟩
    obtain ⟨i, hi⟩ := List.getElem?_of_mem hx
    exact ses_24 (g4 i x hi).1 (g6 x hx)
  have := ((l_inj s3_inj).seq (l_inj m3_inj)) (a.S, a.K) (b.S, b.K) [] [] (hP a ha) (hP b hb) (by simpa [l3, k3, List.append_assoc] using h1)
  have e := this.1
  simp only [Prod.mk.injEq] at e
  obtain ⟨aL, aS, aK⟩ := a
  obtain ⟨bL, bS, bK⟩ := b
  have e1 := ha.2.1
  have e2 := hb.2.1
  simp only at e e1 e2
  rw [e.1, e.2, e1, e2]
end Go.Proofs.YtlehkaibbkblkaaDoor
