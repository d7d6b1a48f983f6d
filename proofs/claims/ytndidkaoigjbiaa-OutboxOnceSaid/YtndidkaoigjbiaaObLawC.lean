/- OutboxOnce: the acts' contracts, joined with the plain law. -/


import Derived.Test.YtndidkaoigjbiaaObLawG
namespace Go.Proofs.Ytndidkaoigjbiaa
open Go.RowKit
/-- What an act answers: an outbox, packets, an error. -/
def ActP (w : World) (Pr : OB → List Pk → Int → Prop) (e : Ending) (w' : World) : Prop :=
  ∃ (o' : OB) (l : List Pk) (er : Int) (fo qo lo : Option Addr) (fc qc lc : Nat), e = .returned (.tuple #[.agg #[.int .i64 o'.last, .slice fo o'.F.length fc, .slice qo o'.Q.length qc], .slice lo l.length lc, .int .i64 er]) ∧
    OO w' w.heap.size (.agg #[.int .i64 o'.last, .slice fo o'.F.length fc, .slice qo o'.Q.length qc]) o' ∧ w'.ownsRow w.heap.size 50 24 (.slice lo l.length lc) l.length (eP.cells l) ∧ Below w.heap.size w w' ∧ Pr o' l er
theorem ActP.of {w w' : World} {Pr : OB → List Pk → Int → Prop} {e : Ending} {v' lv : Value} {er : Int} {o' : OB} {l : List Pk} (he : e = .returned (.tuple #[v', lv, .int .i64 er])) (hO : OO w' w.heap.size v' o') (hl : w'.ownsRow w.heap.size 50 24 lv l.length (eP.cells l)) (hb : Below w.heap.size w w') (hP : Pr o' l er) : ActP w Pr e w' := by
  obtain ⟨fv, qv, rfl, h1, h2⟩ := hO
  obtain ⟨fo, fc, rfl, _, _⟩ := (Rd.of_own h1).form
  obtain ⟨qo, qc, rfl, _, _⟩ := (Rd.of_own h2).form
  obtain ⟨lo, lc, rfl, _, _⟩ := (Rd.of_own hl).form
  exact ⟨o', l, er, fo, qo, lo, fc, qc, lc, he, ⟨_, _, rfl, h1, h2⟩, hl, hb, hP⟩
section
variable {w : World} {v : Value} {o : OB} {taken came : Nat} {seen : List Int} {recd : List Bool} {up : Bool} {wait : List Pk}
theorem offer_law (h : OR w v o) (hI : Inv o taken came seen recd up wait) {m : Msg} (hm : MN m taken) (ht : taken < 64) :
    Calls Try.prog 6 #[v, msgV m, .bool up] w (ActP w (fun o' l er => er = 5 ∨ er = 0 ∧ After o' l (taken + 1) came seen recd up wait)) := by
  have hk := hI.core.ok
  by_cases h8 : o.Q.length < 8
  · cases up
    · refine (Offer_down w v o m h hk hm.ok h8).mono ?_
      rintro e w' ⟨v', rfl, hO, hb⟩
      exact ActP.of rfl hO (World.ownsRow_nil _ _ _ _) hb (.inr ⟨rfl, hI.offer_down hm h8 ht⟩)
    · refine (Offer_up w v o m h hk hm.ok h8).mono ?_
      rintro e w' ⟨v', lv, rfl, hO, hl, hb⟩
      refine ActP.of (l := pub0 _) rfl hO (by rw [pub0, List.length_map]; exact hl) hb (.inr ⟨rfl, hI.offer_up hm h8 ht⟩)
  · have h8' : o.Q.length = 8 := by have := hI.core.q8; omega
    cases up
    · refine (Offer_full0 w v o m h hk hm.ok ⟨h8', trivial⟩).mono ?_
      rintro e w' ⟨rfl, hb⟩
      exact ActP.of (o' := ⟨0, [], []⟩) (l := []) rfl ⟨_, _, rfl, World.ownsRow_nil _ _ _ _, World.ownsRow_nil _ _ _ _⟩ (World.ownsRow_nil _ _ _ _) hb (.inl rfl)
    · refine (Offer_full1 w v o m h hk hm.ok ⟨h8', hI.offer_full h8'⟩).mono ?_
      rintro e w' ⟨rfl, hb⟩
      exact ActP.of (o' := ⟨0, [], []⟩) (l := []) rfl ⟨_, _, rfl, World.ownsRow_nil _ _ _ _, World.ownsRow_nil _ _ _ _⟩ (World.ownsRow_nil _ _ _ _) hb (.inl rfl)
/-- How many are sent for the first time. -/
def newN (l : List Pk) : Nat := (l.filter fun k => decide (k.kind = 3) && !k.dup).length
def pubN (l : List Pk) : Nat := (l.filter fun k => decide (k.kind = 3)).length
theorem newN_app (a b : List Pk) : newN (a ++ b) = newN a + newN b := by simp [newN]
theorem newN_next {l : List Pk} {k : Nat} {kk : Pk} (h : l[k]? = some kk) : newN (l.take (k + 1)) = newN (l.take k) + (if decide (kk.kind = 3) && !kk.dup then 1 else 0) := by
  rw [List.take_add_one, h, newN_app]
  simp only [Option.toList_some, newN, List.filter_cons, List.filter_nil]
  split <;> simp
theorem pubN_next {l : List Pk} {k : Nat} {kk : Pk} (h : l[k]? = some kk) : pubN (l.take (k + 1)) = pubN (l.take k) + (if kk.kind = 3 then 1 else 0) := by
  rw [List.take_add_one, h]
  simp only [Option.toList_some, pubN, List.filter_append, List.length_append, List.filter_cons, List.filter_nil, decide_eq_true_eq]
  split <;> simp
theorem newN_pub : ∀ S : List Fl, newN (pub0 S) = S.length
  | [] => rfl
  | f :: S => by
    have := newN_pub S
    simp only [newN, pub0, List.map_cons] at this ⊢
    rw [List.filter_cons_of_pos (by simp [pub]), List.length_cons, this, List.length_cons]
theorem newN_again : ∀ F : List Fl, newN (agL F) = 0
  | [] => rfl
  | f :: F => by
    have := newN_again F
    simp only [newN, agL, List.map_cons] at this ⊢
    rw [List.filter_cons_of_neg (by unfold again; split <;> simp [pub, rel]), this]
theorem pubN_pub : ∀ S : List Fl, pubN (pub0 S) = S.length
  | [] => rfl
  | f :: S => by
    have := pubN_pub S
    simp only [pubN, pub0, List.map_cons] at this ⊢
    rw [List.filter_cons_of_pos (by simp [pub]), List.length_cons, this, List.length_cons]
theorem resume_law (h : OR w v o) (hI : Inv o taken came seen recd false wait) :
    Calls Try.prog 8 #[v] w (ActP w (fun o' l er => er = 0 ∧ ∃ seen', okL taken recd l (seen, came) (seen', came + newN l) ∧ Inv o' taken (came + newN l) seen' recd true l)) := by
  refine (Resume_ok w v o h hI.core.ok).mono ?_
  rintro e w' ⟨v', lv, rfl, hO, hl, hb⟩
  obtain ⟨seen', a1, a2⟩ := hI.resume
  have hn : newN (agL o.F ++ pub0 (fillO o.last o.F o.Q).2) = (fillO o.last o.F o.Q).2.length := by rw [newN_app, newN_again, newN_pub, Nat.zero_add]
  refine ActP.of (l := agL o.F ++ pub0 (fillO o.last o.F o.Q).2) rfl hO ?_ hb ⟨rfl, seen', by rw [hn]; exact a1, by rw [hn]; exact a2⟩
  rw [List.length_append, agL, pub0, List.length_map, List.length_map]
  exact hl
/-- What an answer to a packet brings. -/
def Ans (o : OB) (taken came : Nat) (seen : List Int) (recd : List Bool) (r : List Pk) (o' : OB) (l : List Pk) : Prop :=
  ∃ seen', okL taken recd l (seen, came) (seen', came + pubN l) ∧ Inv o' taken (came + pubN l) seen' recd true (r ++ l) ∧ wt o' < wt o
theorem Ans.after {r l : List Pk} {o' : OB} (h : Ans o taken came seen recd r o' l) : After o' l taken came seen recd true r := by
  obtain ⟨seen', h1, h2, _⟩ := h
  exact ⟨seen', _, h1, h2⟩
theorem gone_ans {k : Pk} {r : List Pk} (hI : Inv o taken came seen recd true (k :: r)) {i : Nat} {f : Fl} (hf : o.F[i]? = some f) (hk : k.id = f.id) : Ans o taken came seen recd r (goneO o i).1 (pub0 (goneO o i).2) := by
  obtain ⟨_, h2, seen', h3, h4⟩ := hI.gone hf hk
  exact ⟨seen', by rw [pubN_pub]; exact h3, by rw [pubN_pub]; exact h4, h2⟩
theorem comp_law (h : OR w v o) {k : Pk} {r : List Pk} (hI : Inv o taken came seen recd true (k :: r)) (hk6 : k.kind = 6) :
    Calls Try.prog 9 #[v, .int .i64 k.id] w (ActP w (fun o' l er => er = 0 ∧ Ans o taken came seen recd r o' l)) := by
  obtain ⟨i, f, hf, he, hc⟩ := hI.pop
  have hr : f.rc = true := by
    rcases hc with ⟨h1, _⟩ | ⟨_, d, h2⟩
    · exact h1
    · rw [h2] at hk6; cases hk6
  rw [he]
  refine (Comp_ok w v o h hI.core.ok i f hf hr).mono ?_
  rintro e w' ⟨v', lv, rfl, hO, hl, hb⟩
  exact ActP.of (l := pub0 _) rfl hO (by rw [pub0, List.length_map]; exact hl) hb ⟨rfl, gone_ans hI hf he⟩
theorem ack_law (h : OR w v o) {k : Pk} {r : List Pk} (hI : Inv o taken came seen recd true (k :: r)) (hk6 : k.kind ≠ 6) (hq : k.q = 1) :
    Calls Try.prog 10 #[v, .int .i64 k.id] w (ActP w (fun o' l er => er = 0 ∧ Ans o taken came seen recd r o' l)) := by
  obtain ⟨i, f, hf, he, hc⟩ := hI.pop
  have hr : f.m.q = 1 := by
    rcases hc with ⟨_, h1⟩ | ⟨_, d, h2⟩
    · exact absurd (by rw [h1]; rfl) hk6
    · rw [h2] at hq; exact hq
  rw [he]
  refine (Ack_ok w v o h hI.core.ok i f hf hr).mono ?_
  rintro e w' ⟨v', lv, rfl, hO, hl, hb⟩
  exact ActP.of (l := pub0 _) rfl hO (by rw [pub0, List.length_map]; exact hl) hb ⟨rfl, gone_ans hI hf he⟩
/-- A packet that is to be answered by a PUBREC. -/
theorem rec_num {k : Pk} {r : List Pk} (hI : Inv o taken came seen recd true (k :: r)) (hk6 : k.kind ≠ 6) (hq : k.q ≠ 1) : ∃ n, n < 64 ∧ k.p = pl n ∧ ∀ (w : World) (v : Value), OR w v o →
    Calls Try.prog 11 #[v, .int .i64 k.id] w (ActP w (fun o' l er => er = 0 ∧ Ans o taken came seen (recd.set n true) r o' l)) := by
  obtain ⟨i, f, hf, he, hc⟩ := hI.pop
  rcases hc with ⟨_, h1⟩ | ⟨hr, d, h2⟩
  · exact absurd (by rw [h1]; rfl) hk6
  obtain ⟨n0, _, hmn, _⟩ := hI.core.fm f (List.mem_of_getElem? hf)
  have hq2 : f.m.q = 2 := by
    rcases hmn.2.2.2 with h | h
    · exact absurd (by rw [h2]; exact h) hq
    · exact h
  obtain ⟨n, hn, hp, hI2, hw⟩ := hI.rec_ hf he hr hq2
  refine ⟨n, hn, by rw [h2]; exact hp, fun w v h => ?_⟩
  rw [he]
  refine (Rec_ok w v o h hI.core.ok i f hf hq2).mono ?_
  rintro e w' ⟨v', lv, rfl, hO, hl, hb⟩
  refine ActP.of (l := [rel f.id]) rfl hO (by rw [eP.cells_one]; exact hl) hb ⟨rfl, seen, ?_, hI2, hw⟩
  exact .inl ⟨by simp [rel], rfl⟩
end
section
variable {w wr wx : World} {O X : Nat} {sv : List Value} {o o' : OB} {wait l : List Pk} {wv lv fx qx : Value} {seen : List Int} {recd : List Bool}
theorem LF.open_ (h : LF w O sv wr o wait wv) : ∃ (fo qo : Option Addr) (fc qc : Nat), Whole wr O 25 [.int .i64 o.last, .slice fo o.F.length fc, .slice qo o.Q.length qc] ∧ OR wr (.agg #[.int .i64 o.last, .slice fo o.F.length fc, .slice qo o.Q.length qc]) o := by
  obtain ⟨fv, qv, h1, h2, h3⟩ := h.ob
  obtain ⟨fo, fc, rfl, _, _⟩ := (Rd.of_own h2).form
  obtain ⟨qo, qc, rfl, _, _⟩ := (Rd.of_own h3).form
  exact ⟨fo, qo, fc, qc, h1, _, _, rfl, Rd.of_own h2, Rd.of_own h3⟩
theorem EX.setrc (h : EX w O X sv o o' wait wv lv fx qx l seen recd wx) (n : Nat) : EX w O X sv o o' wait wv lv fx qx l seen (recd.set n true) (wx.setCell ⟨O + 2, n, none⟩ (.bool true)) := by
  have hl : Left [O + 2] wx (wx.setCell ⟨O + 2, n, none⟩ (.bool true)) := (Left.refl _ _).setCell (Or.inl (by simp)) _
  have ht := h.la.rc.ty
  refine ⟨h.lf.arr ht (by have := h.lf.hO.1; omega) (by decide) hl, h.la.rec_ n true, h.xb.left hl (by simp; exact fun e => h.xb.ty.ne ht (by decide) e), own_leftB h.xf hl (fun k hk e => ?_), own_leftB h.xq hl (fun k hk e => ?_), own_leftB h.lr hl (fun k hk e => ?_), h.ne, h.hX⟩
  · simp only [List.mem_singleton] at hk; subst hk
    exact (own_ty h.xf e).ne ht (by decide) rfl
  · simp only [List.mem_singleton] at hk; subst hk
    exact (own_ty h.xq e).ne ht (by decide) rfl
  · simp only [List.mem_singleton] at hk; subst hk
    exact (own_ty h.lr e).ne ht (by decide) rfl
/-- What waits, but its first. -/
theorem Row.pop {B : Nat} {k : Pk} {r : List Pk} (h : Row wr B 50 24 wv (k :: r).length (eP.cells (k :: r))) : ∃ (g off cap : Nat) (tp : Option Addr), wv = .slice (some ⟨g, off, none⟩) (r.length + 1) cap ∧ wr.rangeAt g off (eP.c k) ∧ r.length + 1 ≤ cap ∧ cap ≤ maxLen ∧ (if cap = 1 then (some ⟨g, off, none⟩ : Option Addr) else some ⟨g, off + 24, none⟩) = tp ∧ Row wr B 50 24 (.slice tp r.length (cap - 1)) r.length (eP.cells r) := by
  obtain ⟨g, off, cap, rfl, _, _, hn, hm, hc⟩ := h.at_ (by simp)
  rw [eP.cells_cons] at h hc
  have h' : Row wr B 50 24 (.slice (some ⟨g, off, none⟩) (r.length + 1) cap) (r.length + 1) (eP.c k ++ eP.cells r) := h
  have hrg : wr.rangeAt g off (eP.c k) := fun j u hu => hc j u (by rw [List.getElem?_append_left (List.getElem?_eq_some_iff.1 hu).1]; exact hu)
  by_cases h1 : cap = 1
  · subst h1
    obtain ⟨h2, h3, h4⟩ := h'.tail0 (eP.len k)
    exact ⟨g, off, 1, _, rfl, hrg, by simpa using hn, hm, rfl, by rw [if_pos rfl, h2, h3]; exact h4⟩
  · exact ⟨g, off, cap, _, rfl, hrg, by simpa using hn, hm, rfl, by rw [if_neg h1]; exact h'.tail (eP.len k) (by simp at hn; omega)⟩
/-- The loop over what is sent. -/
structure InL (w : World) (O : Nat) (sv : List Value) (o : OB) (taken : Nat) (recd : List Bool) (wait l : List Pk) (lv : Value) (k c : Nat) (sn : List Int) (fin : List Int × Nat) (wv : Value) (wx : World) : Prop where
  lf : LF w O sv wx o (wait ++ l.take k) wv
  la : LA O wx sn recd
  lr : wx.ownsRow w.heap.size 50 24 lv l.length (eP.cells l)
  ne : ∀ j, lv.ownBlock = some j → wv.ownBlock ≠ some j
  ok : okL taken recd (l.drop k) (sn, c) fin
  sm : (wait ++ l).length ≤ 1000
theorem InL.below {taken k c : Nat} {sn : List Int} {fin : List Int × Nat} (h : InL w O sv o taken recd wait l lv k c sn fin wv wr) (hb : Below wr.heap.size wr wx) : InL w O sv o taken recd wait l lv k c sn fin wv wx :=
  ⟨h.lf.below hb, h.la.below hb, own_below h.lr hb, h.ne, h.ok, h.sm⟩
theorem InL.small {taken k c : Nat} {sn : List Int} {fin : List Int × Nat} (h : InL w O sv o taken recd wait l lv k c sn fin wv wr) (j : Nat) : (wait ++ l.take j).length ≤ 1000 := by
  have := h.sm
  rw [List.length_append] at this ⊢
  rw [List.length_take]
  omega
theorem InL.fin {taken k c : Nat} {sn : List Int} {sF : List Int} {cF : Nat} (h : InL w O sv o taken recd wait l lv k c sn (sF, cF) wv wr) (hk : l.length ≤ k) : c = cF ∧ (LF w O sv wr o (wait ++ l) wv ∧ LA O wr sF recd) := by
  have h1 := h.ok
  rw [List.drop_eq_nil_of_le hk] at h1
  injection h1 with h1 h2
  subst h1
  subst h2
  have h3 := h.lf
  rw [List.take_of_length_le hk] at h3
  exact ⟨rfl, h3, h.la⟩
theorem Inv.small {taken came : Nat} {up : Bool} (h : Inv o taken came seen recd up wait) : wait.length ≤ 1000 := by
  cases up
  · rw [h.dnw rfl]; simp
  · have h1 := (h.upw rfl).1.1.length_eq
    have h2 := h.core.f4
    rw [ids_len, List.length_map] at h1
    omega
theorem pl_byte (n : Nat) (hn : n < 100) : ∃ B : ByteArray, B = pl n ∧ B.size = 1 ∧ ∀ h : 0 < B.size, ((B[0]'h).toNat : Int) = 33 + (n : Int) := by
  refine ⟨_, rfl, rfl, fun h => ?_⟩
  have e : (UInt8.ofNat (33 + n)).toNat = 33 + n := by rw [UInt8.toNat_ofNat']; omega
  have e2 : (pl n)[0]'h = UInt8.ofNat (33 + n) := rfl
  rw [e2, e]
  omega
theorem pl_x (n : Nat) (hn : n < 100) : ∃ (B : ByteArray) (X : Int), B = pl n ∧ B.size = 1 ∧ (∀ h : 0 < B.size, ((B[0]'h).toNat : Int) = X) ∧ wrap64 X = X ∧ wrap64 (X - 33) = (n : Int) := by
  obtain ⟨B, h1, h2, h3⟩ := pl_byte n hn
  have e : 33 + (n : Int) - 33 = n := by omega
  refine ⟨B, 33 + (n : Int), h1, h2, h3, IntWalk.wrap64_in _ ⟨by omega, by omega⟩, ?_⟩
  rw [e]
  exact IntWalk.wrap64_in _ ⟨by omega, by omega⟩
end
end Go.Proofs.Ytndidkaoigjbiaa
