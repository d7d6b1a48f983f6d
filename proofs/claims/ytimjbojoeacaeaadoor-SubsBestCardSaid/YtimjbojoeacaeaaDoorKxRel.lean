/- What the evaluator's values and heap have to do with the model's: a value is the model's but for the numbers of blocks. -/
import Derived.Test.YtimjbojoeacaeaaDoorKxBase
import Derived.WalkKit
namespace Go.Proofs.YtimjbojoeacaeaaDoor.Kx

/-- Where blocks lie, from which cell on; of those that may grow in place how many elements they hold, and how many cells each has. -/
structure G where
  pos : Nat → Option (Nat × Nat)
  grow : Nat → Option (Nat × Nat)
  /-- What the letters stand for. -/
  env : Nat → Int
  /-- A block that was laid as it is begins where the model's begins. -/
  z : ∀ b B base, pos b = some (B, base) → grow b = none → base = 0
structure G.le (g g' : G) : Prop where
  env : g'.env = g.env
  pos : ∀ b p, g.pos b = some p → g'.pos b = some p
  grow : ∀ b p, g.grow b = some p → g'.grow b = some p
theorem G.le.refl (g : G) : g.le g := ⟨rfl, fun _ _ h => h, fun _ _ h => h⟩
theorem G.le.trans {g g' g'' : G} (h : g.le g') (h' : g'.le g'') : g.le g'' := ⟨h'.env.trans h.env, fun b p e => h'.pos b p (h.pos b p e), fun b p e => h'.grow b p (h.grow b p e)⟩

def one1 : Value → Bool
  | .agg _ => false
  | .tuple _ => false
  | _ => true

mutual
inductive VR (g : G) : AV → Value → Prop where
  | any (v : Value) : VR g .any v
  | bool (b : Bool) : VR g (.bool b) (.bool b)
  | int (k : IntKind) (n : Int) : VR g (.int k n) (.int k n)
  | str (s : ByteArray) : VR g (.str (byteL s.data.toList)) (.string s)
  | nilp : VR g .nilp (.pointer none)
  | ptr (b o B base : Nat) (h : g.pos b = some (B, base)) : VR g (.ptr b o) (.pointer (some ⟨B, base + o, none⟩))
  | nils : VR g .nils (.slice none 0 0)
  | slck (b o n c B base ro : Nat) (h : g.pos b = some (B, base)) (hn : n ≤ c) (hro : 0 < c → ro = base + o) : VR g (.slc b o n (.k c)) (.slice (some ⟨B, ro, none⟩) n c)
  | slcv (b o n k B base c s ro : Nat) (h : g.pos b = some (B, base)) (hg : g.grow b = some (c, s)) (ho : o = k * s) (hn : k + n ≤ c) (hro : k < c → ro = base + o) : VR g (.slc b o n (.v s k)) (.slice (some ⟨B, ro, none⟩) n (c - k))
  | nilm : VR g .nilm (.map none)
  | map (b B : Nat) (h : g.pos b = some (B, 0)) : VR g (.map b) (.map (some B))
  | fn (f : Fn) (x y : List AV) (x' y' : List Value) (hx : VRs g x x') (hy : VRs g y y') : VR g (.fn f x y) (.func f x'.toArray y'.toArray)
  | nilf : VR g .nilf .nilFunc
  | ifc (t : TypeId) (v : AV) (v' : Value) (h : VR g v v') : VR g (.ifc t v) (.iface t v')
  | nili : VR g .nili .nilIface
  | agg (l : List AV) (l' : List Value) (h : VRs g l l') (h1 : ∀ x ∈ l', one1 x = true) : VR g (.agg l) (.agg l'.toArray)
  | tup (l : List AV) (l' : List Value) (h : VRs g l l') : VR g (.tup l) (.tuple l'.toArray)
  | xslc (a : Option Addr) (n c k : Nat) (ge : Bool) (h : k ≤ n) (he : ge = false → n = k) : VR g (.xslc k ge) (.slice a n c)
  | xnat (k n : Nat) (h : k ≤ n) : VR g (.xnat k) (.int .i64 n)
  | xres0 (m : Nat) (r n : Int) (hn : IntKind.i64.wrap n = n) (h : (n % 18446744073709551616) % m = r) : VR g (.xres 0 m r) (.int .i64 n)
  | xres1 (m : Nat) (r n : Int) (h : Int.tmod n m = r) : VR g (.xres 1 m r) (.int .i64 n)
  | xres2 (m : Nat) (r n : Int) (h0 : 0 ≤ n) (h : n % m = r) : VR g (.xres 2 m r) (.int .u64 n)
  | xi (x : Xi) (n : Int) (h : n = x.a * g.env x.k + x.c) (hl : x.lo ≤ n) (hh : n ≤ x.hi) : VR g (.xi x) (.int .i64 n)
  | xz (b n L B base ro c : Nat) (h : g.pos b = some (B, base)) (hn : n ≤ c) (h1 : base ≤ ro) (h2 : ro + n ≤ base + L) : VR g (.xz b n L) (.slice (some ⟨B, ro, none⟩) n c)
inductive VRs (g : G) : List AV → List Value → Prop where
  | nil : VRs g [] []
  | cons (v : AV) (v' : Value) (l : List AV) (l' : List Value) (h : VR g v v') (hs : VRs g l l') : VRs g (v :: l) (v' :: l')
end

section
variable {g g' : G}
mutual
theorem VR.mono (hl : g.le g') : ∀ {v : AV} {v' : Value}, VR g v v' → VR g' v v'
  | _, _, .any v => .any v
  | _, _, .bool b => .bool b
  | _, _, .int k n => .int k n
  | _, _, .str s => .str s
  | _, _, .nilp => .nilp
  | _, _, .ptr b o B base h => .ptr b o B base (hl.pos _ _ h)
  | _, _, .nils => .nils
  | _, _, .slck b o n c B base ro h hn hro => .slck b o n c B base ro (hl.pos _ _ h) hn hro
  | _, _, .slcv b o n k B base c s ro h hg ho hn hro => .slcv b o n k B base c s ro (hl.pos _ _ h) (hl.grow _ _ hg) ho hn hro
  | _, _, .nilm => .nilm
  | _, _, .map b B h => .map b B (hl.pos _ _ h)
  | _, _, .fn f x y x' y' hx hy => .fn f x y x' y' (VRs.mono hl hx) (VRs.mono hl hy)
  | _, _, .nilf => .nilf
  | _, _, .ifc t v v' h => .ifc t v v' (VR.mono hl h)
  | _, _, .nili => .nili
  | _, _, .agg l l' h h1 => .agg l l' (VRs.mono hl h) h1
  | _, _, .tup l l' h => .tup l l' (VRs.mono hl h)
  | _, _, .xslc a n c k ge h he => .xslc a n c k ge h he
  | _, _, .xnat k n h => .xnat k n h
  | _, _, .xres0 m r n hn h => .xres0 m r n hn h
  | _, _, .xres1 m r n h => .xres1 m r n h
  | _, _, .xres2 m r n h0 h => .xres2 m r n h0 h
  | _, _, .xi x n h h1 h2 => .xi x n (by rw [hl.env]; exact h) h1 h2
  | _, _, .xz b n L B base ro c h hn h1 h2 => .xz b n L B base ro c (hl.pos _ _ h) hn h1 h2
theorem VRs.mono (hl : g.le g') : ∀ {l : List AV} {l' : List Value}, VRs g l l' → VRs g' l l'
  | _, _, .nil => .nil
  | _, _, .cons v v' l l' h hs => .cons v v' l l' (VR.mono hl h) (VRs.mono hl hs)
end
theorem VRs.length {l : List AV} {l' : List Value} (h : VRs g l l') : l.length = l'.length := by
  induction l generalizing l' with
  | nil => cases h; rfl
  | cons a r ih => cases h with | cons _ _ _ _ h hs => simp [ih hs]
theorem VRs.at {l : List AV} {l' : List Value} (h : VRs g l l') {i : Nat} {v : AV} (hv : l[i]? = some v) : ∃ v', l'[i]? = some v' ∧ VR g v v' := by
  induction l generalizing l' i with
  | nil => simp at hv
  | cons a r ih => cases h with
    | cons _ a' _ r' h hs => cases i with
      | zero => simp at hv; subst hv; exact ⟨a', rfl, h⟩
      | succ i => simpa using ih hs (by simpa using hv)
theorem VRs.of_at {l : List AV} {l' : List Value} (hn : l.length = l'.length) (h : ∀ (i : Nat) (v : AV), l[i]? = some v → ∃ v' : Value, l'[i]? = some v' ∧ VR g v v') : VRs g l l' := by
  induction l generalizing l' with
  | nil => cases l' with | nil => exact .nil | cons => simp at hn
  | cons a r ih => cases l' with
    | nil => simp at hn
    | cons a' r' =>
      obtain ⟨v', e, hv⟩ := h 0 a rfl
      simp at e; subst e
      exact .cons _ _ _ _ hv (ih (by simpa using hn) (fun i v hi => by simpa using h (i + 1) v (by simpa using hi)))
theorem VRs.append {x y : List AV} {x' y' : List Value} (hx : VRs g x x') (hy : VRs g y y') : VRs g (x ++ y) (x' ++ y') := by
  induction x generalizing x' with
  | nil => cases hx; exact hy
  | cons a r ih => cases hx with | cons _ _ _ _ h hs => exact .cons _ _ _ _ h (ih hs)
theorem VRs.take {x : List AV} {x' : List Value} (hx : VRs g x x') (n : Nat) : VRs g (x.take n) (x'.take n) := by
  induction x generalizing x' n with
  | nil => cases hx; simp; exact .nil
  | cons a r ih => cases hx with
    | cons _ _ _ _ h hs => cases n with
      | zero => exact .nil
      | succ n => exact .cons _ _ _ _ h (ih hs n)
theorem VRs.drop {x : List AV} {x' : List Value} (hx : VRs g x x') (n : Nat) : VRs g (x.drop n) (x'.drop n) := by
  induction x generalizing x' n with
  | nil => cases hx; simp; exact .nil
  | cons a r ih => cases n with
    | zero => exact hx
    | succ n => cases hx with | cons _ _ _ _ h hs => exact ih hs n
end

/-- A row of cells. -/
structure CR (g : G) (b B base : Nat) (l : List AV) (t : TypeId) (w : World) : Prop where
  ex : ∃ cs fr, w.heap[B]? = some (.cells cs t fr) ∧ (∀ i : Nat, ¬ (fr.1 ≤ i ∧ i < fr.2)) ∧ base + l.length ≤ cs.size ∧
    (∀ i v, l[i]? = some v → ∃ v', cs[base + i]? = some v' ∧ VR g v v' ∧ one1 v' = true) ∧
    (∀ c s, g.grow b = some (c, s) → 0 < s ∧ l.length ≤ c * s ∧ base + c * s ≤ cs.size)
/-- Entries of a map. -/
inductive ER (g : G) : List (AV × AV × Nat) → List MapEntry → Prop where
  | nil : ER g [] []
  | cons (k v : AV) (n : Nat) (k' v' : Value) (l : List (AV × AV × Nat)) (l' : List MapEntry) (hk : VR g k k') (hv : VR g v v') (hs : ER g l l') : ER g ((k, v, n) :: l) (⟨k', v', n⟩ :: l')
theorem ER.mono {g g' : G} (hl : g.le g') {l : List (AV × AV × Nat)} {l' : List MapEntry} (h : ER g l l') : ER g' l l' := by
  induction h with
  | nil => exact .nil
  | cons k v n k' v' l l' hk hv _ ih => exact .cons k v n k' v' l l' (hk.mono hl) (hv.mono hl) ih

/-- Iterators. -/
inductive IR (g : G) : It → Obj → Prop where
  | s (l : List Nat) (pos : Nat) (s : ByteArray) (h : l = byteL s.data.toList) : IR g (.s l pos) (.stringIter s pos)
  | m (b M since : Nat) (seen : List Nat) (last : Nat) (h : g.pos b = some (M, 0)) : IR g (.m b since seen last) (.mapIter (some M) since seen.toArray last)
  | b (m M : Nat) (t : TypeId) (h : g.pos m = some (M, 0)) : IR g (.b m t) (.cells #[.map (some M)] t (0, 0))
theorem IR.mono {g g' : G} (hl : g.le g') {it : It} {ob : Obj} (h : IR g it ob) : IR g' it ob := by
  cases h with
  | s l pos s h => exact .s l pos s h
  | m b M since seen last h => exact .m b M since seen last (hl.pos _ _ h)
  | b m M t h => exact .b m M t (hl.pos _ _ h)
def live (h : H) (b : Nat) : Prop := ∃ o, h.m.get b = some o ∧ o ≠ .dead
structure HR (B0 : Nat) (g : G) (h : H) (w : World) : Prop where
  cells : ∀ b l t B base, h.m.get b = some (.cells l t) → g.pos b = some (B, base) → CR g b B base l t w
  maps : ∀ b es clock B base, h.m.get b = some (.map es clock) → g.pos b = some (B, base) → base = 0 ∧ ∃ es', w.heap[B]? = some (.map es' clock) ∧ ER g es es'.toList
  sits : ∀ b it B base, h.m.get b = some (.sit it) → g.pos b = some (B, base) → base = 0 ∧ ∃ ob, w.heap[B]? = some ob ∧ IR g it ob
  inj : ∀ b b' B base base', live h b → live h b' → g.pos b = some (B, base) → g.pos b' = some (B, base') → b = b'
  low : ∀ b B base, live h b → g.pos b = some (B, base) → B0 ≤ B
  bnd : ∀ b B base, g.pos b = some (B, base) → B < w.heap.size
/-- No block from the next on. -/
structure Fresh (g : G) (h : H) : Prop where
  m : ∀ b, h.next ≤ b → h.m.get b = none
  pos : ∀ b, h.next ≤ b → g.pos b = none
  grow : ∀ b, h.next ≤ b → g.grow b = none

/-- From one state to a later one. -/
structure Tr (B0 : Nat) (g : G) (h : H) (w : World) (g' : G) (h' : H) (w' : World) : Prop where
  hr : HR B0 g' h' w'
  le : g.le g'
  old : ∀ b, b < h.next ∨ h'.next ≤ b → g'.pos b = g.pos b ∧ g'.grow b = g.grow b
  next : h.next ≤ h'.next
  size : w.heap.size ≤ w'.heap.size
  frame : ∀ B, B < w.heap.size → (∀ b base, live h b → g.pos b = some (B, base) → False) → w'.heap[B]? = w.heap[B]?
  afr : ∀ b o, b < h.next → h.m.get b = some o → g.pos b = none → h'.m.get b = some o
  lv : ∀ b, b < h.next → live h' b → live h b
  far : ∀ b, h'.next ≤ b → h'.m.get b = h.m.get b
  new : ∀ b, h.next ≤ b → b < h'.next → g.pos b = none ∧ g.grow b = none
  newp : ∀ b B base, g.pos b = none → g'.pos b = some (B, base) → w.heap.size ≤ B ∨ ∃ b0 base0, live h b0 ∧ g.pos b0 = some (B, base0)
  os : w'.os = w.os
  tape : w'.tape = w.tape
  output : w'.output = w.output

theorem Tr.refl {B0 : Nat} {g : G} {h : H} {w : World} (hr : HR B0 g h w) : Tr B0 g h w g h w :=
  ⟨hr, .refl g, fun _ _ => ⟨rfl, rfl⟩, Nat.le_refl _, Nat.le_refl _, fun _ _ _ => rfl, fun _ _ _ h _ => h, fun _ _ h => h, fun _ _ => rfl, fun _ _ _ => by omega, fun b B base h h' => (by rw [h] at h'; cases h'), rfl, rfl, rfl⟩
theorem HR.world {B0 : Nat} {g : G} {h : H} {w w' : World} (hr : HR B0 g h w) (hw : w'.heap = w.heap) : HR B0 g h w' :=
  ⟨fun b l t B base h1 h2 => ⟨by rw [hw]; exact (hr.cells b l t B base h1 h2).ex⟩, fun b es c B base h1 h2 => by rw [hw]; exact hr.maps b es c B base h1 h2, fun b it B base h1 h2 => by rw [hw]; exact hr.sits b it B base h1 h2, hr.inj, hr.low, fun b B base h => by rw [hw]; exact hr.bnd b B base h⟩
theorem Tr.drew {B0 : Nat} {g : G} {h : H} {w : World} (hr : HR B0 g h w) (n : Nat) : Tr B0 g h w g h { w with drawn := n } :=
  ⟨hr.world rfl, .refl g, fun _ _ => ⟨rfl, rfl⟩, Nat.le_refl _, Nat.le_refl _, fun _ _ _ => rfl, fun _ _ _ h _ => h, fun _ _ h => h, fun _ _ => rfl, fun _ _ _ => by omega, fun b B base h h' => (by rw [h] at h'; cases h'), rfl, rfl, rfl⟩
theorem Tr.live_old {B0 : Nat} {g g' : G} {h h' : H} {w w' : World} (t : Tr B0 g h w g' h' w') {b : Nat} {p : Nat × Nat} (hl : live h' b) (hg : g.pos b = some p) : live h b := by
  rcases Nat.lt_or_ge b h.next with hb | hb
  · exact t.lv b hb hl
  · rcases Nat.lt_or_ge b h'.next with hb' | hb'
    · rw [(t.new b hb hb').1] at hg; cases hg
    · obtain ⟨o, ho, hd⟩ := hl
      rw [t.far b hb'] at ho
      exact ⟨o, ho, hd⟩
theorem Tr.pos_old {B0 : Nat} {g g' : G} {h h' : H} {w w' : World} (t : Tr B0 g h w g' h' w') {b : Nat} {p q : Nat × Nat} (hg : g.pos b = some p) (hg' : g'.pos b = some q) : p = q := by
  have := t.le.pos _ _ hg
  rw [hg'] at this
  injection this with this
  exact this.symm
theorem Tr.trans {B0 : Nat} {g g' g'' : G} {h h' h'' : H} {w w' w'' : World} (t : Tr B0 g h w g' h' w') (u : Tr B0 g' h' w' g'' h'' w'') : Tr B0 g h w g'' h'' w'' where
  hr := u.hr
  le := t.le.trans u.le
  old := fun b hb => by
    have hn := t.next; have hn' := u.next
    have h1 := u.old b (by omega)
    have h2 := t.old b (by omega)
    exact ⟨h1.1.trans h2.1, h1.2.trans h2.2⟩
  next := Nat.le_trans t.next u.next
  size := Nat.le_trans t.size u.size
  frame := fun B hB hno => by
    rw [u.frame B (by have := t.size; omega) (fun b base hl hp => ?_)]
    · exact t.frame B hB hno
    · rcases hg : g.pos b with _ | ⟨B1, base1⟩
      · rcases t.newp b B base hg hp with h1 | ⟨b0, base0, h1, h2⟩
        · omega
        · exact hno b0 base0 h1 h2
      · have e := t.pos_old hg hp
        injection e with e1 e2
        subst e1
        exact hno b base1 (t.live_old hl hg) hg
  afr := fun b o hb ho hg => u.afr b o (by have := t.next; omega) (t.afr b o hb ho hg) (by rw [(t.old b (.inl hb)).1]; exact hg)
  lv := fun b hb hl => t.lv b hb (u.lv b (by have := t.next; omega) hl)
  far := fun b hb => by have := u.next; rw [u.far b hb, t.far b (by omega)]
  new := fun b hb hb' => by
    rcases Nat.lt_or_ge b h'.next with h1 | h1
    · exact t.new b hb h1
    · have h2 := u.new b h1 hb'
      have h3 := t.old b (.inr h1)
      exact ⟨h3.1.symm.trans h2.1, h3.2.symm.trans h2.2⟩
  newp := fun b B base hg hp => by
    rcases hg' : g'.pos b with _ | ⟨B1, base1⟩
    · rcases u.newp b B base hg' hp with h1 | ⟨b0, base0, h1, h2⟩
      · left; have := t.size; omega
      · rcases hg0 : g.pos b0 with _ | ⟨B2, base2⟩
        · exact t.newp b0 B base0 hg0 h2
        · have e := t.pos_old hg0 h2
          injection e with e1 e2
          subst e1
          exact .inr ⟨b0, base2, t.live_old h1 hg0, hg0⟩
    · have e := u.pos_old hg' hp
      injection e with e1 e2
      subst e1
      exact t.newp b _ _ hg hg'
  os := u.os.trans t.os
  tape := u.tape.trans t.tape
  output := u.output.trans t.output
theorem Fresh.tr {B0 : Nat} {g g' : G} {h h' : H} {w w' : World} (f : Fresh g h) (t : Tr B0 g h w g' h' w') : Fresh g' h' where
  m := fun b hb => by rw [t.far b hb]; exact f.m b (Nat.le_trans t.next hb)
  pos := fun b hb => by rw [(t.old b (.inr hb)).1]; exact f.pos b (Nat.le_trans t.next hb)
  grow := fun b hb => by rw [(t.old b (.inr hb)).2]; exact f.grow b (Nat.le_trans t.next hb)

/-! A new block; a block written. -/
def G.add (g : G) (b B base : Nat) (gr : Option (Nat × Nat)) (hz : gr = none → base = 0 := by first | (intro h; cases h; done) | (intro _; rfl)) : G where
  pos := fun x => if x = b then some (B, base) else g.pos x
  grow := fun x => if x = b then gr else g.grow x
  env := g.env
  z := fun x B' base' h1 h2 => by
    by_cases e : x = b
    · rw [if_pos e] at h1 h2
      injection h1 with h1
      injection h1 with _ h1
      rw [← h1]
      exact hz h2
    · rw [if_neg e] at h1 h2
      exact g.z x B' base' h1 h2
theorem G.add_le (g : G) (b B base : Nat) (gr : Option (Nat × Nat)) (h : g.pos b = none) (h' : g.grow b = none) (hz : gr = none → base = 0 := by first | (intro h; cases h; done) | (intro _; rfl)) : g.le (g.add b B base gr hz) where
  env := rfl
  pos := fun x p hx => by
    show (if x = b then _ else _) = _
    rw [if_neg (fun e => by subst e; rw [h] at hx; cases hx)]; exact hx
  grow := fun x p hx => by
    show (if x = b then _ else _) = _
    rw [if_neg (fun e => by subst e; rw [h'] at hx; cases hx)]; exact hx
theorem CR.mono {g g' : G} {b B base : Nat} {l : List AV} {t : TypeId} {w w' : World} (h : CR g b B base l t w) (hl : g.le g') (hg : g'.grow b = g.grow b) (hw : w'.heap[B]? = w.heap[B]?) : CR g' b B base l t w' := by
  obtain ⟨cs, fr, h1, h2, h3, h4, h5⟩ := h.ex
  exact ⟨cs, fr, hw.trans h1, h2, h3, fun i v hv => by
    obtain ⟨v', e, hr, ho⟩ := h4 i v hv
    exact ⟨v', e, hr.mono hl, ho⟩, fun c s hc => h5 c s (hg ▸ hc)⟩
/-- The next block is new in the model too. -/
theorem Tr.alloc {B0 : Nat} {g : G} {h : H} {w w1 : World} (hr : HR B0 g h w) (hB : B0 ≤ w.heap.size) (hp : g.pos h.next = none) (hg : g.grow h.next = none)
    (o : AObj) (ob : Obj) (gr : Option (Nat × Nat)) (hh : w1.heap = w.heap.push ob) (hos : w1.os = w.os) (ht : w1.tape = w.tape) (hou : w1.output = w.output)
    (hc : ∀ l t, o = .cells l t → CR (g.add h.next w.heap.size 0 gr) h.next w.heap.size 0 l t w1)
    (hmp : ∀ es clock, o = .map es clock → ∃ es', ob = .map es' clock ∧ ER g es es'.toList)
    (hsi : ∀ it, o = .sit it → IR (g.add h.next w.heap.size 0 gr) it ob := by intro _ e; cases e) :
    Tr B0 g h w (g.add h.next w.heap.size 0 gr) ⟨h.m.set h.next o, Nat.succ h.next⟩ w1 where
  hr := by
    have hle := G.add_le g h.next w.heap.size 0 gr hp hg
    have hold : ∀ B, B < w.heap.size → w1.heap[B]? = w.heap[B]? := fun B hB => by rw [hh, Array.getElem?_push_lt hB, Array.getElem?_eq_getElem hB]
    have hnew : w1.heap[w.heap.size]? = some ob := by rw [hh]; simp
    have hposne : ∀ x, x ≠ h.next → (g.add h.next w.heap.size 0 gr).pos x = g.pos x := fun x hx => if_neg hx
    have hposeq : (g.add h.next w.heap.size 0 gr).pos h.next = some (w.heap.size, 0) := if_pos rfl
    refine ⟨fun b l t B base h1 h2 => ?_, fun b es c B base h1 h2 => ?_, fun b it B base h1 h2 => ?_, fun b b' B base base' h1 h2 h3 h4 => ?_, fun b B base h1 h2 => ?_, fun b B base h1 => ?_⟩
    · rw [get_set] at h1
      by_cases e : h.next = b
      · subst e
        rw [if_pos rfl] at h1
        rw [hposeq] at h2
        injection h2 with h2
        injection h2 with e1 e2
        subst e1; subst e2
        injection h1 with h1
        exact hc l t h1
      · rw [if_neg e] at h1
        rw [hposne b (fun e' => e e'.symm)] at h2
        exact (hr.cells b l t B base h1 h2).mono hle (if_neg (fun e' => e e'.symm)) (hold B (hr.bnd b B base h2))
    · rw [get_set] at h1
      by_cases e : h.next = b
      · subst e
        rw [if_pos rfl] at h1
        rw [hposeq] at h2
        injection h2 with h2
        injection h2 with e1 e2
        subst e1; subst e2
        injection h1 with h1
        obtain ⟨es', e1, e2⟩ := hmp es c h1
        exact ⟨rfl, es', by rw [hnew, e1], e2.mono hle⟩
      · rw [if_neg e] at h1
        rw [hposne b (fun e' => e e'.symm)] at h2
        obtain ⟨e0, es', e1, e2⟩ := hr.maps b es c B base h1 h2
        exact ⟨e0, es', (hold B (hr.bnd b B base h2)).trans e1, e2.mono hle⟩
    · rw [get_set] at h1
      by_cases e : h.next = b
      · subst e
        rw [if_pos rfl] at h1
        rw [hposeq] at h2
        injection h2 with h2
        injection h2 with e1 e2
        subst e1; subst e2
        injection h1 with h1
        exact ⟨rfl, ob, hnew, hsi it h1⟩
      · rw [if_neg e] at h1
        rw [hposne b (fun e' => e e'.symm)] at h2
        obtain ⟨e0, s, e1, e2⟩ := hr.sits b it B base h1 h2
        exact ⟨e0, s, (hold B (hr.bnd b B base h2)).trans e1, e2.mono hle⟩
    · by_cases e : b = h.next
      · by_cases e' : b' = h.next
        · rw [e, e']
        · subst e
          rw [hposeq] at h3
          injection h3 with h3
          injection h3 with e1 e2
          rw [hposne b' e'] at h4
          have := hr.bnd _ _ _ h4
          omega
      · rw [hposne b e] at h3
        by_cases e' : b' = h.next
        · subst e'
          rw [hposeq] at h4
          injection h4 with h4
          injection h4 with e1 e2
          have := hr.bnd _ _ _ h3
          omega
        · rw [hposne b' e'] at h4
          obtain ⟨o1, h1, h1'⟩ := h1
          obtain ⟨o2, h2, h2'⟩ := h2
          rw [get_set, if_neg (fun x => e x.symm)] at h1
          rw [get_set, if_neg (fun x => e' x.symm)] at h2
          exact hr.inj b b' B base base' ⟨o1, h1, h1'⟩ ⟨o2, h2, h2'⟩ h3 h4
    · by_cases e : b = h.next
      · subst e
        rw [hposeq] at h2
        injection h2 with h2
        injection h2 with e1 e2
        omega
      · rw [hposne b e] at h2
        obtain ⟨o1, h1, h1'⟩ := h1
        rw [get_set, if_neg (fun x => e x.symm)] at h1
        exact hr.low b B base ⟨o1, h1, h1'⟩ h2
    · have : w1.heap.size = w.heap.size + 1 := by rw [hh]; simp
      by_cases e : b = h.next
      · subst e
        rw [hposeq] at h1
        injection h1 with h1
        injection h1 with e1 e2
        omega
      · rw [hposne b e] at h1
        have := hr.bnd _ _ _ h1
        omega
  le := G.add_le g h.next w.heap.size 0 gr hp hg
  old := fun b hb => by
    have hb : b < h.next ∨ h.next + 1 ≤ b := hb
    have hne : b ≠ h.next := by omega
    exact ⟨if_neg hne, if_neg hne⟩
  next := Nat.le_succ _
  size := by rw [hh]; simp
  frame := fun B hB _ => by rw [hh, Array.getElem?_push_lt hB, Array.getElem?_eq_getElem hB]
  afr := fun b o' hb ho _ => by rw [get_set, if_neg (by omega)]; exact ho
  lv := fun b hb hl => by
    obtain ⟨o1, h1, h1'⟩ := hl
    rw [get_set, if_neg (by omega)] at h1
    exact ⟨o1, h1, h1'⟩
  far := fun b hb => by
    have hb : h.next + 1 ≤ b := hb
    rw [get_set, if_neg (by omega)]
  new := fun b hb hb' => by
    have hb' : b < h.next + 1 := hb'
    have : b = h.next := by omega
    subst this
    exact ⟨hp, hg⟩
  newp := fun b B base h1 h2 => by
    by_cases e : b = h.next
    · subst e
      have : (some (w.heap.size, 0) : Option (Nat × Nat)) = some (B, base) := by rw [← h2]; exact (if_pos rfl).symm
      injection this with this
      injection this with e1 e2
      left; omega
    · have : g.pos b = some (B, base) := by rw [← h2]; exact (if_neg e).symm
      rw [h1] at this; cases this
  os := hos
  tape := ht
  output := hou
/-- A block that is there is written. -/
theorem Tr.write {B0 : Nat} {g : G} {h : H} {w w1 : World} (hr : HR B0 g h w) (b B base : Nat) (hl : live h b) (hb : b < h.next) (hp : g.pos b = some (B, base))
    (o : AObj) (hother : ∀ B', B' ≠ B → w1.heap[B']? = w.heap[B']?) (hsz : w1.heap.size = w.heap.size) (hos : w1.os = w.os) (ht : w1.tape = w.tape) (hou : w1.output = w.output)
    (hc : ∀ l t, o = .cells l t → CR g b B base l t w1)
    (hmp : ∀ es clock, o = .map es clock → base = 0 ∧ ∃ es', w1.heap[B]? = some (.map es' clock) ∧ ER g es es'.toList)
    (hsi : ∀ it, o = .sit it → base = 0 ∧ ∃ ob, w1.heap[B]? = some ob ∧ IR g it ob := by intro _ e; cases e) :
    Tr B0 g h w g (h.upd b o) w1 := by
  have hlv : ∀ x, live (h.upd b o) x → live h x := fun x ⟨o1, h1, h1'⟩ => by
    have h1 : (h.m.set b o).get x = some o1 := h1
    rw [get_set] at h1
    by_cases e : b = x
    · subst e; exact hl
    · rw [if_neg e] at h1; exact ⟨o1, h1, h1'⟩
  have hne : ∀ x X basex, x ≠ b → live h x → g.pos x = some (X, basex) → X ≠ B := fun x X basex hx hlx hpx e => by
    subst e
    exact hx (hr.inj x b X basex base hlx hl hpx hp)
  refine ⟨⟨fun x l t X basex h1 h2 => ?_, fun x es c X basex h1 h2 => ?_, fun x it X basex h1 h2 => ?_, fun x x' X b1 b2 h1 h2 h3 h4 => hr.inj x x' X b1 b2 (hlv x h1) (hlv x' h2) h3 h4, fun x X b1 h1 h2 => hr.low x X b1 (hlv x h1) h2, fun x X b1 h1 => by rw [hsz]; exact hr.bnd x X b1 h1⟩,
    .refl g, fun _ _ => ⟨rfl, rfl⟩, Nat.le_refl _, by rw [hsz]; exact Nat.le_refl _, fun X _ hno => hother X (fun e => by subst e; exact hno b base hl hp), fun x o' hx ho hg => ?_, fun x _ hx => hlv x hx, fun x hx => ?_, fun x h1 h2 => ?_, fun x X b1 h1 h2 => (by rw [h1] at h2; cases h2), hos, ht, hou⟩
  · have h1 : (h.m.set b o).get x = some (.cells l t) := h1
    rw [get_set] at h1
    by_cases e : b = x
    · subst e
      rw [if_pos rfl] at h1
      rw [hp] at h2
      injection h2 with h2
      injection h2 with e1 e2
      subst e1; subst e2
      injection h1 with h1
      exact hc l t h1
    · rw [if_neg e] at h1
      exact (hr.cells x l t X basex h1 h2).mono (.refl g) rfl (hother X (hne x X basex (fun e' => e e'.symm) ⟨_, h1, by simp⟩ h2))
  · have h1 : (h.m.set b o).get x = some (.map es c) := h1
    rw [get_set] at h1
    by_cases e : b = x
    · subst e
      rw [if_pos rfl] at h1
      rw [hp] at h2
      injection h2 with h2
      injection h2 with e1 e2
      subst e1; subst e2
      injection h1 with h1
      exact hmp es c h1
    · rw [if_neg e] at h1
      obtain ⟨e0, es', e1, e2⟩ := hr.maps x es c X basex h1 h2
      exact ⟨e0, es', (hother X (hne x X basex (fun e' => e e'.symm) ⟨_, h1, by simp⟩ h2)).trans e1, e2⟩
  · have h1 : (h.m.set b o).get x = some (.sit it) := h1
    rw [get_set] at h1
    by_cases e : b = x
    · subst e
      rw [if_pos rfl] at h1
      rw [hp] at h2
      injection h2 with h2
      injection h2 with e1 e2
      subst e1; subst e2
      injection h1 with h1
      exact hsi it h1
    · rw [if_neg e] at h1
      obtain ⟨e0, s, e1, e2⟩ := hr.sits x it X basex h1 h2
      exact ⟨e0, s, (hother X (hne x X basex (fun e' => e e'.symm) ⟨_, h1, by simp⟩ h2)).trans e1, e2⟩
  · show (h.m.set b o).get x = _
    rw [get_set, if_neg (fun e => by subst e; rw [hp] at hg; cases hg)]
    exact ho
  · have hx : h.next ≤ x := hx
    show (h.m.set b o).get x = _
    rw [get_set, if_neg (by omega)]
  · have h2 : x < h.next := h2
    omega
end Go.Proofs.YtimjbojoeacaeaaDoor.Kx
