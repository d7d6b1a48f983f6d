/- A driver, a device, the page's two rings, over two memories: all that the law's steps keep. -/

import Derived.Test.YtfffehbipcikoaaRgEqP
import Derived.Test.YtfffehbipcikoaaRgHalf
import Derived.Test.YtfffehbipcikoaaRgRest
namespace Go.Proofs.Ytfffehbipcikoaa
open Go.RowKit Go.MapKept

/-- The blocks of both sides: 0 the pair; 1 to 7 the program's driver, its flags, its two maps, the device, the memory and its bytes; 8, 9 the page's memory; 10 to 13, 14 to 17 its two rings. -/
def PL (s : Nat → Nat) : List Nat := [s 1, s 2, s 3, s 4, s 5, s 6, s 7]
def QL (s : Nat → Nat) : List Nat := [s 8, s 9, s 10, s 11, s 12, s 13, s 14, s 15, s 16, s 17]
def Inj (s : Nat → Nat) : Prop := ∀ i j, i < 18 → j < 18 → (s i = s j ↔ i = j)
theorem PL_mem {s : Nat → Nat} {k : Nat} (h : k ∈ PL s) : ∃ j, 1 ≤ j ∧ j ≤ 7 ∧ k = s j := by
  simp only [PL, List.mem_cons, List.mem_nil_iff, or_false] at h
  rcases h with h | h | h | h | h | h | h
  · exact ⟨1, by omega, by omega, h⟩
  · exact ⟨2, by omega, by omega, h⟩
  · exact ⟨3, by omega, by omega, h⟩
  · exact ⟨4, by omega, by omega, h⟩
  · exact ⟨5, by omega, by omega, h⟩
  · exact ⟨6, by omega, by omega, h⟩
  · exact ⟨7, by omega, by omega, h⟩
theorem QL_mem {s : Nat → Nat} {k : Nat} (h : k ∈ QL s) : ∃ j, 8 ≤ j ∧ j < 18 ∧ k = s j := by
  simp only [QL, List.mem_cons, List.mem_nil_iff, or_false] at h
  rcases h with h | h | h | h | h | h | h | h | h | h
  · exact ⟨8, by omega, by omega, h⟩
  · exact ⟨9, by omega, by omega, h⟩
  · exact ⟨10, by omega, by omega, h⟩
  · exact ⟨11, by omega, by omega, h⟩
  · exact ⟨12, by omega, by omega, h⟩
  · exact ⟨13, by omega, by omega, h⟩
  · exact ⟨14, by omega, by omega, h⟩
  · exact ⟨15, by omega, by omega, h⟩
  · exact ⟨16, by omega, by omega, h⟩
  · exact ⟨17, by omega, by omega, h⟩
def halCells (s : Nat → Nat) (hv : Value) : List Value := [.pointer (some ⟨s 6, 0, none⟩), .pointer (some ⟨s 1, 0, none⟩), .pointer (some ⟨s 5, 0, none⟩), .pointer (some ⟨s 8, 0, none⟩), .pointer (some ⟨s 10, 0, none⟩), .pointer (some ⟨s 14, 0, none⟩), hv]
/-- The program's numbers. -/
structure PN where
  B : List UInt8
  brD : Bool
  brV : Bool
  bz : List Bool
  wy : List (Int × List Nat)
  ls : List (Int × Int)
  wrt : Nat
  rdD : Nat
  wrV : Nat
  rdV : Nat
/-- The page's. -/
structure RN where
  B : List UInt8
  brD : Bool
  brV : Bool
  tk : List Bool
  ch : List (List Nat)
  ws : List Int
  wrt : Nat
  rdD : Nat
  wrV : Nat
  rdV : Nat
  F : List Nat
structure JC (w : World) (base : Nat) (s : Nat → Nat) (q : Nat) (hv : Value) (hs : List Nat) (p : PN) (r : RN) : Prop where
  inj : Inj s
  isq : 1 ≤ q ∧ q ≤ 64
  old : ∀ i, i < 18 → base ≤ s i ∧ s i < w.heap.size
  hal : Whole w (s 0) 138 (halCells s hv)
  heads : Row w base 3 1 hv hs.length (i64s hs)
  hvn : ∀ k, hv.ownBlock = some k → (∀ i, i < 18 → k ≠ s i) ∧ k ∉ r.F ∧ NoRow w (s 3) k
  mem : MemAt 114 w (s 6) (s 7) p.B
  drv : DrvAt w (s 1) (s 2) (s 3) (s 4) (s 6) q p.brD p.wrt p.rdD p.bz p.wy p.ls
  dev : DevAt w (s 5) (s 6) q p.brV p.wrV p.rdV
  rmem : MemAt 52 w (s 8) (s 9) r.B
  r1 : RefAt w (s 10) (s 11) (s 12) (s 13) (s 8) q r.brD r.wrt r.rdD r.tk r.ch r.ws r.F
  r2 : ∃ tk ch ws, RefAt w (s 14) (s 15) (s 16) (s 17) (s 8) q r.brV r.wrV r.rdV tk ch ws []
  fn : ∀ k ∈ r.F, k < w.heap.size ∧ ∀ i, i < 18 → k ≠ s i
  nor : ∀ i, i < 18 → NoRow w (s 3) (s i)
  lenB : p.B.length ≤ 65536 ∧ r.B.length ≤ 65536
  smallP : p.wrt ≤ 65535 ∧ p.rdD ≤ 65535 ∧ p.wrV ≤ 65535 ∧ p.rdV ≤ 65535
  smallR : r.wrt ≤ 65535 ∧ r.rdD ≤ 65535 ∧ r.wrV ≤ 65535 ∧ r.rdV ≤ 65535
  hsm : ∀ x ∈ hs, x ≤ 65535
/-- Both keep the same books. -/
def Same (q : Nat) (p : PN) (r : RN) : Prop :=
  r.B = p.B ∧ r.brD = p.brD ∧ r.brV = p.brV ∧ r.tk = p.bz ∧ r.wrt = p.wrt ∧ r.rdD = p.rdD ∧ r.wrV = p.wrV ∧ r.rdV = p.rdV ∧ ∃ A, Both q p.bz p.wy p.ls r.ch r.ws A
def JX (w : World) (base : Nat) (s : Nat → Nat) (q : Nat) (hv : Value) (hs : List Nat) : Prop := ∃ p r, JC w base s q hv hs p r ∧ Same q p r
theorem way_blocks' {w : World} : ∀ {W : List (Int × Value)} {wy : List (Int × List Nat)}, WayAt w W wy → ∀ p ∈ W, ∀ k, p.2.ownBlock = some k → k < w.heap.size
  | [], _, _, p, hp => by simp at hp
  | a :: W, [], hA, _, _ => absurd hA (by simp [WayAt])
  | a :: W, b :: wy, ⟨_, h2, h3⟩, p, hp => by
    intro k hk
    rcases List.mem_cons.1 hp with rfl | hp
    · exact (World.ownsRow.lt h2 k hk).2
    · exact way_blocks' h3 p hp k hk
section
variable {w w' : World} {base q : Nat} {s : Nat → Nat} {hv : Value} {hs : List Nat} {p p' : PN} {r r' : RN}
theorem JC.ne (h : JC w base s q hv hs p r) {i j : Nat} (hi : i < 18) (hj : j < 18) (hn : i ≠ j) : s i ≠ s j := fun e => hn ((h.inj i j hi hj).1 e)
theorem JC.hv_lt (h : JC w base s q hv hs p r) {k : Nat} (hk : hv.ownBlock = some k) : base ≤ k ∧ k < w.heap.size := h.heads.lt hk
/-- The program's side has moved. -/
theorem JC.prog (h : JC w base s q hv hs p r) (hl : Left (PL s) w w') (hm : MemAt 114 w' (s 6) (s 7) p'.B) (hd : DrvAt w' (s 1) (s 2) (s 3) (s 4) (s 6) q p'.brD p'.wrt p'.rdD p'.bz p'.wy p'.ls) (hv' : DevAt w' (s 5) (s 6) q p'.brV p'.wrV p'.rdV)
    (hn : ∀ k, k < w.heap.size → NoRow w (s 3) k → NoRow w' (s 3) k) (hB : p'.B.length ≤ 65536) (hsm : p'.wrt ≤ 65535 ∧ p'.rdD ≤ 65535 ∧ p'.wrV ≤ 65535 ∧ p'.rdV ≤ 65535) : JC w' base s q hv hs p' r := by
  have hz := hl.size
  have hno : ∀ i, i < 18 → (i = 0 ∨ 8 ≤ i) → s i ∉ PL s := fun i hi h2 hm => by
    obtain ⟨j, h3, h4, e⟩ := PL_mem hm
    have := (h.inj i j hi (by omega)).1 e
    omega
  have hF : ∀ k ∈ PL s, k ∉ r.F := fun k hk hm => by
    obtain ⟨j, h3, h4, e⟩ := PL_mem hk
    exact (h.fn k hm).2 j (by omega) e
  obtain ⟨tk, ch, ws, h2⟩ := h.r2
  refine ⟨h.inj, h.isq, fun i hi => ⟨(h.old i hi).1, by have := (h.old i hi).2; omega⟩, h.hal.left hl (hno 0 (by omega) (by omega)), h.heads.left hl (fun k hk e => ?_), fun k hk => ?_, hm, hd, hv', h.rmem.left hl (hno 8 (by omega) (by omega)) (hno 9 (by omega) (by omega)),
    h.r1.left hl (hno 10 (by omega) (by omega)) (hno 11 (by omega) (by omega)) (hno 12 (by omega) (by omega)) (hno 13 (by omega) (by omega)) hF,
    ⟨tk, ch, ws, h2.left hl (hno 14 (by omega) (by omega)) (hno 15 (by omega) (by omega)) (hno 16 (by omega) (by omega)) (hno 17 (by omega) (by omega)) (by simp)⟩, fun k hk => ⟨by have := (h.fn k hk).1; omega, (h.fn k hk).2⟩, fun i hi => hn _ (h.old i hi).2 (h.nor i hi), ⟨hB, h.lenB.2⟩, hsm, h.smallR, h.hsm⟩
  · obtain ⟨j, h3, h4, e'⟩ := PL_mem hk
    exact (h.hvn k e).1 j (by omega) e'
  · obtain ⟨a, b, c⟩ := h.hvn k hk
    exact ⟨a, b, hn k (h.hv_lt hk).2 c⟩
/-- The page's side has moved. -/
theorem JC.page (h : JC w base s q hv hs p r) (hl : Left (QL s) w w') (hm : MemAt 52 w' (s 8) (s 9) r'.B) (h1 : RefAt w' (s 10) (s 11) (s 12) (s 13) (s 8) q r'.brD r'.wrt r'.rdD r'.tk r'.ch r'.ws r'.F) (h2 : ∃ tk ch ws, RefAt w' (s 14) (s 15) (s 16) (s 17) (s 8) q r'.brV r'.wrV r'.rdV tk ch ws [])
    (hF : ∀ k ∈ r'.F, k ∈ r.F ∨ w.heap.size ≤ k) (hF2 : ∀ k ∈ r'.F, k < w'.heap.size) (hB : r'.B.length ≤ 65536) (hsm : r'.wrt ≤ 65535 ∧ r'.rdD ≤ 65535 ∧ r'.wrV ≤ 65535 ∧ r'.rdV ≤ 65535) : JC w' base s q hv hs p r' := by
  have hz := hl.size
  have hno : ∀ i, i < 8 → s i ∉ QL s := fun i hi hm => by
    obtain ⟨j, h3, h4, e⟩ := QL_mem hm
    have := (h.inj i j (by omega) h4).1 e
    omega
  have hN : ∀ k, NoRow w (s 3) k → NoRow w' (s 3) k := fun k hk => hk.left hl (hno 3 (by omega)) (h.old 3 (by omega)).2
  have hNo : ∀ k ∈ QL s, NoRow w (s 3) k := fun k hk => by
    obtain ⟨j, h3, h4, e⟩ := QL_mem hk
    exact e ▸ h.nor j h4
  refine ⟨h.inj, h.isq, fun i hi => ⟨(h.old i hi).1, by have := (h.old i hi).2; omega⟩, h.hal.left hl (hno 0 (by omega)), h.heads.left hl (fun k hk e => ?_), fun k hk => ?_, h.mem.left hl (hno 6 (by omega)) (hno 7 (by omega)),
    h.drv.leftB hl hNo (hno 1 (by omega)) (hno 2 (by omega)) (hno 3 (by omega)) (hno 4 (by omega)), h.dev.left hl (hno 5 (by omega)), hm, h1, h2, fun k hk => ⟨hF2 k hk, fun i hi e => ?_⟩, fun i hi => hN _ (h.nor i hi), ⟨h.lenB.1, hB⟩, h.smallP, hsm, h.hsm⟩
  · obtain ⟨j, h3, h4, e'⟩ := QL_mem hk
    exact (h.hvn k e).1 j h4 e'
  · obtain ⟨a, b, c⟩ := h.hvn k hk
    refine ⟨a, fun hm => ?_, hN k c⟩
    rcases hF k hm with h5 | h5
    · exact b h5
    · have := (h.hv_lt hk).2
      omega
  · rcases hF k hk with h5 | h5
    · exact (h.fn k h5).2 i hi e
    · have := (h.old i hi).2
      omega
theorem JC.left0 (h : JC w base s q hv hs p r) (hl : Left [] w w') : JC w' base s q hv hs p r := by
  have hl' := hl.mono (T := PL s) (by simp)
  exact h.prog hl' (h.mem.left hl (by simp) (by simp)) (h.drv.left hl (by simp) (by simp) (by simp) (by simp) (by simp)) (h.dev.left hl (by simp)) (fun k hk hn => hn.left hl (by simp) (h.old 3 (by omega)).2) h.lenB.1 h.smallP
theorem JC.leftB (h : JC w base s q hv hs p r) {S : List Nat} (hl : Left S w w') (hS : ∀ k ∈ S, (∀ i, i < 18 → k ≠ s i) ∧ k ∉ r.F ∧ NoRow w (s 3) k ∧ hv.ownBlock ≠ some k) : JC w' base s q hv hs p r := by
  have hz := hl.size
  have hno : ∀ i, i < 18 → s i ∉ S := fun i hi hm => (hS _ hm).1 i hi rfl
  have hN : ∀ k, NoRow w (s 3) k → NoRow w' (s 3) k := fun k hk => hk.left hl (hno 3 (by omega)) (h.old 3 (by omega)).2
  obtain ⟨tk, ch, ws, h2⟩ := h.r2
  refine ⟨h.inj, h.isq, fun i hi => ⟨(h.old i hi).1, by have := (h.old i hi).2; omega⟩, h.hal.left hl (hno 0 (by omega)), h.heads.left hl (fun k hk => (hS k hk).2.2.2), fun k hk => ?_, h.mem.left hl (hno 6 (by omega)) (hno 7 (by omega)),
    h.drv.leftB hl (fun k hk => (hS k hk).2.2.1) (hno 1 (by omega)) (hno 2 (by omega)) (hno 3 (by omega)) (hno 4 (by omega)), h.dev.left hl (hno 5 (by omega)), h.rmem.left hl (hno 8 (by omega)) (hno 9 (by omega)),
    h.r1.left hl (hno 10 (by omega)) (hno 11 (by omega)) (hno 12 (by omega)) (hno 13 (by omega)) (fun k hk => (hS k hk).2.1),
    ⟨tk, ch, ws, h2.left hl (hno 14 (by omega)) (hno 15 (by omega)) (hno 16 (by omega)) (hno 17 (by omega)) (by simp)⟩, fun k hk => ⟨by have := (h.fn k hk).1; omega, (h.fn k hk).2⟩, fun i hi => hN _ (h.nor i hi), h.lenB, h.smallP, h.smallR, h.hsm⟩
  obtain ⟨a, b, c⟩ := h.hvn k hk
  exact ⟨a, b, hN k c⟩
/-- All that is kept lies below block N. -/
structure Bel (N : Nat) (w : World) (s : Nat → Nat) (hv : Value) (r : RN) : Prop where
  f : ∀ k ∈ r.F, k < N
  row : ∀ k, N ≤ k → NoRow w (s 3) k
  at_ : ∀ i, i < 18 → s i < N
  hv_ : ∀ k, hv.ownBlock = some k → k < N
theorem JC.bel (h : JC w base s q hv hs p r) : Bel w.heap.size w s hv r := by
  refine ⟨fun k hk => (h.fn k hk).1, fun k hk W' hW' x hx e => ?_, fun i hi => (h.old i hi).2, fun k hk => (h.hv_lt hk).2⟩
  obtain ⟨W, hW, hA⟩ := h.drv.way
  rw [imap_uniq hW' hW] at hx
  have := way_blocks' hA x hx k e
  omega
theorem Bel.left {N : Nat} (hb : Bel N w s hv r) {S : List Nat} (hl : Left S w w') (h3 : s 3 ∉ S) (hlt : s 3 < w.heap.size) : Bel N w' s hv r :=
  ⟨hb.f, fun k hk => (hb.row k hk).left hl h3 hlt, hb.at_, hb.hv_⟩
theorem JC.belowN (h : JC w base s q hv hs p r) {N : Nat} (hb : Bel N w s hv r) (hw : Below N w w') : JC w' base s q hv hs p r := by
  have hl : Left (List.range' N (w.heap.size - N)) w w' := ⟨hw.os, hw.tape, hw.output, hw.size, fun k hk hn => hw.block k (by
    rcases Nat.lt_or_ge k N with h | h
    · exact h
    · exact absurd (List.mem_range'_1.2 ⟨h, by omega⟩) hn)⟩
  refine h.leftB hl (fun k hk => ?_)
  have hk' := (List.mem_range'_1.1 hk).1
  exact ⟨fun i hi e => by have := hb.at_ i hi; omega, fun hm => by have := hb.f k hm; omega, hb.row k hk', fun e => by have := hb.hv_ k e; omega⟩
def JNb (N : Nat) (w : World) (base : Nat) (s : Nat → Nat) (q : Nat) (hv : Value) (hs : List Nat) : Prop := ∃ p r, JC w base s q hv hs p r ∧ Same q p r ∧ Bel N w s hv r
theorem JX.toN (h : JX w base s q hv hs) : JNb w.heap.size w base s q hv hs := by
  obtain ⟨p, r, h1, h2⟩ := h
  exact ⟨p, r, h1, h2, h1.bel⟩
theorem JNb.toX {N : Nat} (h : JNb N w base s q hv hs) : JX w base s q hv hs := by
  obtain ⟨p, r, h1, h2, _⟩ := h
  exact ⟨p, r, h1, h2⟩
theorem JNb.below {N : Nat} (h : JNb N w base s q hv hs) (hw : Below N w w') : JX w' base s q hv hs := by
  obtain ⟨p, r, h1, h2, h3⟩ := h
  exact ⟨p, r, h1.belowN h3 hw, h2⟩
theorem JNb.left0 {N : Nat} (h : JNb N w base s q hv hs) (hl : Left [] w w') : JNb N w' base s q hv hs := by
  obtain ⟨p, r, h1, h2, h3⟩ := h
  exact ⟨p, r, h1.left0 hl, h2, h3.left hl (by simp) (h1.old 3 (by omega)).2⟩
theorem JX.left0 (h : JX w base s q hv hs) (hl : Left [] w w') : JX w' base s q hv hs := by
  obtain ⟨p, r, h1, h2⟩ := h
  exact ⟨p, r, h1.left0 hl, h2⟩
end
end Go.Proofs.Ytfffehbipcikoaa
