/- What every law's row shares: from 'Below' to the row's post. Arguments opened to cells: slices of structs of one-cell fields, slices of bytes; lists out of 'for every index there is one'. Over any program. Arguments opened, with what the reach says of each part. Over any program. Brokers as an argument: how they lie in memory. Lists of bytes as an argument. The page's own: rising numbers, numbers between, a will that may be. -/
import Derived.Test.YtlehkaibbkblkaaGreatDoorGa
import Derived.ProofKit
import Derived.OpenShut
import Derived.SizedLaws
import Derived.Deep.Slices
import Derived.Deep.Fields
import Derived.Lib.SmallJoins
import Derived.Test.YtlehkaibbkblkaaGreatDoorRcWei
import Derived.Test.YtlehkaibbkblkaaGreatDoorRcMay1
namespace Go.Proofs.YtlehkaibbkblkaaGreatDoor
open Go.ChangeShapes Go.WideShapes Go.ChangeAt Go.RowKit

/-- A law of one argument that returned, and left what was there alone: the row's post (its results and its argument read as said). -/
theorem ds_post {H : Type} {enc : TypeId × Value → H} {P : Program} {f : Func} {s : ChangeSpec} {W W' : World} {args : Array Value} {v : Value} {ds : List (DataW H)} {before : List MemPlace}
    (hW : DataW.Whole enc P f.params.toList s.vars false W args.toList ds [] before)
    (hres : ∀ (b : Nat) (sp : Nat → Bool) (hd : Bool), DataW.TrodAll enc P W' b sp hd f.resultTypes.toList (v.resultList f.resultTypes.size) (s.fn H (ds ++ [])).results [])
    (hargs : DataW.TrodAll enc P W' 0 (fun b => decide (b < W.heap.size)) true f.params.toList args.toList (s.fn H (ds ++ [])).args before)
    (hvars : DataW.TrodVars enc P W' (fun b => decide (b < W.heap.size)) s.vars (s.fn H (ds ++ [])).vars [])
    (hb : Below W.heap.size W W') : s.post enc P f false true false false W args v W' := by
  refine ⟨ds, [], before, [], before, [], hW, hres _ _ _, hargs, hvars, World.keptBut_mono (fun p hp => ⟨hp, ?_⟩) (hb.frame (· ∈ before)), fun h => by cases h⟩
  exact Or.inr (by simpa using hp)

theorem spot_none {w : World} {a : Addr} {v : Value} (h : w.cell? a = some v) : a.spot = none := by
  cases hs : a.spot with
  | none => rfl
  | some x =>
    unfold World.cell? at h
    split at h <;> simp [hs] at h
end Go.Proofs.YtlehkaibbkblkaaGreatDoor
namespace Go.Proofs.YtlehkaibbkblkaaGreatDoor
open Go.ChangeShapes Go.WideShapes Go.Deep Go.RowKit

theorem list_of_all {α : Type} {P : Nat → α → Prop} (n : Nat) (h : ∀ i, i < n → ∃ x, P i x) : ∃ l : List α, l.length = n ∧ ∀ i x, l[i]? = some x → P i x := by
  induction n with
  | zero => exact ⟨[], rfl, fun i x hx => by simp at hx⟩
  | succ n ih =>
    obtain ⟨l, hl, hp⟩ := ih (fun i hi => h i (by omega))
    obtain ⟨y, hy⟩ := h n (by omega)
    refine ⟨l ++ [y], by simp [hl], fun i x hx => ?_⟩
    by_cases hi : i < n
    · rw [List.getElem?_append_left (by omega)] at hx
      exact hp i x hx
    · have hlt : i < (l ++ [y]).length := (List.getElem?_eq_some_iff.1 hx).1
      have he : i = n := by simp at hlt; omega
      subst he
      rw [List.getElem?_append_right (by omega), hl, Nat.sub_self] at hx
      simp at hx
      exact hx ▸ hy

section
variable {H : Type} {enc : TypeId × Value → H} {P : Program} {w : World} {spare : Nat → Bool} {held : Bool}

/-- A slice of bytes reads as a list. -/
theorem open_bytes {t e : TypeId} {fuel : Nat} {v : Value} {x : DataW H × List MemPlace} (ht : P.underlying t = some (.slice e)) (he : P.underlying e = some (.int .u8)) (hc : P.cellsOf e = 1)
    (h : DataW.trod enc P w 0 spare held fuel t [v] = some x) : ∃ L : List UInt8, Rd w w.heap.size 1 v L.length (u8s L) := by
  rcases open_ints ht he hc h with ⟨hcs, _⟩ | ⟨a, len, cap, zs, hcs, _, hl, hm, hz, _, hcell, hwf⟩
  · injection hcs with hcs
    subst hcs
    exact ⟨[], Rd.nil_ _ _ _⟩
  · injection hcs with hcs
    subst hcs
    have hzl : len ≤ zs.length := by rw [hz]; split <;> omega
    have hlen : ((zs.take len).map fun z => UInt8.ofNat z.toNat).length = len := by simp; omega
    refine ⟨(zs.take len).map fun z => UInt8.ofNat z.toNat, ?_⟩
    rw [hlen]
    refine ⟨by rw [u8s_length, hlen]; omega, some a, cap, rfl, hl, hm, (fun e => by cases e), fun hn => ?_⟩
    have hs : a.spot = none := by
      have h0 := hcell 0 (by omega)
      simp only [Addr.add, if_true] at h0
      exact spot_none h0
    obtain ⟨b, o, s⟩ := a
    simp only at hs
    subst hs
    refine ⟨b, o, rfl, ?_, fun j u hu => ?_⟩
    · have := World.block_lt_of_cell? w _ (hcell 0 (by omega))
      simpa [add_flat] using this
    · have hj : j < len := by
        have := (List.getElem?_eq_some_iff.1 hu).1
        rw [u8s_length, hlen] at this
        exact this
      have h1 := hcell j (by omega)
      rw [add_flat] at h1
      rw [h1, ← hu]
      have hw := hwf (zs.getD j 0) (by rw [List.getD_eq_getElem?_getD, List.getElem?_eq_getElem (by omega)]; exact List.getElem_mem _)
      have hr : 0 ≤ zs.getD j 0 ∧ zs.getD j 0 ≤ 255 := by simpa [Lit.wf, IntKind.min, IntKind.max, IntKind.signed, IntKind.bits] using hw
      simp only [u8s, List.getElem?_map, List.getElem?_take, if_pos hj, List.getElem?_eq_getElem (show j < zs.length by omega), Option.map_some]
      rw [List.getD_eq_getElem?_getD, List.getElem?_eq_getElem (show j < zs.length by omega)] at hr ⊢
      simp only [Option.getD_some] at hr ⊢
      congr 2
      simp
      omega
end
end Go.Proofs.YtlehkaibbkblkaaGreatDoor
namespace Go.Proofs.YtlehkaibbkblkaaGreatDoor
open Go.ChangeShapes Go.WideShapes Go.Deep Go.RowKit

section
variable {H : Type} {enc : TypeId × Value → H} {P : Program} {w : World} {spare : Nat → Bool} {held : Bool}
/-- All that is read takes no more than the reach. -/
def Rch (P : Program) (t : TypeId) (d : DataW H) : Prop := ∀ n ∈ d.weights P t, n ≤ reachBytes
theorem mem_all {e : TypeId} : ∀ {l : List (DataW H)} {d : DataW H}, d ∈ l → ∀ n ∈ d.weights P e, n ∈ DataW.weightsAll P e l
  | x :: r, d, hd, n, hn => by
    simp only [DataW.weightsAll, List.mem_append]
    rcases List.mem_cons.1 hd with rfl | h
    · exact .inl hn
    · exact .inr (mem_all h n hn)
theorem rch_elem {t e : TypeId} {el sp : List (DataW H)} {d : DataW H} (ht : P.underlying t = some (.slice e)) (h : Rch P t (.slice el sp)) (hd : d ∈ el) : Rch P e d := fun n hn =>
  h n (by simp only [DataW.weights, ht, List.mem_cons, List.mem_append]; exact .inr (.inl (mem_all hd n hn)))
theorem rch_len {t e : TypeId} {el sp : List (DataW H)} (ht : P.underlying t = some (.slice e)) (h : Rch P t (.slice el sp)) : (el.length + sp.length) * P.bytesOf e ≤ reachBytes :=
  h _ (by simp [DataW.weights, ht])
theorem rch_arg {t : TypeId} {d : DataW H} (h : (DataW.weightsEach P ([t] ++ []) ([d] ++ [])).all (· ≤ reachBytes) = true) : Rch P t d := fun n hn => by
  have := List.all_eq_true.1 h n (by simp [DataW.weightsEach]; exact hn)
  simpa using this

/-- The elements of a slice, each with its cells. -/
theorem open_elems {t e : TypeId} {fuel : Nat} {cs : List Value} {x : DataW H × List MemPlace} (ht : P.underlying t = some (.slice e)) (hpos : 0 < P.cellsOf e)
    (h : DataW.trod enc P w 0 spare held fuel t cs = some x) (hr : Rch P t x.1) :
    cs = [.slice none 0 0] ∨
    ∃ (a : Addr) (len cap : Nat), cs = [.slice (some a) len cap] ∧ len ≤ cap ∧ cap ≤ maxLen ∧ len * P.bytesOf e ≤ reachBytes ∧
      ∀ i, i < len → a.spot = none ∧ ∃ (vs : List Value) (n : Nat) (y : DataW H × List MemPlace), vs.length = P.cellsOf e ∧ (∀ j, j < P.cellsOf e → w.cell? ⟨a.block, a.off + (i * P.cellsOf e + j), none⟩ = vs[j]?) ∧
        DataW.trod enc P w 0 spare held n e vs = some y ∧ Rch P e y.1 := by
  rcases open_slice ht h with h0 | ⟨a, len, cap, m, n, D, Pl, hcs, _, hl, hm, hmm, hx, hi⟩
  · exact .inl h0.1
  have hlm : len ≤ m := by rw [hmm]; split <;> omega
  rw [hx] at hr
  have hlen := rch_len ht hr
  simp only [List.length_map, List.length_range] at hlen
  have hle : len * P.bytesOf e ≤ reachBytes := Nat.le_trans (Nat.mul_le_mul_right _ (Nat.le_add_right _ _)) hlen
  refine .inr ⟨a, len, cap, hcs, hl, hm, hle, fun i him => ?_⟩
  have hrow : ∀ i, i < m → ∃ vs : List Value, vs.length = P.cellsOf e ∧ (∀ j, j < P.cellsOf e → w.cell? (a.add (i * P.cellsOf e + j)) = vs[j]?) ∧ DataW.trod enc P w 0 spare held n e vs = some (D i, Pl i) := by
    intro i him
    obtain ⟨vs, hc, htr⟩ := hi i him
    obtain ⟨_, hcl, hat⟩ := World.cells?_some hc
    exact ⟨vs, hcl, fun j hj => by rw [← hat j hj, Go.Deep.add_add], htr⟩
  have hs : a.spot = none := by
    obtain ⟨vs, hcl, hat, _⟩ := hrow 0 (by omega)
    have h0 := hat 0 hpos
    rw [List.getElem?_eq_getElem (by omega)] at h0
    simp only [Nat.zero_mul, Nat.add_zero, Addr.add, if_true] at h0
    exact spot_none h0
  obtain ⟨vs, hcl, hat, htr⟩ := hrow i (by omega)
  refine ⟨hs, vs, n, _, hcl, fun j hj => ?_, htr, rch_elem ht hr (List.mem_map.2 ⟨i, List.mem_range.2 him, rfl⟩)⟩
  rw [← hat j hj]
  obtain ⟨b, o, s⟩ := a
  simp only at hs
  subst hs
  rw [add_flat]

end
end Go.Proofs.YtlehkaibbkblkaaGreatDoor
namespace Go.Proofs.YtlehkaibbkblkaaGreatDoor
open Go.ChangeShapes Go.WideShapes Go.Deep Go.RowKit
theorem reach_RR : reachBytes ≤ RR := by unfold reachBytes RR; omega
section
variable {H : Type} {enc : TypeId × Value → H} {w : World} {spare : Nat → Bool} {held : Bool}
/-- A row of things, opened. -/
theorem open_list {α : Type} (E : Enc α) (Q : α → Prop) {t e : TypeId} {fuel : Nat} {v : Value} {x : DataW H × List MemPlace} (ht : Tryz.prog.underlying t = some (.slice e)) (hc : Tryz.prog.cellsOf e = E.sz) (hpos : 0 < E.sz) (hby : 0 < Tryz.prog.bytesOf e)
    (hp : ∀ {fuel : Nat} {cs : List Value} {x : DataW H × List MemPlace}, DataW.trod enc Tryz.prog w 0 spare held fuel e cs = some x → Rch Tryz.prog e x.1 → ∃ a : α, cs = E.c a ∧ Q a)
    (h : DataW.trod enc Tryz.prog w 0 spare held fuel t [v] = some x) (hr : Rch Tryz.prog t x.1) : ∃ L : List α, Rd w w.heap.size E.sz v L.length (E.cells L) ∧ L.length ≤ RR ∧ ∀ a ∈ L, Q a := by
  rcases open_elems ht (by rw [hc]; exact hpos) h hr with h | ⟨a, len, cap, hcs, hl, hm, hle, hrow⟩
  · injection h with h
    subst h
    exact ⟨[], Rd.nil_ _ _ _, by simp, by simp⟩
  · injection hcs with hcs
    subst hcs
    rw [hc] at hrow
    have hex : ∀ i, i < len → ∃ q : α, (a.spot = none ∧ ∀ j, j < E.sz → w.cell? ⟨a.block, a.off + (i * E.sz + j), none⟩ = (E.c q)[j]?) ∧ Q q := by
      intro i hi
      obtain ⟨hs, vs, m, y, hvl, hcell, htr, hry⟩ := hrow i hi
      obtain ⟨q, rfl, hq⟩ := hp htr hry
      exact ⟨q, ⟨hs, hcell⟩, hq⟩
    obtain ⟨L, hal, hL⟩ := list_of_all len hex
    have hle2 : len ≤ reachBytes := Nat.le_trans (Nat.le_mul_of_pos_right _ hby) hle
    refine ⟨L, ⟨E.cells_length L, some a, cap, by rw [hal], by omega, hm, (fun e => by cases e), fun hn => ?_⟩, by rw [hal]; exact Nat.le_trans hle2 reach_RR, fun q hq => ?_⟩
    · obtain ⟨⟨hs, hat⟩, _⟩ := hL 0 _ (List.getElem?_eq_getElem hn)
      obtain ⟨b, o, s⟩ := a
      simp only at hs
      subst hs
      have hlt : b < w.heap.size := by
        have h0 := hat 0 hpos
        rw [List.getElem?_eq_getElem (by rw [E.len]; exact hpos)] at h0
        exact World.block_lt_of_cell? w _ h0
      refine ⟨b, o, rfl, hlt, fun k u hu => ?_⟩
      have hk : k < (E.cells L).length := (List.getElem?_eq_some_iff.1 hu).1
      rw [E.cells_length] at hk
      have hkl : k / E.sz < L.length := Nat.div_lt_of_lt_mul (by rw [Nat.mul_comm]; exact hk)
      have hkm : k % E.sz < E.sz := Nat.mod_lt _ hpos
      have e : k = k / E.sz * E.sz + k % E.sz := by rw [Nat.mul_comm]; exact (Nat.div_add_mod k E.sz).symm
      obtain ⟨⟨_, hq⟩, _⟩ := hL (k / E.sz) _ (List.getElem?_eq_getElem hkl)
      have h1 := E.cells_at L (k / E.sz) _ (k % E.sz) (List.getElem?_eq_getElem hkl) hkm
      rw [← e, hu] at h1
      have h2 := hq (k % E.sz) hkm
      rw [← e, ← h1] at h2
      exact h2
    · obtain ⟨j, hj⟩ := List.getElem?_of_mem hq
      exact (hL j q hj).2
end
/-- A broker, with where it lies. -/
structure RB where
  b : Br
  R : List Rs
  la : Option Addr
  lc : Nat
  sa : Option Addr
  sc : Nat
  ka : Option Addr
  kc : Nat
section
variable {H : Type} {enc : TypeId × Value → H} {w : World} {spare : Nat → Bool} {held : Bool}
end
end Go.Proofs.YtlehkaibbkblkaaGreatDoor
namespace Go.Proofs.YtlehkaibbkblkaaGreatDoor
open Go.ChangeShapes Go.WideShapes Go.Deep Go.RowKit
/-- Bytes, with where they lie. -/
structure BY where
  x : List UInt8
  a : Option Addr
  c : Nat
def eBY : Enc BY := ⟨fun y => [.slice y.a y.x.length y.c], 1, fun _ => rfl, fun y u hu => by
  simp only [List.mem_cons, List.mem_nil_iff, or_false] at hu
  rcases hu with rfl <;> rfl⟩
theorem cellsU8 : Tryz.prog.cellsOf 5 = 1 := by kernel_rfl
theorem cellsBS : Tryz.prog.cellsOf 23 = 1 := by kernel_rfl
section
variable {H : Type} {enc : TypeId × Value → H} {w : World} {spare : Nat → Bool} {held : Bool}
theorem parse_bs {fuel : Nat} {cs : List Value} {x : DataW H × List MemPlace} (h : DataW.trod enc Tryz.prog w 0 spare held fuel 23 cs = some x) (hr : Rch Tryz.prog 23 x.1) :
    ∃ y : BY, cs = eBY.c y ∧ Rd w w.heap.size 1 (.slice y.a y.x.length y.c) y.x.length (u8s y.x) := by
  have hv : ∃ v, cs = [v] := by
    rcases open_elems Tryz.underlying23 (by rw [cellsU8]; decide) h hr with e | ⟨a, len, cap, e, _⟩
    · exact ⟨_, e⟩
    · exact ⟨_, e⟩
  obtain ⟨v, rfl⟩ := hv
  obtain ⟨L, hL⟩ := open_bytes Tryz.underlying23 Tryz.underlying5 cellsU8 h
  obtain ⟨a, c, rfl, _, _⟩ := hL.form
  exact ⟨⟨L, a, c⟩, rfl, hL⟩
set_option maxRecDepth 100000 in
/-- An argument of type [][]byte, opened. -/
theorem open_bss {base : Nat} {v : Value} {d : DataW H} {p : List MemPlace} (hv : Value.okWide Tryz.prog w .any base 22 v) (h0 : DataW.Trod enc Tryz.prog w 0 spare held 22 v d p) (hr : Rch Tryz.prog 22 d) :
    ∃ L : List BY, Rd w w.heap.size 1 v L.length (eBY.cells L) ∧ ∀ y ∈ L, Rd w w.heap.size 1 (.slice y.a y.x.length y.c) y.x.length (u8s y.x) := by
  obtain ⟨fuel, hf⟩ := h0
  obtain ⟨a0, len, cap, rfl⟩ := okWide_slice Tryz.underlying22 hv
  have hf' : DataW.trod enc Tryz.prog w 0 spare held fuel 22 [.slice a0 len cap] = some (d, p) := hf
  obtain ⟨L, h1, _, h2⟩ := open_list eBY (fun y : BY => Rd w w.heap.size 1 (.slice y.a y.x.length y.c) y.x.length (u8s y.x)) Tryz.underlying22 cellsBS (by decide) (by decide +kernel) parse_bs hf' hr
  exact ⟨L, h1, h2⟩
end
end Go.Proofs.YtlehkaibbkblkaaGreatDoor
namespace Go.Proofs.YtlehkaibbkblkaaGreatDoor
open Go.RowKit Go.Shelf Go.Proofs
/-- Above the one ahead. -/
def riseAt (L : List Int) (k : Nat) (x : Int) : Prop := ∀ j y, j + 1 = k → L[j]? = some y → y < x
def riseOk (L : List Int) : Prop := ∀ k x, L[k]? = some x → riseAt L k x
def betw (L : List Int) (a b : Int) : Prop := ∀ x ∈ L, a ≤ x ∧ x ≤ b
theorem nums_any (n m : Int) (w : World) : Calls Tryz.prog 53 #[.int .i64 n, .int .i64 m] w fun e w' => e = .returned (.bool (decide (0 ≤ n) && decide (n ≤ m))) ∧ w = w' := by
  by_cases h : 0 ≤ n
  · go_enter Tryz.func53, Tryz.ntmps53
    go_wp2
    go_ret
    exact ⟨by simp [h], rfl⟩
  · go_enter Tryz.func53, Tryz.ntmps53
    go_wp2
    go_ret
    exact ⟨by rw [decide_eq_false (show ¬ 0 ≤ n by omega)]; rfl, rfl⟩
set_option maxRecDepth 20000 in
set_option maxHeartbeats 1000000 in
theorem Rising_any (w : World) (v : Value) (L : List Int) (Bd : Nat) (h : Rd w Bd 1 v L.length (eI.cells L)) (hn : L.length ≤ 281474976710656) :
    Calls Tryz.prog 35 #[v] w fun e w' => e = .returned (.bool (yes (riseOk L))) ∧ Below w.heap.size w w' := by
  obtain ⟨ao, cap, rfl, hc, hm⟩ := h.form
  have hc2 : cap ≤ 9223372036854775807 := by unfold maxLen at hm; omega
  have H := Lib.hid h
  clear h hm
  go_enter Tryz.func35, Tryz.ntmps35
  go_wp2
  go_loopw [3] (fun i wr => ∃ k : Nat, i = .int .i64 k ∧ 1 ≤ k ∧ (∃ nd, wr = w.drewN nd) ∧ Hid (∀ j x, j < k → L[j]? = some x → riseAt L j x)) (fun i _ => L.length - (intOf i).toNat)
  case atStart => exact ⟨1, rfl, by omega, ⟨0, rfl⟩, Lib.hid (fun j x hj _ i y hi => by omega)⟩
  case round =>
    obtain ⟨k, rfl, hk, ⟨nd, rfl⟩, HK⟩ := hrel
    have hbd : Hid (Below w.heap.size w (w.drewN nd)) := Lib.hid (below_drewN (Below.refl w.heap.size w) nd)
    have hbd2 : Hid (Below w.heap.size w (w.drewN nd).drew) := Lib.hid hbd.out.drew
    by_cases hlt : k < L.length
    · have hlt' : (k : Int) < (L.length : Int) := by omega
      obtain ⟨x, hx⟩ : ∃ x, L[k]? = some x := ⟨_, List.getElem?_eq_getElem hlt⟩
      obtain ⟨b, o, rfl, _, hcs⟩ := Enc.rd_cell (E := eI) H.out rfl hx
      have x0 : w.cell? ⟨b, o + k, none⟩ = some (.int .i64 x) := by simpa [eI] using hcs 0 _ rfl
      obtain ⟨j, hj⟩ : ∃ j, k = j + 1 := ⟨k - 1, by omega⟩
      obtain ⟨y, hy⟩ : ∃ y, L[j]? = some y := ⟨_, List.getElem?_eq_getElem (by omega)⟩
      obtain ⟨b', o', he, _, hcs2⟩ := Enc.rd_cell (E := eI) H.out rfl hy
      injection he with he
      injection he with he1 he2
      subst he1 he2
      have y0 : w.cell? ⟨b, o + j, none⟩ = some (.int .i64 y) := by simpa [eI] using hcs2 0 _ rfl
      have hj0 : (0 : Int) ≤ (j : Int) := by omega
      have hjl : (j : Int) < (L.length : Int) := by omega
      have hw1 : IntKind.i64.wrap ((k : Int) - 1) = (j : Int) := by
        have : (k : Int) - 1 = j := by omega
        rw [this]; exact IntWalk.i64_in _ ⟨by omega, by omega⟩
      have HX := Lib.hid hx
      have HY := Lib.hid hy
      have HJ := Lib.hid hj
      by_cases hxy : x ≤ y
      · have HB : Hid (yes (riseOk L) = false) := Lib.hid (yes_false (fun h => by have := h k x hx j y hj.symm hy; omega))
        have hge : decide (x ≤ y) = true := decide_eq_true hxy
        clear hcs hcs2 hx hy hj
        go_wp2
        refine wp_region_held_drew (S := fun wx => wx.cell? ⟨b, o + k, none⟩ = some (.int .i64 x) ∧ wx.cell? ⟨b, o + j, none⟩ = some (.int .i64 y)) (by kernel_rfl) ⟨x0, y0⟩ (fun hHeld => ?_)
        refine tk 0 (by assumption) ?_
        (try simp only [Act.put, List.setIfInBounds_toArray, List.set_cons_zero, List.set_cons_succ])
        refine tk 1 (by assumption) ?_
        (try simp only [Act.put, List.setIfInBounds_toArray, List.set_cons_zero, List.set_cons_succ])
        refine tk 2 (by assumption) ?_
        (try simp only [Act.put, List.setIfInBounds_toArray, List.set_cons_zero, List.set_cons_succ])
        refine tk 3 (by assumption) ?_
        (try simp only [Act.put, List.setIfInBounds_toArray, List.set_cons_zero, List.set_cons_succ])
        refine tk 4 (by assumption) ?_
        (try simp only [Act.put, List.setIfInBounds_toArray, List.set_cons_zero, List.set_cons_succ])
        refine tk 5 (by assumption) ?_
        (try simp only [Act.put, List.setIfInBounds_toArray, List.set_cons_zero, List.set_cons_succ])
        refine tk 6 (by assumption) ?_
        (try simp only [Act.put, List.setIfInBounds_toArray, List.set_cons_zero, List.set_cons_succ])
        refine tk 7 (by assumption) ?_
        (try simp only [Act.put, List.setIfInBounds_toArray, List.set_cons_zero, List.set_cons_succ])
        refine tk 8 (by assumption) ?_
        (try simp only [Act.put, List.setIfInBounds_toArray, List.set_cons_zero, List.set_cons_succ])
        refine tk 9 (by assumption) ?_
        (try simp only [Act.put, List.setIfInBounds_toArray, List.set_cons_zero, List.set_cons_succ])
        refine wpAnyH_done (by kernel_rfl) ?_ _
        clear hHeld
        go_wp2
        go_ret
        exact ⟨by rw [HB.out]; rfl, hbd2.out⟩
      · have HG : Hid (∀ j x, j < k + 1 → L[j]? = some x → riseAt L j x) := Lib.hid (fun i z hi hz => by
          by_cases e : i = k
          · subst e
            rw [hx] at hz
            injection hz with hz
            subst hz
            intro i' y' hi' hy'
            obtain rfl : i' = j := by omega
            rw [hy] at hy'
            injection hy' with hy'
            omega
          · exact HK.out i z (by omega) hz)
        have hge : decide (x ≤ y) = false := decide_eq_false hxy
        clear hcs hcs2 hx hy hj
        go_wp2
        refine wp_region_held_drew (S := fun wx => wx.cell? ⟨b, o + k, none⟩ = some (.int .i64 x) ∧ wx.cell? ⟨b, o + j, none⟩ = some (.int .i64 y)) (by kernel_rfl) ⟨x0, y0⟩ (fun hHeld => ?_)
        refine tk 0 (by assumption) ?_
        (try simp only [Act.put, List.setIfInBounds_toArray, List.set_cons_zero, List.set_cons_succ])
        refine tk 1 (by assumption) ?_
        (try simp only [Act.put, List.setIfInBounds_toArray, List.set_cons_zero, List.set_cons_succ])
        refine tk 2 (by assumption) ?_
        (try simp only [Act.put, List.setIfInBounds_toArray, List.set_cons_zero, List.set_cons_succ])
        refine tk 3 (by assumption) ?_
        (try simp only [Act.put, List.setIfInBounds_toArray, List.set_cons_zero, List.set_cons_succ])
        refine tk 4 (by assumption) ?_
        (try simp only [Act.put, List.setIfInBounds_toArray, List.set_cons_zero, List.set_cons_succ])
        refine tk 5 (by assumption) ?_
        (try simp only [Act.put, List.setIfInBounds_toArray, List.set_cons_zero, List.set_cons_succ])
        refine tk 6 (by assumption) ?_
        (try simp only [Act.put, List.setIfInBounds_toArray, List.set_cons_zero, List.set_cons_succ])
        refine tk 7 (by assumption) ?_
        (try simp only [Act.put, List.setIfInBounds_toArray, List.set_cons_zero, List.set_cons_succ])
        refine tk 8 (by assumption) ?_
        (try simp only [Act.put, List.setIfInBounds_toArray, List.set_cons_zero, List.set_cons_succ])
        refine tk 9 (by assumption) ?_
        (try simp only [Act.put, List.setIfInBounds_toArray, List.set_cons_zero, List.set_cons_succ])
        refine wpAnyH_done (by kernel_rfl) ?_ _
        clear hHeld
        go_wp2
        go_roundw
        case rel => exact ⟨k + 1, by go_num, by omega, ⟨nd + 1, rfl⟩, HG⟩
        case measure => simp [intOf]; omega
    · have hlt' : ¬ ((k : Int) < (L.length : Int)) := by omega
      have HE : Hid (yes (riseOk L) = true) := Lib.hid (yes_true (fun j x hx => HK.out j x (by have := (List.getElem?_eq_some_iff.1 hx).1; omega) hx))
      go_wp2
      go_ret
      exact ⟨by rw [HE.out]; rfl, hbd.out⟩
set_option maxHeartbeats 1000000 in
theorem Between_any (w : World) (v : Value) (L : List Int) (a c : Int) (Bd : Nat) (h : Rd w Bd 1 v L.length (eI.cells L)) :
    Calls Tryz.prog 36 #[v, .int .i64 a, .int .i64 c] w fun e w' => e = .returned (.bool (yes (betw L a c))) ∧ w = w' := by
  obtain ⟨ao, cap, rfl, hc, hm⟩ := h.form
  have hc2 : cap ≤ 9223372036854775807 := by unfold maxLen at hm; omega
  have H := Lib.hid h
  clear h hm
  go_enter Tryz.func36, Tryz.ntmps36
  go_wp2
  go_loopw [7] (fun i wr => ∃ k : Nat, i = .int .i64 k ∧ w = wr ∧ Hid (∀ j x, j < k → L[j]? = some x → a ≤ x ∧ x ≤ c)) (fun i _ => L.length - (intOf i).toNat)
  case atStart => exact ⟨0, rfl, rfl, Lib.hid (fun j x hj => by omega)⟩
  case round =>
    obtain ⟨k, rfl, rfl, HK⟩ := hrel
    by_cases hlt : k < L.length
    · have hlt' : (k : Int) < (L.length : Int) := by omega
      obtain ⟨x, hx⟩ : ∃ x, L[k]? = some x := ⟨_, List.getElem?_eq_getElem hlt⟩
      obtain ⟨b, o, rfl, _, hcs⟩ := Enc.rd_cell (E := eI) H.out rfl hx
      have x0 : w.cell? ⟨b, o + k, none⟩ = some (.int .i64 x) := by simpa [eI] using hcs 0 _ rfl
      have HM := Lib.hid (List.mem_of_getElem? hx)
      have HX := Lib.hid hx
      clear hcs hx
      have HBAD : Hid (¬ (a ≤ x ∧ x ≤ c) → yes (betw L a c) = false) := Lib.hid (fun hn => yes_false (fun h => hn (h x HM.out)))
      by_cases h1 : a ≤ x
      · have h1' : ¬ x < a := by omega
        by_cases h2 : x ≤ c
        · have h2' : ¬ c < x := by omega
          have HG : Hid (∀ j x, j < k + 1 → L[j]? = some x → a ≤ x ∧ x ≤ c) := Lib.hid (fun i z hi hz => by
            by_cases e : i = k
            · subst e
              rw [HX.out] at hz
              injection hz with hz
              subst hz
              exact ⟨h1, h2⟩
            · exact HK.out i z (by omega) hz)
          go_wp2
          go_roundw
          case rel => exact ⟨k + 1, by go_num, by trivial, HG⟩
          case measure => simp [intOf]; omega
        · have h2' : c < x := by omega
          have HB := Lib.hid (HBAD.out (fun h => h2 h.2))
          go_wp2
          go_ret
          exact ⟨by rw [HB.out]; rfl, rfl⟩
      · have h1' : x < a := by omega
        have HB := Lib.hid (HBAD.out (fun h => h1 h.1))
        go_wp2
        go_ret
        exact ⟨by rw [HB.out]; rfl, rfl⟩
    · have hlt' : ¬ ((k : Int) < (L.length : Int)) := by omega
      have HE : Hid (yes (betw L a c) = true) := Lib.hid (yes_true (fun x hx => by
        obtain ⟨j, hj⟩ := List.getElem?_of_mem hx
        exact HK.out j x (by have := (List.getElem?_eq_some_iff.1 hj).1; omega) hj))
      go_wp2
      go_ret
      exact ⟨by rw [HE.out]; rfl, rfl⟩
set_option maxRecDepth 20000 in
set_option maxHeartbeats 1000000 in
theorem rWill_any (w : World) (x : Wl) (ht : x.t.size ≤ 1000000000) (hp : x.p.size ≤ 1000000000) (hE : Env w) :
    Calls Tryz.prog 56 #[wlV x] w fun e w' => e = .returned (.bool (yes (wlOk x))) ∧ Below w.heap.size w w' := by
  obtain ⟨is, t, p, q, r⟩ := x
  simp only at ht hp
  unfold wlV
  simp only
  have hb0 := (Below.refl w.heap.size w).alloc (Nat.le_refl _) (.cells #[.bool is, .string t, .string p, .int .i64 q, .bool r] 50)
  have hE0 := hE.below hb0
  cases is
  · have hcmp : ∀ wq : World, (binOp .eql 50 (.agg #[.bool false, .string t, .string p, .int .i64 q, .bool r]) (.agg #[.bool false, .string ⟨#[]⟩, .string ⟨#[]⟩, .int .i64 0, .bool false])).run Tryz.prog wq = .ok (.bool (yes ((⟨false, t, p, q, r⟩ : Wl) = wl0))) wq := fun wq => eq_will wq ⟨false, t, p, q, r⟩ wl0
    have HE : Hid (yes (wlOk ⟨false, t, p, q, r⟩) = yes ((⟨false, t, p, q, r⟩ : Wl) = wl0)) := Lib.hid (by
      by_cases h : (⟨false, t, p, q, r⟩ : Wl) = wl0
      · rw [yes_true h]
        exact yes_true ⟨fun _ => h, (fun h => by cases h)⟩
      · rw [yes_false h]
        exact yes_false (fun h2 => h (h2.1 rfl)))
    rw [HE.out]
    obtain ⟨z, hz⟩ : ∃ z, yes ((⟨false, t, p, q, r⟩ : Wl) = wl0) = z := ⟨_, rfl⟩
    rw [hz] at hcmp ⊢
    clear hz
    go_enter Tryz.func56, Tryz.ntmps56
    go_wp2
    go_ret
    exact ⟨rfl, hb0⟩
  · have HT := Lib.hid (rText_any _ t (by omega) hE0)
    have HE : Hid (yes (wlOk ⟨true, t, p, q, r⟩) = (tx t && (decide (p.size ≤ 128) && (decide (0 ≤ q) && decide (q ≤ 2))))) := Lib.hid (by
      by_cases h : tx t = true ∧ p.size ≤ 128 ∧ 0 ≤ q ∧ q ≤ 2
      · rw [yes_true (show wlOk ⟨true, t, p, q, r⟩ from ⟨(fun h => by cases h), fun _ => h⟩)]
        simp [h.1, h.2.1, h.2.2.1, h.2.2.2]
      · rw [yes_false (show ¬ wlOk ⟨true, t, p, q, r⟩ from fun h2 => h (h2.2 rfl))]
        symm
        rw [Bool.eq_false_iff]
        intro h3
        simp only [Bool.and_eq_true, decide_eq_true_eq] at h3
        exact h h3)
    rw [HE.out]
    clear HE
    cases htx : tx t
    · rw [htx] at HT
      go_enter Tryz.func56, Tryz.ntmps56
      go_wp2_with (go_at_call 70; refine HT.out.mono ?_; rintro e w1 ⟨rfl, hb1⟩; have hbb := b_tr hb0 hb1)
      go_ret
      exact ⟨rfl, hbb⟩
    · rw [htx] at HT
      by_cases hps : p.size ≤ 128
      · have HW : Hid (decide (p.size ≤ 128) = true) := Lib.hid (decide_eq_true hps)
        rw [HW.out]
        have hps' : (p.size : Int) ≤ 128 := by omega
        have c2 : (w.alloc (.cells #[.bool true, .string t, .string p, .int .i64 q, .bool r] 50)).cell? ⟨w.heap.size, 2, none⟩ = some (.string p) := by simp
        have c3 : (w.alloc (.cells #[.bool true, .string t, .string p, .int .i64 q, .bool r] 50)).cell? ⟨w.heap.size, 3, none⟩ = some (.int .i64 q) := by simp
        go_enter Tryz.func56, Tryz.ntmps56
        go_wp2_with first | (go_at_call 70; refine HT.out.mono ?_; rintro e w1 ⟨rfl, hb1⟩; have hbb := b_tr hb0 hb1; have d2 := b_cell hb1 c2; have d3 := b_cell hb1 c3) | (go_at_call 53; refine (nums_any _ _ _).mono ?_; rintro e w' ⟨rfl, rfl⟩)
        go_ret
        exact ⟨by simp, hbb⟩
      · have HW : Hid (decide (p.size ≤ 128) = false) := Lib.hid (decide_eq_false hps)
        rw [HW.out]
        have hps' : ¬ ((p.size : Int) ≤ 128) := by omega
        have c2 : (w.alloc (.cells #[.bool true, .string t, .string p, .int .i64 q, .bool r] 50)).cell? ⟨w.heap.size, 2, none⟩ = some (.string p) := by simp
        go_enter Tryz.func56, Tryz.ntmps56
        go_wp2_with (go_at_call 70; refine HT.out.mono ?_; rintro e w1 ⟨rfl, hb1⟩; have hbb := b_tr hb0 hb1; have d2 := b_cell hb1 c2)
        go_ret
        exact ⟨by simp, hbb⟩
end Go.Proofs.YtlehkaibbkblkaaGreatDoor
