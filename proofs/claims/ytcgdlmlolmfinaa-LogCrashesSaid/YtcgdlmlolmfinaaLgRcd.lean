/- The log: record. -/


import Derived.Test.YtcgdlmlolmfinaaLgPart
import Derived.Test.YtcgdlmlolmfinaaLgCrc
import Derived.Test.YtcgdlmlolmfinaaLgL
import Derived.Test.YtcgdlmlolmfinaaLgAt
import Derived.Test.YtcgdlmlolmfinaaTpScope
namespace Go.Proofs.Ytcgdlmlolmfinaa
open Go.RowKit
def crcS (t : List UInt8) : Int := crcNot (crcFin t (crcNot 0))
theorem crcS_in (t : List UInt8) : 0 ≤ crcS t ∧ crcS t < 4294967296 := by
  unfold crcS crcNot bits
  simp only
  rw [show ∀ n : Int, IntKind.u32.wrap n = n % 4294967296 from fun n => by simp [IntKind.wrap, IntKind.bits, IntKind.signed]]
  omega
def cbL (t : List UInt8) : List UInt8 := [UInt8.ofNat (crcS t / 16777216 % 256).toNat, UInt8.ofNat (crcS t / 65536 % 256).toNat, UInt8.ofNat (crcS t / 256 % 256).toNat, UInt8.ofNat (crcS t % 256).toNat]
theorem cbL_len (t : List UInt8) : (cbL t).length = 4 := rfl
theorem byte_eq (z : Int) (c : UInt8) : ((z % 256) != (c.toNat : Int)) = !(c == UInt8.ofNat (z % 256).toNat) := by
  have hc := c.toNat_lt
  rw [Bool.eq_iff_iff]
  simp only [bne_iff_ne, ne_eq, Bool.not_eq_true', beq_eq_false_iff_ne]
  constructor
  · intro h h'
    apply h
    rw [h', UInt8.toNat_ofNat']
    omega
  · intro h h'
    apply h
    apply UInt8.toNat_inj.1
    rw [UInt8.toNat_ofNat']
    omega
theorem size_wrap (p q : Nat) (hp : p < 256) (hq : q < 256) : IntKind.i64.wrap (IntKind.i64.wrap (6 + IntKind.i64.wrap (IntKind.i64.wrap (p : Int) * 256)) + IntKind.i64.wrap (q : Int)) = 6 + (p : Int) * 256 + (q : Int) := by
  rw [IntWalk.i64_in (p : Int) ⟨by omega, by omega⟩, IntWalk.i64_in ((p : Int) * 256) ⟨by omega, by omega⟩, IntWalk.i64_in (6 + (p : Int) * 256) ⟨by omega, by omega⟩, IntWalk.i64_in (q : Int) ⟨by omega, by omega⟩, IntWalk.i64_in _ ⟨by omega, by omega⟩]
theorem take4 {all : List UInt8} {x2 x3 x4 x5 : UInt8} (h2 : all[2]? = some x2) (h3 : all[3]? = some x3) (h4 : all[4]? = some x4) (h5 : all[5]? = some x5) : (all.drop 2).take 4 = [x2, x3, x4, x5] := by
  apply List.ext_getElem?
  intro i
  match i with
  | 0 => simp [h2]
  | 1 => simp [h3]
  | 2 => simp [h4]
  | 3 => simp [h5]
  | i + 4 => simp; omega
theorem byteC_of (z : Int) (x : UInt8) : (x = UInt8.ofNat (z % 256).toNat) = (z % 256 = (x.toNat : Int)) := by
  have h := byte_eq z x
  rw [Bool.eq_iff_iff] at h
  simp only [bne_iff_ne, ne_eq, Bool.not_eq_true', beq_eq_false_iff_ne] at h
  rw [eq_iff_iff]
  constructor
  · intro h1; apply Classical.byContradiction; intro h2; exact h.1 h2 h1
  · intro h1; apply Classical.byContradiction; intro h2; exact h.2 h2 h1
theorem cbL_eq (t : List UInt8) (c : Int) (hc : crcS t = c) (x2 x3 x4 x5 : UInt8) : ([x2, x3, x4, x5] = cbL t) = (c / 16777216 = (x2.toNat : Int) ∧ c / 65536 % 256 = (x3.toNat : Int) ∧ c / 256 % 256 = (x4.toNat : Int) ∧ c % 256 = (x5.toNat : Int)) := by
  have hb := crcS_in t
  rw [hc] at hb
  unfold cbL
  rw [hc]
  have e : (c / 16777216 = (x2.toNat : Int)) = (c / 16777216 % 256 = (x2.toNat : Int)) := by rw [show c / 16777216 % 256 = c / 16777216 by omega]
  rw [e, ← byteC_of, ← byteC_of, ← byteC_of, ← byteC_of]
  simp only [List.cons.injEq, and_true]
/-- A pass of record. -/
structure RcI (w : World) (base RD : Nat) (F : List Nat) (s : DS) (r a : Nat) (FIN : (List UInt8 × Nat × Int) × DS) (n : Nat) (kind : UInt8) (all : List UInt8) (size : Nat) (s' : DS) (F' : List Nat) (av : Value) (wr : World) : Prop where
  d : DkG wr base RD F' s'
  on : On s'
  l : Left F w wr
  f : ∀ x ∈ F', x ∈ F ∨ w.heap.size ≤ x
  al : wr.ownsRow w.heap.size 5 1 av all.length (u8s all)
  sep : ∀ k, av.ownBlock = some k → k ∉ F'
  e : recD cbL (r * 2048) a (2049 - n) s' n kind all size = FIN
  t : s.last ≤ s'.last ∧ s'.last ≤ s.last + (n : Nat)
  hn : n ≤ 2048
  hl : all.length = 62 * n
  hs : size ≤ 65541
  hs6 : 6 ≤ size
def RcNext (w : World) (base R RD : Nat) (F : List Nat) (s : DS) (r a : Nat) (FIN : (List UInt8 × Nat × Int) × DS) (a' : Act) (w' : World) : Prop :=
  ∃ (n : Nat) (kind : UInt8) (all : List UInt8) (size : Nat) (s' : DS) (F' : List Nat) (av : Value), Hid (RcI w base RD F s r a FIN n kind all size s' F' av w') ∧ ∃ u : Nat → Value,
    a' = { tmps := #[.pointer (some ⟨R, 0, none⟩), .int .i64 a, u 2, u 3, .string ⟨#[]⟩, .int .i64 n, u 6, av, u 8, u 9, .int .i64 size, .int .u8 kind.toNat, u 12, u 13, u 14, u 15, u 16, u 17, u 18, u 19, u 20, u 21, u 22, u 23, u 24, u 25, u 26, u 27, u 28, u 29, u 30, u 31, u 32, u 33, u 34, u 35, u 36, u 37, u 38, u 39, u 40, u 41, u 42, u 43, u 44, u 45, u 46, u 47, u 48, u 49, u 50, u 51, u 52, u 53, u 54, u 55, u 56, u 57, u 58, u 59, u 60, u 61, u 62, u 63, u 64, u 65, u 66, u 67, u 68, u 69, u 70, u 71, u 72, u 73, u 74, u 75, u 76, u 77, u 78, u 79, u 80, u 81, u 82, u 83, u 84, u 85, u 86, u 87, u 88, u 89, u 90, u 91, u 92, u 93, u 94, u 95, u 96, u 97, u 98, u 99, u 100, u 101, u 102, u 103, u 104, u 105], defers := [] }
def RcNone (w : World) (base RD : Nat) (F : List Nat) (FIN : (List UInt8 × Nat × Int) × DS) (a' : Act) (w' : World) : Prop :=
  Hid (∃ s', FIN = (([], 0, 0), s') ∧ DkP w base RD F s' w') ∧ a'.tmps.size = 106 ∧ a'.defers = []
theorem frame106 (a : Act) (h1 : a.tmps.size = 106) (h2 : a.defers = []) : ∃ u : Nat → Value, a = { tmps := #[u 0, u 1, u 2, u 3, u 4, u 5, u 6, u 7, u 8, u 9, u 10, u 11, u 12, u 13, u 14, u 15, u 16, u 17, u 18, u 19, u 20, u 21, u 22, u 23, u 24, u 25, u 26, u 27, u 28, u 29, u 30, u 31, u 32, u 33, u 34, u 35, u 36, u 37, u 38, u 39, u 40, u 41, u 42, u 43, u 44, u 45, u 46, u 47, u 48, u 49, u 50, u 51, u 52, u 53, u 54, u 55, u 56, u 57, u 58, u 59, u 60, u 61, u 62, u 63, u 64, u 65, u 66, u 67, u 68, u 69, u 70, u 71, u 72, u 73, u 74, u 75, u 76, u 77, u 78, u 79, u 80, u 81, u 82, u 83, u 84, u 85, u 86, u 87, u 88, u 89, u 90, u 91, u 92, u 93, u 94, u 95, u 96, u 97, u 98, u 99, u 100, u 101, u 102, u 103, u 104, u 105], defers := [] } := by
  obtain ⟨ts, ds⟩ := a
  simp only at h1 h2
  subst h2
  refine ⟨fun i => ts.getD i undef, ?_⟩
  have h : ts = ((List.range 106).map fun i => ts.getD i undef).toArray := by
    apply Array.ext
    · simp [h1]
    · intro i h3 h4
      simp [h3]
  rw [h]
  rfl
theorem mk_frame (ts : Array Value) (f : (Nat → Value) → Array Value) (h : ts = f (fun i => ts.getD i undef)) : ∃ u : Nat → Value, ({ tmps := ts, defers := [] } : Act) = { tmps := f u, defers := [] } := ⟨fun i => ts.getD i undef, by rw [← h]⟩
theorem at62 {all : List UInt8} {n : Nat} (h : all.length = n) (k : Nat) (hk : k < n) : ∃ x, all[k]? = some x := ⟨_, List.getElem?_eq_getElem (by omega)⟩
section
variable {w w' w1 : World} {base R RD : Nat} {F F1 : List Nat} {s s1 s' : DS}
set_option maxRecDepth 20000 in
set_option maxHeartbeats 8000000 in
theorem lrecord (h0 : w.cell? ⟨R, 0, none⟩ = some (.pointer (some ⟨RD, 0, none⟩))) (r : Nat) (h3 : w.cell? ⟨R, 3, none⟩ = some (.int .i64 r)) (hd : DkG w base RD F s) (hRF : R ∉ F) (hz : base ≤ w.heap.size) (hon : On s) (a : Nat) (hr : r ≤ 1) (ha : a ≤ 2048) (hlast : 0 ≤ s.last ∧ s.last ≤ 900000000) :
    Calls Try.prog 36 #[.pointer (some ⟨R, 0, none⟩), .int .i64 a] w fun e w' => e = .returned (.tuple #[.string ⟨(recS cbL s r a).1.1.toArray⟩, .int .i64 (recS cbL s r a).1.2.1, .int .i64 (recS cbL s r a).1.2.2]) ∧ DkP w base RD F (recS cbL s r a).2 w' := by
  obtain ⟨FIN, hF⟩ : ∃ X, recS cbL s r a = X := ⟨_, rfl⟩
  rw [hF]
  have HI0 : Hid (RcI w base RD F s r a FIN 0 1 [] 6 s F (.slice none 0 0) w) := Lib.hid ⟨hd, hon, Left.refl _ _, fun _ h => .inl h, World.ownsRow_nil _ _ _ _, fun k hk => (by cases hk), hF, by omega, by omega, rfl, by omega, by omega⟩
  have hRlt : R < w.heap.size := World.block_lt_of_cell? w _ h0
  have HRL := Lib.hid hRlt
  have H0 := Lib.hid h0
  have H3 := Lib.hid h3
  have HRF := Lib.hid hRF
  have HZ := Lib.hid hz
  have HL := Lib.hid hlast
  clear h0 h3 hd hRF hz hon hF hRlt hlast
  go_enter Try.func36, Try.ntmps36
  go_wp2
  refine wp_scope_falls 1 (fun l a' w' => (l = 1 ∧ RcNext w base R RD F s r a FIN a' w') ∨ (l = 0 ∧ RcNone w base RD F FIN a' w')) (fun l a' _ => if l = 1 then 4096 - (intOf (a'.tmps.getD 5 undef)).toNat else 0) rfl ?_ ?_
  · rintro l a' wr (⟨rfl, n, kind, all, size, s', F', av, HI, u, rfl⟩ | ⟨rfl, HP, hts, hds⟩)
    · refine ⟨_, rfl, ?_⟩
      have hn := HI.out.hn
      by_cases h1 : 2048 ≤ a + n
      · have h1' : (2048 : Int) ≤ (a : Int) + (n : Int) := by omega
        have HN : Hid (∃ s', FIN = (([], 0, 0), s') ∧ DkP w base RD F s' wr) := Lib.hid (by
          have he := HI.out.e
          rw [show 2049 - n = (2048 - n) + 1 by omega, recD, if_pos h1] at he
          exact ⟨s', he.symm, F', HI.out.d, HI.out.l, HI.out.f⟩)
        clear h1
        go_wp2
        go_step3
        exact ⟨Or.inr ⟨rfl, HN, rfl, rfl⟩, by simp [intOf]; omega⟩
      · have h1' : ¬ ((2048 : Int) ≤ (a : Int) + (n : Int)) := by omega
        have c0 := cell_left' H0.out HI.out.l HRF.out
        have c3 := cell_left' H3.out HI.out.l HRF.out
        have hRF' : R ∉ F' := fun hm => by
          rcases HI.out.f _ hm with h | h
          · exact HRF.out h
          · have := HRL.out; omega
        have HRD := Lib.hid (lread c0 HI.out.d hRF' (by have := HI.out.l.size; have := HZ.out; omega) (r * 2048 + a + n) (by have := HI.out.t; have := HL.out; omega))
        have e0 : (((r * 2048 + a + n : Nat) : Nat) : Int) = (r : Int) * 2048 + (a : Int) + (n : Int) := by omega
        rw [e0] at HRD
        have hro := rd_out HI.out.on (n := r * 2048 + a + n) (by omega)
        have hlen := secE_len HI.out.on (m := r * 2048 + a + n) (by omega)
        have hT := rd_last s' (r * 2048 + a + n)
        have hE := HI.out.e
        rw [show 2049 - n = (2048 - n) + 1 by omega, recD, if_neg h1] at hE
        have HE := Lib.hid hE
        have HT := Lib.hid hT
        clear e0 hE hT hRF'
        rcases hro with ⟨s1, e, hW⟩ | ⟨s1, e, _⟩
        · rw [e] at HRD HE HT
          obtain ⟨b, hb⟩ : ∃ b, secE s' (r * 2048 + a + n) = b := ⟨_, rfl⟩
          rw [hb] at HRD HE HT hlen
          have HON := Lib.hid hW.on
          have HLEN := Lib.hid hlen
          clear e hb hW hlen
          go_wp2_with fail
          refine HRD.out.mono ?_
          rintro e w1 ⟨v, rfl, hv, F1, hd1, hl1, hf1, hvF⟩
          have HPT := Lib.hid (lpart w1 _ v b HLEN.out hv kind)
          obtain ⟨vg, vc, rfl, _, _⟩ := own_form hv (by rw [HLEN.out]; omega)
          have HH : Hid (DkG w1 base RD F1 s1 ∧ Left F w w1 ∧ (∀ x ∈ F1, x ∈ F ∨ w.heap.size ≤ x) ∧ w1.ownsRow w.heap.size 5 1 av all.length (u8s all) ∧ (∀ k, av.ownBlock = some k → k ∉ F1)) := Lib.hid ⟨hd1, HI.out.l.trans hl1 HI.out.f, fun x hx => by
            rcases hf1 x hx with h | h
            · exact HI.out.f x h
            · have := HI.out.l.size; exact .inr (by omega), own_leftB HI.out.al hl1 (fun k hk e => HI.out.sep k e hk), fun k hk hm => by
            rcases hf1 k hm with h | h
            · exact HI.out.sep k hk h
            · have := (HI.out.al.lt k hk).2; omega⟩
          clear hv hd1 hl1 hf1 hvF c0 c3
          go_wp2_with fail
          refine HPT.out.mono ?_
          rintro e w2 ⟨v', rfl, hv', hb2⟩
          obtain ⟨vo, vk, rfl, _, _⟩ := hv'.form
          have HV := Lib.hid hv'
          have HH2 : Hid (DkG w2 base RD F1 s1 ∧ Left F w w2 ∧ (∀ x ∈ F1, x ∈ F ∨ w.heap.size ≤ x) ∧ w2.ownsRow w.heap.size 5 1 av all.length (u8s all) ∧ (∀ k, av.ownBlock = some k → k ∉ F1)) := Lib.hid ⟨HH.out.1.left0 (Left.of_below hb2 []), HH.out.2.1.trans (Left.of_below hb2 []) (by simp), HH.out.2.2.1, own_below HH.out.2.2.2.1 hb2, HH.out.2.2.2.2⟩
          clear hv' hb2 HH
          cases hok : okSec kind b
          · have HN : Hid (∃ s', FIN = (([], 0, 0), s') ∧ DkP w base RD F s' w2) := Lib.hid (by
              have he := HE.out
              simp only [ne_eq, not_true_eq_false, if_false, hok, if_true] at he
              exact ⟨s1, he.symm, F1, HH2.out.1, HH2.out.2.1, HH2.out.2.2.1⟩)
            clear hok
            go_wp2
            go_step3
            exact ⟨Or.inr ⟨rfl, HN, rfl, rfl⟩, by simp [intOf]; omega⟩
          · have hE := HE.out
            simp only [ne_eq, not_true_eq_false, if_false, hok, Bool.true_eq_false] at hE
            have hbl : (bodyOf b).length = 62 := by unfold bodyOf; rw [List.length_take, List.length_drop, HLEN.out]; rfl
            obtain ⟨all', ha'⟩ : ∃ all', all ++ bodyOf b = all' := ⟨_, rfl⟩
            have hal' : all'.length = 62 * (n + 1) := by rw [← ha', List.length_append, hbl, HI.out.hl]; omega
            rw [ha'] at hE
            obtain ⟨size', hs'⟩ : ∃ size', (if n = 0 then sizeOf2 all' else size) = size' := ⟨_, rfl⟩
            rw [hs'] at hE
            have HE2 := Lib.hid hE
            have HA' := Lib.hid ha'
            have HAL := Lib.hid hal'
            have HBL := Lib.hid hbl
            have HS' := Lib.hid hs'
            clear hok hE HE HRD HPT ha' hal' hbl hs'
            go_wp2_with (at_builtin; skip; refine wpList_app _ rfl (.tmp 42) (.tmp 43) _ rfl w.heap.size 5 (.int .u8 0) 1 1 Try.underlying33 info_u8 rfl (by omega) _ all.length (u8s all) rfl HH2.out.2.2.2.1 _ _ 62 (u8s (bodyOf b)) rfl HV.out ?_ ?_ ?_ ?_ ?_)
            · exact u8s_one _
            · unfold maxLen; have := HI.out.hl; omega
            · have := HI.out.hl; omega
            · exact HH2.out.2.1.size
            · intro v3 w3 ho3 hg3 hat3
              obtain ⟨m, hm⟩ : ∃ m, all'.length = m := ⟨_, rfl⟩
              have hm1 : m = 62 * (n + 1) := by rw [← hm]; exact HAL.out
              rw [show all.length + 62 = m by have := HI.out.hl; omega, show u8s all ++ u8s (bodyOf b) = u8s all' by rw [← HA'.out, u8s, u8s, u8s, List.map_append]] at ho3
              have HH3 : Hid (DkG w3 base RD F1 s1 ∧ Left F w w3 ∧ (∀ x ∈ F1, x ∈ F ∨ w.heap.size ≤ x) ∧ w3.ownsRow w.heap.size 5 1 v3 m (u8s all') ∧ (∀ k, v3.ownBlock = some k → k ∉ F1)) := Lib.hid ⟨HH2.out.1.left (left_grown (S := av.ownBlock.toList) (Left.refl _ w2) hg3 (fun k hk => .inl (by rw [hk]; simp))) (fun k hk => HH2.out.2.2.2.2 k (by simpa using hk)), left_grown HH2.out.2.1 hg3 (fun k hk => .inr (HI.out.al.lt k hk).1), HH2.out.2.2.1, ho3, fun k hk hm => by
                rcases hat3 with h | h
                · exact HH2.out.2.2.2.2 k (h ▸ hk) hm
                · have := (HH2.out.1.lt k hm).2; rw [h] at hk; injection hk with hk; omega⟩
              obtain ⟨g, cap, rfl, hg1, hg2, hc1, hc2⟩ := own_form ho3 (by omega)
              have hc3 : cap ≤ 9223372036854775807 := by unfold maxLen at hc2; omega
              have hat : ∀ j x, all'[j]? = some x → w3.cell? ⟨g, j, none⟩ = some (.int .u8 (x.toNat : Int)) := by
                intro j x hx
                have hj := (List.getElem?_eq_some_iff.1 hx).1
                obtain ⟨b2, o, u, e, _, hu, hcs⟩ := (Rd.of_own ho3).at_ (k := j) (by omega)
                injection e with e; injection e with e1 e2
                subst e1 e2
                rw [u8s, List.getElem?_map, hx] at hu
                injection hu with hu; subst hu
                rw [Nat.zero_add] at hcs
                exact hcs
              obtain ⟨x0, hx0⟩ := at62 hm 0 (by omega)
              obtain ⟨x1, hx1⟩ := at62 hm 1 (by omega)
              have b0 : x0.toNat < 256 := x0.toNat_lt
              have b1 : x1.toNat < 256 := x1.toNat_lt
              have c0 := hat 0 x0 hx0
              have c1 := hat 1 x1 hx1
              have hsz : (if n = 0 then sizeOf2 all' else size) = size' := HS'.out
              have hsz2 : sizeOf2 all' = 6 + x0.toNat * 256 + x1.toNat := by unfold sizeOf2; rw [hx0, hx1]; rfl
              have hsb : 6 ≤ size' ∧ size' ≤ 65541 := by
                rw [← hsz]
                split
                · omega
                · exact ⟨HI.out.hs6, HI.out.hs⟩
              obtain ⟨k, hk⟩ : ∃ k, size' = k + 6 := ⟨size' - 6, by omega⟩
              subst hk
              have hk5 : k ≤ 65535 := by omega
              have HAT := Lib.hid hat
              have HSZ := Lib.hid hsz
              have HS2 := Lib.hid hsz2
              have HM := Lib.hid hm
              have HM1 := Lib.hid hm1
              have hm0 : 0 < m := by omega
              have hmB : (m : Int) ≤ 130000 := by omega
              have hmC : (1 : Int) < (m : Int) := by omega
              have hm62 : 62 ≤ m := by omega
              clear ho3 hat hx0 hx1 hsz hsz2 hg3 hat3 hsb hm hg1 hg2 hc2 hm1
              go_upto_if 46 with fail
              go_cut [10] (fun s wx => s = .int .i64 ((k : Int) + 6) ∧ ∃ nd, wx = w3.drewN nd)
              case first =>
                by_cases hn0 : n = 0
                · have hn0' : ((n : Int) == 0) = true := beq_iff_eq.2 (by omega)
                  have hsx : 6 + (x0.toNat : Int) * 256 + (x1.toNat : Int) = (k : Int) + 6 := by
                    have h1 := HSZ.out
                    rw [if_pos hn0, HS2.out] at h1
                    omega
                  clear hn0
                  have HSX := Lib.hid hsx
                  clear hsx
                  rw [hn0']
                  go_wp2
                  refine wp_region_held_drew (S := fun wx => wx.cell? ⟨g, 0, none⟩ = some (.int .u8 x0.toNat) ∧ wx.cell? ⟨g, 1, none⟩ = some (.int .u8 x1.toNat)) (by kernel_rfl) ⟨c0, c1⟩ (fun hHeld => ?_)
                  refine take_h 0 ⟨?_, ?_, ?_, by kernel_rfl, by kernel_rfl, by kernel_rfl, ?_, ?_, by assumption, ?_⟩
                  rotate_left 2
                  · (simp only [List.getElem?_toArray, List.getElem?_cons_zero]; exact rfl)
                  · exact fun _ _ _ h => h
                  · first
                      | (refine Or.inr ⟨by rfl, ?_⟩; exact rfl)
                      | (refine Or.inl ⟨by rfl, ?_⟩
                         intro w hSw
                         (try dsimp only at hSw)
                         (try go_split_ands)
                         go_simp
                         (first | done | with_reducible rfl))
                  try simp only [Act.put, List.setIfInBounds_toArray, List.set_cons_zero, List.set_cons_succ]
                  refine take_h 1 ⟨?_, ?_, ?_, by kernel_rfl, by kernel_rfl, by kernel_rfl, ?_, ?_, by assumption, ?_⟩
                  rotate_left 2
                  · (simp only [List.getElem?_toArray, List.getElem?_cons_succ, List.getElem?_cons_zero]; exact rfl)
                  · exact fun _ _ _ h => h
                  · first
                      | (refine Or.inr ⟨by rfl, ?_⟩; exact rfl)
                      | (refine Or.inl ⟨by rfl, ?_⟩
                         intro w hSw
                         (try dsimp only at hSw)
                         (try go_split_ands)
                         go_simp
                         (first | done | with_reducible rfl))
                  try simp only [Act.put, List.setIfInBounds_toArray, List.set_cons_zero, List.set_cons_succ]
                  refine take_h 2 ⟨?_, ?_, ?_, by kernel_rfl, by kernel_rfl, by kernel_rfl, ?_, ?_, by assumption, ?_⟩
                  rotate_left 2
                  · (simp only [List.getElem?_toArray, List.getElem?_cons_succ, List.getElem?_cons_zero]; exact rfl)
                  · exact fun _ _ _ h => h
                  · first
                      | (refine Or.inr ⟨by rfl, ?_⟩; exact rfl)
                      | (refine Or.inl ⟨by rfl, ?_⟩
                         intro w hSw
                         (try dsimp only at hSw)
                         (try go_split_ands)
                         go_simp
                         (first | done | with_reducible rfl))
                  try simp only [Act.put, List.setIfInBounds_toArray, List.set_cons_zero, List.set_cons_succ]
                  refine take_h 3 ⟨?_, ?_, ?_, by kernel_rfl, by kernel_rfl, by kernel_rfl, ?_, ?_, by assumption, ?_⟩
                  rotate_left 2
                  · (simp only [List.getElem?_toArray, List.getElem?_cons_succ, List.getElem?_cons_zero]; exact rfl)
                  · exact fun _ _ _ h => h
                  · first
                      | (refine Or.inr ⟨by rfl, ?_⟩; exact rfl)
                      | (refine Or.inl ⟨by rfl, ?_⟩
                         intro w hSw
                         (try dsimp only at hSw)
                         (try go_split_ands)
                         go_simp
                         (first | done | with_reducible rfl))
                  try simp only [Act.put, List.setIfInBounds_toArray, List.set_cons_zero, List.set_cons_succ]
                  refine take_h 4 ⟨?_, ?_, ?_, by kernel_rfl, by kernel_rfl, by kernel_rfl, ?_, ?_, by assumption, ?_⟩
                  rotate_left 2
                  · (simp only [List.getElem?_toArray, List.getElem?_cons_succ, List.getElem?_cons_zero]; exact rfl)
                  · exact fun _ _ _ h => h
                  · first
                      | (refine Or.inr ⟨by rfl, ?_⟩; exact rfl)
                      | (refine Or.inl ⟨by rfl, ?_⟩
                         intro w hSw
                         (try dsimp only at hSw)
                         (try go_split_ands)
                         go_simp
                         (first | done | with_reducible rfl))
                  try simp only [Act.put, List.setIfInBounds_toArray, List.set_cons_zero, List.set_cons_succ]
                  refine take_h 5 ⟨?_, ?_, ?_, by kernel_rfl, by kernel_rfl, by kernel_rfl, ?_, ?_, by assumption, ?_⟩
                  rotate_left 2
                  · (simp only [List.getElem?_toArray, List.getElem?_cons_succ, List.getElem?_cons_zero]; exact rfl)
                  · exact fun _ _ _ h => h
                  · first
                      | (refine Or.inr ⟨by rfl, ?_⟩; exact rfl)
                      | (refine Or.inl ⟨by rfl, ?_⟩
                         intro w hSw
                         (try dsimp only at hSw)
                         (try go_split_ands)
                         go_simp
                         (first | done | with_reducible rfl))
                  try simp only [Act.put, List.setIfInBounds_toArray, List.set_cons_zero, List.set_cons_succ]
                  refine take_h 6 ⟨?_, ?_, ?_, by kernel_rfl, by kernel_rfl, by kernel_rfl, ?_, ?_, by assumption, ?_⟩
                  rotate_left 2
                  · (simp only [List.getElem?_toArray, List.getElem?_cons_succ, List.getElem?_cons_zero]; exact rfl)
                  · exact fun _ _ _ h => h
                  · first
                      | (refine Or.inr ⟨by rfl, ?_⟩; exact rfl)
                      | (refine Or.inl ⟨by rfl, ?_⟩
                         intro w hSw
                         (try dsimp only at hSw)
                         (try go_split_ands)
                         go_simp
                         (first | done | with_reducible rfl))
                  try simp only [Act.put, List.setIfInBounds_toArray, List.set_cons_zero, List.set_cons_succ]
                  refine take_h 7 ⟨?_, ?_, ?_, by kernel_rfl, by kernel_rfl, by kernel_rfl, ?_, ?_, by assumption, ?_⟩
                  rotate_left 2
                  · (simp only [List.getElem?_toArray, List.getElem?_cons_succ, List.getElem?_cons_zero]; exact rfl)
                  · exact fun _ _ _ h => h
                  · first
                      | (refine Or.inr ⟨by rfl, ?_⟩; exact rfl)
                      | (refine Or.inl ⟨by rfl, ?_⟩
                         intro w hSw
                         (try dsimp only at hSw)
                         (try go_split_ands)
                         go_simp
                         (first | done | with_reducible rfl))
                  try simp only [Act.put, List.setIfInBounds_toArray, List.set_cons_zero, List.set_cons_succ]
                  refine take_h 8 ⟨?_, ?_, ?_, by kernel_rfl, by kernel_rfl, by kernel_rfl, ?_, ?_, by assumption, ?_⟩
                  rotate_left 2
                  · (simp only [List.getElem?_toArray, List.getElem?_cons_succ, List.getElem?_cons_zero]; exact rfl)
                  · exact fun _ _ _ h => h
                  · first
                      | (refine Or.inr ⟨by rfl, ?_⟩; exact rfl)
                      | (refine Or.inl ⟨by rfl, ?_⟩
                         intro w hSw
                         (try dsimp only at hSw)
                         (try go_split_ands)
                         go_simp
                         (first | done | with_reducible rfl))
                  try simp only [Act.put, List.setIfInBounds_toArray, List.set_cons_zero, List.set_cons_succ]
                  refine take_h 9 ⟨?_, ?_, ?_, by kernel_rfl, by kernel_rfl, by kernel_rfl, ?_, ?_, by assumption, ?_⟩
                  rotate_left 2
                  · (simp only [List.getElem?_toArray, List.getElem?_cons_succ, List.getElem?_cons_zero]; exact rfl)
                  · exact fun _ _ _ h => h
                  · first
                      | (refine Or.inr ⟨by rfl, ?_⟩; exact rfl)
                      | (refine Or.inl ⟨by rfl, ?_⟩
                         intro w hSw
                         (try dsimp only at hSw)
                         (try go_split_ands)
                         go_simp
                         (first | done | with_reducible rfl))
                  try simp only [Act.put, List.setIfInBounds_toArray, List.set_cons_zero, List.set_cons_succ]
                  refine take_h 10 ⟨?_, ?_, ?_, by kernel_rfl, by kernel_rfl, by kernel_rfl, ?_, ?_, by assumption, ?_⟩
                  rotate_left 2
                  · (simp only [List.getElem?_toArray, List.getElem?_cons_succ, List.getElem?_cons_zero]; exact rfl)
                  · exact fun _ _ _ h => h
                  · first
                      | (refine Or.inr ⟨by rfl, ?_⟩; exact rfl)
                      | (refine Or.inl ⟨by rfl, ?_⟩
                         intro w hSw
                         (try dsimp only at hSw)
                         (try go_split_ands)
                         go_simp
                         (first | done | with_reducible rfl))
                  try simp only [Act.put, List.setIfInBounds_toArray, List.set_cons_zero, List.set_cons_succ]
                  refine take_h 11 ⟨?_, ?_, ?_, by kernel_rfl, by kernel_rfl, by kernel_rfl, ?_, ?_, by assumption, ?_⟩
                  rotate_left 2
                  · (simp only [List.getElem?_toArray, List.getElem?_cons_succ, List.getElem?_cons_zero]; exact rfl)
                  · exact fun _ _ _ h => h
                  · first
                      | (refine Or.inr ⟨by rfl, ?_⟩; exact rfl)
                      | (refine Or.inl ⟨by rfl, ?_⟩
                         intro w hSw
                         (try dsimp only at hSw)
                         (try go_split_ands)
                         go_simp
                         (first | done | with_reducible rfl))
                  try simp only [Act.put, List.setIfInBounds_toArray, List.set_cons_zero, List.set_cons_succ]
                  refine wpAnyH_done (by kernel_rfl) ?_ _
                  clear hHeld
                  go_wp2
                  go_meet
                  exact ⟨by rw [size_wrap _ _ b0 b1, HSX.out], 1, rfl⟩
                · have hn0' : ((n : Int) == 0) = false := beq_eq_false_iff_ne.2 (by omega)
                  have hsx : (size : Int) = (k : Int) + 6 := by
                    have h1 := HSZ.out
                    rw [if_neg hn0] at h1
                    omega
                  clear hn0
                  go_wp2
                  go_meet
                  exact ⟨by rw [hsx], 0, rfl⟩
              case rest =>
                obtain ⟨rfl, nd, hcw⟩ := hcut
                have HH4 : Hid (DkG wc base RD F1 s1 ∧ Left F w wc ∧ (∀ x ∈ F1, x ∈ F ∨ w.heap.size ≤ x) ∧ wc.ownsRow w.heap.size 5 1 (.slice (some ⟨g, 0, none⟩) m cap) m (u8s all') ∧ (∀ k, (Value.slice (some ⟨g, 0, none⟩) m cap).ownBlock = some k → k ∉ F1)) := Lib.hid (by
                  rw [hcw]
                  exact ⟨HH3.out.1.left0 ((Left.refl [] w3).drewN nd), HH3.out.2.1.drewN nd, HH3.out.2.2.1, own_left HH3.out.2.2.2.1 ((Left.refl [] w3).drewN nd) (by simp), HH3.out.2.2.2.2⟩)
                have HAT4 : Hid (∀ j x, all'[j]? = some x → wc.cell? ⟨g, j, none⟩ = some (.int .u8 (x.toNat : Int))) := Lib.hid (by
                  rw [hcw]; exact HAT.out)
                clear hcw c0 c1 b0 b1
                refine (by assumption : ∀ (a : Act) (w : World), Code.wp _ _ _ a w → _) _ _ ?_
                by_cases hlt : m < k + 6
                · have hlt' : (m : Int) < (k : Int) + 6 := by omega
                  have HI2 : Hid (RcI w base RD F s r a FIN (n + 1) 2 all' (k + 6) s1 F1 (.slice (some ⟨g, 0, none⟩) m cap) wc) := Lib.hid (by
                    have hh := HH4.out
                    have he := HE2.out
                    have hm := HM.out
                    have hm1 := HM1.out
                    rw [if_pos (by omega)] at he
                    subst hm
                    exact ⟨hh.1, HON.out, hh.2.1, hh.2.2.1, hh.2.2.2.1, hh.2.2.2.2, by rw [← he, show 2049 - (n + 1) = 2048 - n by omega], by have := HT.out; have := HI.out.t; omega, by omega, HAL.out, by omega, by omega⟩)
                  clear hlt
                  go_wp2
                  go_step3
                  refine ⟨Or.inl ⟨rfl, n + 1, 2, all', k + 6, s1, F1, _, HI2, ?_⟩, ?_⟩
                  · rw [show ((n + 1 : Nat) : Int) = (n : Int) + 1 by omega, show ((k + 6 : Nat) : Int) = (k : Int) + 6 by omega]
                    exact mk_frame _ _ rfl
                  · simp [intOf]; omega
                · have hlt' : ¬ ((m : Int) < (k : Int) + 6) := by omega
                  have hcap : (k : Int) + 6 ≤ (cap : Int) := by omega
                  have hcN : ¬ (cap = 6) := by omega
                  obtain ⟨x, hx⟩ : ∃ x, (all'.drop 6).take k = x := ⟨_, rfl⟩
                  have hxl : x.length = k := by rw [← hx, List.length_take, List.length_drop]; have := HM.out; omega
                  have hconv := conv_bs wc g 6 (cap - 6) x (fun j b hj => by
                    have hjk : j < k := by have := (List.getElem?_eq_some_iff.1 hj).1; omega
                    rw [← hx, List.getElem?_take, if_pos hjk, List.getElem?_drop] at hj
                    exact HAT4.out (6 + j) b hj)
                  rw [hxl] at hconv
                  obtain ⟨c2, w5, hr5, hd5, hb5, _⟩ := conv_sb wc x (by omega)
                  rw [hxl] at hr5 hd5
                  have HSM := Lib.hid (Sum_any w5 _ x (by rw [hxl]; exact hd5))
                  obtain ⟨c, hc⟩ : ∃ c, crcS x = c := ⟨_, rfl⟩
                  have hcb := crcS_in x
                  rw [hc] at hcb
                  obtain ⟨hcb1, hcb2⟩ := hcb
                  rw [show crcNot (crcFin x (crcNot 0)) = c from hc] at HSM
                  have HX := Lib.hid hx
                  have HCC := Lib.hid hc
                  have HB5 := Lib.hid hb5
                  clear hx hc hb5 hd5 hlt
                  go_wp2_with fail
                  refine HSM.out.mono ?_
                  rintro e w6 ⟨rfl, rfl⟩
                  have hE2 := HE2.out
                  have hHM := HM.out
                  obtain ⟨x2, hx2⟩ := at62 hHM 2 (by omega)
                  obtain ⟨x3, hx3⟩ := at62 hHM 3 (by omega)
                  obtain ⟨x4, hx4⟩ := at62 hHM 4 (by omega)
                  obtain ⟨x5, hx5⟩ := at62 hHM 5 (by omega)
                  rw [if_neg (by omega), Nat.add_sub_cancel, HX.out, take4 hx2 hx3 hx4 hx5] at hE2
                  simp only [cbL_eq x c HCC.out] at hE2
                  have d2 := cell_left' (HAT4.out 2 x2 hx2) (Left.of_below HB5.out []) (by simp)
                  have d3 := cell_left' (HAT4.out 3 x3 hx3) (Left.of_below HB5.out []) (by simp)
                  have d4 := cell_left' (HAT4.out 4 x4 hx4) (Left.of_below HB5.out []) (by simp)
                  have d5 := cell_left' (HAT4.out 5 x5 hx5) (Left.of_below HB5.out []) (by simp)
                  have HP5 : Hid (DkP w base RD F s1 w5) := Lib.hid ⟨F1, HH4.out.1.left0 (Left.of_below HB5.out []), HH4.out.2.1.trans (Left.of_below HB5.out []) (by simp), HH4.out.2.2.1⟩
                  have hC2 : 2 < m := by omega
                  have hC3 : 3 < m := by omega
                  have hC4 : 4 < m := by omega
                  have hC5 : 5 < m := by omega
                  have HE3 := Lib.hid hE2
                  clear hE2 hHM hx2 hx3 hx4 hx5 hconv hr5
                  by_cases q2 : c / 16777216 = (x2.toNat : Int)
                  · by_cases q3 : c / 65536 % 256 = (x3.toNat : Int)
                    · by_cases q4 : c / 256 % 256 = (x4.toNat : Int)
                      · by_cases q5 : c % 256 = (x5.toNat : Int)
                        · have hq5 : (c % 256 != (x5.toNat : Int)) = false := by rw [q5]; simp
                          have HN : Hid (((x, n + 1, 0), s1) = FIN) := Lib.hid (by
                            have he := HE3.out
                            rw [if_pos ⟨q2, q3, q4, q5⟩] at he
                            exact he)
                          clear q5
                          go_wp2
                          simp only [exitJumps]
                          go_ret3
                          rw [← HN.out]
                          refine ⟨Eq.trans (b := Ending.returned (.tuple #[.string ⟨x.toArray⟩, .int .i64 ((n : Int) + 1), .int .i64 0])) rfl ?_, HP5.out⟩
                          rw [← show ((n + 1 : Nat) : Int) = (n : Int) + 1 by omega]
                        · have hq5 : (c % 256 != (x5.toNat : Int)) = true := bne_iff_ne.2 q5
                          have Q5 := Lib.hid q5
                          clear q5
                          have HN : Hid (∃ s', FIN = (([], 0, 0), s') ∧ DkP w base RD F s' w5) := Lib.hid (by
                            have he := HE3.out
                            rw [if_neg (fun h => Q5.out h.2.2.2)] at he
                            exact ⟨s1, he.symm, HP5.out⟩)
                          go_wp2
                          go_step3
                          exact ⟨Or.inr ⟨rfl, HN, rfl, rfl⟩, by simp [intOf]; omega⟩
                      · have HN : Hid (∃ s', FIN = (([], 0, 0), s') ∧ DkP w base RD F s' w5) := Lib.hid (by
                          have he := HE3.out
                          rw [if_neg (fun h => q4 h.2.2.1)] at he
                          exact ⟨s1, he.symm, HP5.out⟩)
                        go_wp2
                        go_step3
                        exact ⟨Or.inr ⟨rfl, HN, rfl, rfl⟩, by simp [intOf]; omega⟩
                    · have HN : Hid (∃ s', FIN = (([], 0, 0), s') ∧ DkP w base RD F s' w5) := Lib.hid (by
                        have he := HE3.out
                        rw [if_neg (fun h => q3 h.2.1)] at he
                        exact ⟨s1, he.symm, HP5.out⟩)
                      go_wp2
                      go_step3
                      exact ⟨Or.inr ⟨rfl, HN, rfl, rfl⟩, by simp [intOf]; omega⟩
                  · have HN : Hid (∃ s', FIN = (([], 0, 0), s') ∧ DkP w base RD F s' w5) := Lib.hid (by
                      have he := HE3.out
                      rw [if_neg (fun h => q2 h.1)] at he
                      exact ⟨s1, he.symm, HP5.out⟩)
                    go_wp2
                    go_step3
                    exact ⟨Or.inr ⟨rfl, HN, rfl, rfl⟩, by simp [intOf]; omega⟩
        · rw [e] at HRD HE
          have HE2 : Hid ((([], 0, 10), s1) = FIN) := Lib.hid (by have := HE.out; simpa using this)
          clear e HE hlen
          go_wp2_with fail
          refine HRD.out.mono ?_
          rintro e w1 ⟨v, rfl, hv, F1, hd1, hl1, hf1, hvF⟩
          obtain ⟨vo, vc, rfl, _, _⟩ := (Rd.of_own hv).form
          have HP : Hid (DkP w base RD F s1 w1) := Lib.hid ⟨F1, hd1, HI.out.l.trans hl1 HI.out.f, fun x hx => by
            rcases hf1 x hx with h | h
            · exact HI.out.f x h
            · have := HI.out.l.size; exact .inr (by omega)⟩
          clear hv hd1 hl1 hf1 hvF
          go_wp2
          simp only [exitJumps]
          go_ret3
          rw [← HE2.out]
          exact ⟨rfl, HP.out⟩
    · refine ⟨_, rfl, ?_⟩
      obtain ⟨u, rfl⟩ := frame106 a' hts hds
      clear hts hds
      obtain ⟨s2, hFIN, hP⟩ := HP.out
      have HP2 := Lib.hid hP
      subst hFIN
      clear hP
      go_wp2
      simp only [exitJumps]
      go_ret3
      exact ⟨rfl, HP2.out⟩
  · intro hgo
    have HGO := Lib.hid hgo
    clear hgo
    go_wp2
    go_step3
    refine (by assumption : ∀ (a : Act) (w : World), Code.wp _ _ _ a w → _) _ _ ?_
    refine HGO.out _ _ (Or.inl ⟨by trivial, 0, 1, [], 6, s, F, _, HI0, ?_⟩)
    exact mk_frame _ _ rfl
end
end Go.Proofs.Ytcgdlmlolmfinaa
