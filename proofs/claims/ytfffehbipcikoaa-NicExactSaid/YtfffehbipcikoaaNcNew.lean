/- A new queue of the network card. -/


import Derived.Test.YtfffehbipcikoaaNcQueue
import Derived.Test.YtfffehbipcikoaaRgRest
import Derived.Deep.CutBlock
namespace Go.Proofs.Ytfffehbipcikoaa
open Go.RowKit Go.MapKept

theorem heads_nodup : ∀ {A : List Fl}, (∀ f ∈ A, 0 < f.own.length) → (A.flatMap Fl.own).Nodup → (A.map Fl.h).Nodup
  | [], _, _ => by simp
  | f :: A, h1, h2 => by
    rw [List.flatMap_cons, List.nodup_append] at h2
    rw [List.map_cons, List.nodup_cons]
    refine ⟨fun hm => ?_, heads_nodup (fun g hg => h1 g (by simp [hg])) h2.2.1⟩
    obtain ⟨g, hg, e⟩ := List.mem_map.1 hm
    exact h2.2.2 _ (Fl.h_mem (f := f) (h1 f (by simp))) _ (List.mem_flatMap.2 ⟨g, hg, Fl.h_mem (h1 g (by simp [hg]))⟩) e.symm
section
variable {w w' : World} {s : Spot} {q : Nat} {want : List Fl} {out : List (Fl × Nat)} {free : Nat}
theorem RigG.heads (h : RigG w s q want out free) : ((want ++ out.map (·.1)).map Fl.h).Nodup := by
  obtain ⟨B, bz, wy, ls, wrt, rdD, wrV, rdV, h1, h2, _⟩ := h
  exact heads_nodup (fun f hf => by obtain ⟨a, b, _⟩ := h2.held.ok f hf; have := bufsB_pos a; omega) h2.held.nd
theorem RigG.none_no (h : RigG w s q [] [] free) : ∀ k, NoRow w s.bw k := by
  obtain ⟨B, bz, wy, ls, wrt, rdD, wrV, rdV, h1, h2, _⟩ := h
  have hl := h2.held.wl
  simp at hl
  subst hl
  intro k W hW p hp
  obtain ⟨W', hW', hA⟩ := h1.drv.way
  rw [imap_uniq hW hW'] at hp
  cases W' with
  | nil => simp at hp
  | cons a r => exact absurd hA (by simp [WayAt])
end
theorem info_pm : (Try.prog.info? 35).map (fun i => (i.zero, i.size, i.bytes)) = some (some (.pointer none), 1, 8) := by kernel_rfl

def bankCells (bl : List (Nat × Nat)) : List Value := bl.map fun p => .pointer (some ⟨p.1, 0, none⟩)
/-- The banks so far. -/
structure Banks (w : World) (base : Nat) (v : Value) (bl : List (Nat × Nat)) : Prop where
  row : w.ownsRow base 35 1 v bl.length (bankCells bl)
  mem : ∀ p ∈ bl, MemAt 114 w p.1 p.2 (List.replicate 65536 0) ∧ base ≤ p.1 ∧ base ≤ p.2
  nd : (bl.map (·.2)).Nodup
section
variable {w w' : World} {base : Nat} {v v' : Value} {bl : List (Nat × Nat)} {S : List Nat}
theorem Whole.ty {g : Nat} {t : TypeId} {cs : List Value} (h : Whole w g t cs) : Ty w g t := ⟨_, _, h⟩
theorem Banks.left (h : Banks w base v bl) (hl : Left S w w') (hS : ∀ k ∈ S, k < base) : Banks w' base v bl :=
  ⟨own_left h.row hl hS, fun p hp => by
    obtain ⟨h1, h2, h3⟩ := h.mem p hp
    exact ⟨h1.left hl (fun hm => by have := hS _ hm; omega) (fun hm => by have := hS _ hm; omega), h2, h3⟩, h.nd⟩
theorem Banks.app (h : Banks w base v bl) {m d : Nat} (hm : MemAt 114 w m d (List.replicate 65536 0)) (h1 : base ≤ m) (h2 : base ≤ d) (hn : ∀ p ∈ bl, p.2 ≠ d)
    (hr : w'.ownsRow base 35 1 v' (bl.length + 1) (bankCells bl ++ [.pointer (some ⟨m, 0, none⟩)])) (hg : w.grownBy w' v.ownBlock) : Banks w' base v' (bl ++ [(m, d)]) := by
  have hl := left_of_grown hg
  have hM : ∀ {m d : Nat}, MemAt 114 w m d (List.replicate 65536 0) → MemAt 114 w' m d (List.replicate 65536 0) := fun hm =>
    hm.left hl (fun hk => (own_ty h.row (mem_ownL.1 hk)).ne hm.head.ty (by decide) rfl) (fun hk => (own_ty h.row (mem_ownL.1 hk)).ne hm.bytes.ty (by decide) rfl)
  refine ⟨by simpa [bankCells] using hr, fun p hp => ?_, ?_⟩
  · rcases List.mem_append.1 hp with hp | hp
    · obtain ⟨a, b, c⟩ := h.mem p hp
      exact ⟨hM a, b, c⟩
    · simp only [List.mem_singleton] at hp
      subst hp
      exact ⟨hM hm, h1, h2⟩
  · rw [List.map_append, List.nodup_append]
    refine ⟨h.nd, by simp, fun a ha b hb => ?_⟩
    obtain ⟨p, hp, rfl⟩ := List.mem_map.1 ha
    simp only [List.map_cons, List.map_nil, List.mem_singleton] at hb
    subst hb
    exact hn p hp
end

/-- All of a queue that was just made. -/
structure Fresh (w0 w : World) (z : QS) (n : Nat) : Prop where
  q : QAt w z n (List.replicate n 0) (List.replicate n false) (fun _ => List.replicate 65536 0)
  r : RigG w z.s n [] [] n
  ap : z.Apart
  rng : (∀ k ∈ z.blocks, w0.heap.size ≤ k ∧ k < w.heap.size) ∧ (∀ k ∈ z.s.all, w0.heap.size ≤ k ∧ k < w.heap.size) ∧ w0.heap.size ≤ z.s.m ∧ z.s.m < w.heap.size
  bl : Below w0.heap.size w0 w

/-- What was made ahead of the banks. -/
structure Half1 (w0 w : World) (Q ob ub : Nat) (s : Spot) (n lo mid : Nat) (v : Value) : Prop where
  head : Whole w Q 153 [.pointer (some ⟨s.D, 0, none⟩), .pointer (some ⟨s.V, 0, none⟩), v, .int .i64 n, .slice (some ⟨ob, 0, none⟩) n n, .slice (some ⟨ub, 0, none⟩) n n]
  owner : Whole w ob 3 ((List.replicate n (0 : Int)).map (.int .i64 ·))
  used_ : Whole w ub 4 ((List.replicate n false).map (.bool ·))
  r : RigG w s n [] [] n
  bl : Below w0.heap.size w0 w
  b1 : w0.heap.size ≤ s.m ∧ w0.heap.size ≤ s.d ∧ s.m < lo ∧ s.d < lo
  b2 : lo ≤ Q ∧ lo ≤ ob ∧ lo ≤ ub ∧ Q < mid ∧ ob < mid ∧ ub < mid
  b3 : mid ≤ s.D ∧ mid ≤ s.bs ∧ mid ≤ s.bw ∧ mid ≤ s.bl ∧ mid ≤ s.V

theorem Fresh.of {w0 w : World} {Q ob ub : Nat} {s : Spot} {n nb lo mid base : Nat} {v : Value} {bl : List (Nat × Nat)} (h : Half1 w0 w Q ob ub s n lo mid v) (hb : Banks w base v bl) (hlen : bl.length = nb) (h0 : 0 < nb) (hn : n ≤ 64 ∧ n ≤ nb * 32)
    (hbs : s.D < base ∧ s.bs < base ∧ s.bw < base ∧ s.bl < base ∧ s.V < base) : ∃ z : QS, z.Q = Q ∧ Fresh w0 w z n := by
  subst hlen
  obtain ⟨g, cap, hv, hBg, hgl⟩ := own_form' hb.row h0
  subst hv
  have hcap : bl.length ≤ cap ∧ cap ≤ 9223372036854775807 := by
    obtain ⟨ao, c2, e, h1, h2⟩ := (Rd.of_own hb.row).form
    injection e with _ _ e
    subst e
    unfold maxLen at h2
    omega
  have hgt : Ty w g 35 := own_ty hb.row rfl
  have hat : ∀ i, i < bl.length → ∃ m d, bl.getD i (0, 0) = (m, d) ∧ bl[i]? = some (m, d) ∧ (m, d) ∈ bl := fun i hi => by
    obtain ⟨p, hp⟩ : ∃ p, bl[i]? = some p := ⟨_, List.getElem?_eq_getElem hi⟩
    exact ⟨p.1, p.2, by simp [List.getD, hp], hp, List.mem_of_getElem? hp⟩
  have hml := hb.mem
  have l1 := h.head.lt
  have l2 := h.owner.lt
  have l3 := h.used_.lt
  have l4 := h.r.lt
  have b1 := h.b1
  have b2 := h.b2
  have b3 := h.b3
  have l5 : ∀ k ∈ s.all, mid ≤ k ∧ k < base ∨ k = s.d := by
    intro k hk
    simp only [Spot.all, List.mem_cons, List.mem_nil_iff, or_false] at hk
    rcases hk with rfl | rfl | rfl | rfl | rfl | rfl
    · exact .inl (by omega)
    · exact .inl (by omega)
    · exact .inl (by omega)
    · exact .inl (by omega)
    · exact .inl (by omega)
    · exact .inr rfl
  have l6 : s.m < w.heap.size := by have := l4 s.D (by simp [Spot.all]); omega
  refine ⟨⟨Q, ob, ub, g, bl.length, fun i => (bl.getD i (0, 0)).1, fun i => (bl.getD i (0, 0)).2, s⟩, rfl, ?_⟩
  have hin : ∀ k ∈ (⟨Q, ob, ub, g, bl.length, fun i => (bl.getD i (0, 0)).1, fun i => (bl.getD i (0, 0)).2, s⟩ : QS).blocks, (k = Q ∨ k = ob ∨ k = ub ∨ base ≤ k) ∧ k < w.heap.size := by
    intro k hk
    simp only [QS.blocks, List.mem_append, List.mem_cons, List.mem_nil_iff, or_false, List.mem_flatMap, List.mem_range] at hk
    rcases hk with (rfl | rfl | rfl | rfl) | ⟨i, hi, hk⟩
    · exact ⟨.inl rfl, l1⟩
    · exact ⟨.inr (.inl rfl), l2⟩
    · exact ⟨.inr (.inr (.inl rfl)), l3⟩
    · exact ⟨.inr (.inr (.inr hBg)), hgl⟩
    · obtain ⟨m, d, e1, e2, e3⟩ := hat i hi
      rw [e1] at hk
      obtain ⟨q1, q2, q3⟩ := hml _ e3
      rcases hk with rfl | rfl
      · exact ⟨.inr (.inr (.inr q2)), q1.head.lt⟩
      · exact ⟨.inr (.inr (.inr q3)), q1.bytes.lt⟩
  refine ⟨⟨⟨cap, h.head, hcap⟩, fun i hi => ?_, h.owner, h.used_, fun i hi => ?_, by simp, hn, fun i _ => List.length_replicate, fun i j hi hj => ?_, fun i hi => ?_, ?_⟩, h.r, fun k hk => ?_, ⟨fun k hk => ?_, fun k hk => ?_, b1.1, l6⟩, h.bl⟩
  · obtain ⟨m, d, e1, e2, e3⟩ := hat i hi
    have := hb.row.cellAt i (by simp [bankCells]; exact hi)
    rw [this]
    simp only [bankCells, List.getElem?_map]
    show _ = some (Value.pointer (some ⟨(bl.getD i (0, 0)).1, 0, none⟩))
    rw [e2, e1]
    rfl
  · obtain ⟨m, d, e1, e2, e3⟩ := hat i hi
    show MemAt 114 w (bl.getD i (0, 0)).1 (bl.getD i (0, 0)).2 _
    rw [e1]
    exact (hml _ e3).1
  · obtain ⟨m, d, e1, e2, e3⟩ := hat i hi
    obtain ⟨m', d', e1', e2', e3'⟩ := hat j hj
    show (bl.getD i (0, 0)).1 ≠ (bl.getD j (0, 0)).2 ∧ (i ≠ j → (bl.getD i (0, 0)).2 ≠ (bl.getD j (0, 0)).2)
    rw [e1, e1']
    refine ⟨(hml _ e3).1.head.ne (hml _ e3').1.bytes (by decide), fun hij e => ?_⟩
    have hp := List.pairwise_iff_getElem.1 hb.nd
    have x1 := (List.getElem?_eq_some_iff.1 e2)
    have x2 := (List.getElem?_eq_some_iff.1 e2')
    obtain ⟨y1, z1⟩ := x1
    obtain ⟨y2, z2⟩ := x2
    rcases Nat.lt_or_gt_of_ne hij with hh | hh
    · have := hp i j (by simpa using y1) (by simpa using y2) hh
      simp only [List.getElem_map, z1, z2] at this
      exact this e
    · have := hp j i (by simpa using y2) (by simpa using y1) hh
      simp only [List.getElem_map, z1, z2] at this
      exact this e.symm
  · obtain ⟨m, d, e1, e2, e3⟩ := hat i hi
    show (bl.getD i (0, 0)).2 ≠ Q ∧ (bl.getD i (0, 0)).2 ≠ ob ∧ (bl.getD i (0, 0)).2 ≠ ub ∧ (bl.getD i (0, 0)).2 ≠ g
    rw [e1]
    have hd := (hml _ e3).1.bytes
    exact ⟨hd.ne h.head (by decide), hd.ne h.owner (by decide), hd.ne h.used_ (by decide), hd.ty.ne hgt (by decide)⟩
  · refine ⟨h.head.ne h.owner (by decide), h.head.ne h.used_ (by decide), h.owner.ne h.used_ (by decide), hgt.ne h.owner.ty (by decide), hgt.ne h.used_.ty (by decide), fun i hi => ?_⟩
    obtain ⟨m, d, e1, e2, e3⟩ := hat i hi
    show (bl.getD i (0, 0)).1 ≠ ob ∧ (bl.getD i (0, 0)).1 ≠ ub
    rw [e1]
    have hd := (hml _ e3).1.head
    exact ⟨hd.ne h.owner (by decide), hd.ne h.used_ (by decide)⟩
  · have h1 := (hin k hk).1
    refine ⟨fun hm => ?_, fun e => ?_⟩
    · rcases l5 k hm with h2 | h2
      · omega
      · omega
    · change k = s.m at e
      omega
  · have h1 := hin k hk
    omega
  · have h1 := l4 k hk
    rcases l5 k hk with h2 | h2 <;> omega

theorem Half1.up {w0 w w' : World} {Q ob ub : Nat} {s : Spot} {n lo mid base : Nat} {v : Value} {S : List Nat} (h : Half1 w0 w Q ob ub s n lo mid v) (hl : Left S w w') (hS : ∀ k ∈ S, base ≤ k) (hm : mid ≤ base) (hm2 : w0.heap.size ≤ base) (hlo : lo ≤ mid)
    (hbs : s.D < base ∧ s.bs < base ∧ s.bw < base ∧ s.bl < base ∧ s.V < base) : Half1 w0 w' Q ob ub s n lo mid v := by
  have b1 := h.b1
  have b2 := h.b2
  have hn : ∀ {x : Nat}, x < base → x ∉ S := fun hx hk => by have := hS _ hk; omega
  refine ⟨h.head.left hl (hn (by omega)), h.owner.left hl (hn (by omega)), h.used_.left hl (hn (by omega)), h.r.leftB hl (fun k hk => ⟨fun hm => ?_, fun e => ?_, h.r.none_no k⟩), h.bl.trans (hl.belowB h.bl.size (fun k hk => by have := hS k hk; omega)), h.b1, h.b2, h.b3⟩
  · have := hS k hk
    simp only [Spot.all, List.mem_cons, List.mem_nil_iff, or_false] at hm
    omega
  · have := hS k hk
    omega
theorem Half1.set2 {w0 w : World} {Q ob ub : Nat} {s : Spot} {n lo mid : Nat} {v : Value} (h : Half1 w0 w Q ob ub s n lo mid v) (hm0 : w0.heap.size ≤ lo) (hlo : lo ≤ mid) (v' : Value) : Half1 w0 (w.setCell ⟨Q, 2, none⟩ v') Q ob ub s n lo mid v' ∧ Left [Q] w (w.setCell ⟨Q, 2, none⟩ v') := by
  have hl : Left [Q] w (w.setCell ⟨Q, 2, none⟩ v') := (Left.refl _ _).setCell (Or.inl (by simp)) _
  have b1 := h.b1
  have b2 := h.b2
  have b3 := h.b3
  refine ⟨⟨h.head.put 2 v', h.owner.left hl (by simpa using (h.head.ne h.owner (by decide)).symm), h.used_.left hl (by simpa using (h.head.ne h.used_ (by decide)).symm), h.r.leftB hl (fun k hk => ⟨fun hm => ?_, fun e => ?_, h.r.none_no k⟩), h.bl.trans (hl.belowB h.bl.size (fun k hk => by simp only [List.mem_singleton] at hk; omega)), h.b1, h.b2, h.b3⟩, hl⟩
  · simp only [List.mem_singleton] at hk
    simp only [Spot.all, List.mem_cons, List.mem_nil_iff, or_false] at hm
    omega
  · simp only [List.mem_singleton] at hk
    omega

def FreshQ (w : World) (n Q ob ub : Nat) (w' : World) : Prop :=
  Whole w' Q 153 [.pointer none, .pointer none, .slice none 0 0, .int .i64 n, .slice (some ⟨ob, 0, none⟩) n n, .slice (some ⟨ub, 0, none⟩) n n] ∧ Whole w' ob 3 ((List.replicate n (0 : Int)).map (.int .i64 ·)) ∧ Whole w' ub 4 ((List.replicate n false).map (.bool ·)) ∧
    Below w.heap.size w w' ∧ w.heap.size ≤ Q ∧ w.heap.size ≤ ob ∧ w.heap.size ≤ ub
theorem made_ints0 (n : Nat) : (madeCells #[.int .i64 0] n) = ((List.replicate n (0 : Int)).map (fun x : Int => Value.int .i64 x)).toArray := by
  apply Array.ext'
  rw [toList_madeCells_one]
  simp
theorem info_int0 : (Try.prog.info? 3).map (fun i => (i.zero, i.size, i.bytes)) = some (some (.int .i64 0), 1, 8) := by kernel_rfl

set_option maxRecDepth 20000 in
set_option maxHeartbeats 2000000 in
theorem fresh_any (w : World) (n nb : Nat) (hn : n = 16 ∧ nb = 1 ∨ n = 64 ∧ nb = 2) :
    Calls Try.prog 82 #[.int .i64 n] w fun e w' => ∃ z : QS, e = .returned (.pointer (some ⟨z.Q, 0, none⟩)) ∧ Fresh w w' z n := by
  have hq : isQ (n : Int) = true := by rcases hn with ⟨rfl, _⟩ | ⟨rfl, _⟩ <;> rfl
  obtain ⟨sz, hsz⟩ : ∃ sz : Nat, usedAt (n : Int) + 4 + 8 * (n : Int) = sz := by rcases hn with ⟨rfl, _⟩ | ⟨rfl, _⟩ <;> exact ⟨_, rfl⟩
  have hsz2 : sz ≤ 65536 := by rcases hn with ⟨rfl, _⟩ | ⟨rfl, _⟩ <;> (simp [usedAt] at hsz; omega)
  have HQ := Lib.hid hq
  have HZ := Lib.hid hsz
  have hn64 : n ≤ 64 := by omega
  clear hq hsz
  go_enter Try.func82, Try.ntmps82
  go_wp2_with fail
  refine (Layout_yes _ w HQ.out).mono ?_
  rintro e w1 ⟨rfl, hb1⟩
  rw [HZ.out]
  have hz1 := hb1.size
  go_wp2_with fail
  refine (New_ok sz w1 hsz2).mono ?_
  rintro e w2 ⟨rfl, hM, hb2⟩
  have hz2 := hb2.size
  have hmz := hM.head.lt
  have HM := Lib.hid hM
  have HBX := Lib.hid (hb1.trans (hb2.mono hz1))
  clear hM hb1 hb2
  have hmk1 := run_make_row' (P := Try.prog) 22 3 (.int .i64 0) 8 Try.underlying22 info_int0 rfl .i64 .i64 n (by omega) (by omega)
  have hmk2 := run_make_row' (P := Try.prog) 119 4 (.bool false) 1 Try.underlying119 info_bool rfl .i64 .i64 n (by omega) (by omega)
  go_upto_region 3 with fail
  go_cut [9] (fun s wx => ∃ Q ob ub, s = .pointer (some ⟨Q, 0, none⟩) ∧ FreshQ w2 n Q ob ub wx)
  case first =>
    go_wp2
    go_region
    all_goals go_wp2
    all_goals go_meet
    all_goals refine ⟨_, _, _, rfl, whole_drew (whole_new ?_), ?_, ?_, below_drew ?_, ?_, ?_, ?_⟩
    all_goals first
      | (simp; done)
      | omega
      | (refine whole_drew ?_; rw [made_bool, made_ints0]; repeat (first | (with_reducible refine whole_new ?_; simp; done) | with_reducible refine Whole.alloc ?_ _))
      | (repeat (with_reducible first | exact Below.refl _ _ | refine Below.alloc ?_ (by first | omega | (simp; done) | (simp; omega)) _))
  case rest =>
    obtain ⟨Q, ob, ub, rfl, hW, h1, h2, hb3, z1, z2, z3⟩ := hcut
    have HW := Lib.hid hW
    have HOb := Lib.hid h1
    have HUb := Lib.hid h2
    have hzc := hb3.size
    have HMc := Lib.hid (HM.out.belowH hb3)
    have HBc := Lib.hid (HBX.out.trans (hb3.mono (by omega)))
    have lq := hW.lt
    have lo_ := h1.lt
    have lu := h2.lt
    clear hW h1 h2 hb3 hmk1 hmk2 HM HBX
    have hsize : sizeAt (n : Int) ≤ (List.replicate sz (0 : UInt8)).length := by rw [List.length_replicate, ← HZ.out]; exact Int.le_refl _
    have HSZ := Lib.hid hsize
    clear hsize
    go_wp2_with fail
    refine (NewDriver_ok wc (w1.heap.size + 1) w1.heap.size (n : Int) _ HQ.out HMc.out HSZ.out).mono ?_
    rintro e w3 ⟨D, rfl, hb4, hD, bs, bw, bl, hbs, hbw, hbl, hDr⟩
    rw [Int.toNat_natCast] at hDr
    have HDr := Lib.hid hDr
    have hz3 := hb4.size
    have hW3 := HW.out.belowH hb4
    have f0 := hW3.free 0
    have d0 : w3.cell? ⟨Q, 0, none⟩ = some (.pointer none) := by rw [hW3.cell]; rfl
    have HW3 := Lib.hid hW3
    have HB4 := Lib.hid hb4
    clear hDr hW3 hb4
    go_upto_region 5 with fail
    obtain ⟨w4, hw4⟩ : ∃ w4, w4 = w3.setCell ⟨Q, 0, none⟩ (.pointer (some ⟨D, 0, none⟩)) := ⟨_, rfl⟩
    have hl4 : Left [Q] w3 w4 := hw4 ▸ (Left.refl [Q] w3).setCell (Or.inl (by simp)) _
    have hW4 : Whole w4 Q 153 [.pointer (some ⟨D, 0, none⟩), .pointer none, .slice none 0 0, .int .i64 n, .slice (some ⟨ob, 0, none⟩) n n, .slice (some ⟨ub, 0, none⟩) n n] := hw4 ▸ HW3.out.put 0 _
    have hNQ : ∀ k ∈ [Q], NoInt w3 k := fun k hk => by simp only [List.mem_singleton] at hk; subst hk; exact NoInt.of_whole HW3.out (by decide)
    have hDr4 := HDr.out.left hl4 hNQ (by simp; omega) (by simp; omega) (by simp; omega) (by simp; omega)
    rw [← hw4]
    have hz4 := hl4.size
    have HM4 := Lib.hid ((HMc.out.belowH HB4.out).left hl4 (by simp; omega) (by simp; omega))
    have HO4 := Lib.hid ((HOb.out.belowH HB4.out).left hl4 (by simpa using (HW.out.ne HOb.out (by decide)).symm))
    have HU4 := Lib.hid ((HUb.out.belowH HB4.out).left hl4 (by simpa using (HW.out.ne HUb.out (by decide)).symm))
    have HBB4 := Lib.hid ((HBc.out.trans (HB4.out.mono (by omega))).trans (hl4.belowB (B := w.heap.size) (by omega) (by simp; omega)))
    have HDr4 := Lib.hid hDr4
    have HW4 := Lib.hid hW4
    clear hl4 hW4 hNQ hDr4 hw4 f0 d0 HW3 HDr HMc HBc HOb HUb HW HB4
    go_wp2_with fail
    refine (NewDevice_ok w4 (w1.heap.size + 1) w1.heap.size (n : Int) _ HQ.out HM4.out HSZ.out).mono ?_
    rintro e w5 ⟨V, rfl, hb5, hV, hDev⟩
    have hz5 := hb5.size
    have hW5 := HW4.out.belowH hb5
    have f1 := hW5.free 1
    have d1 : w5.cell? ⟨Q, 1, none⟩ = some (.pointer none) := by rw [hW5.cell]; rfl
    have HW5 := Lib.hid hW5
    have HDev := Lib.hid hDev
    have HB5 := Lib.hid hb5
    have hvl := hDev.lt
    clear hW5 hDev hb5
    go_upto_region 6 with fail
    obtain ⟨w6, hw6⟩ : ∃ w6, w6 = w5.setCell ⟨Q, 1, none⟩ (.pointer (some ⟨V, 0, none⟩)) := ⟨_, rfl⟩
    have hl6 : Left [Q] w5 w6 := hw6 ▸ (Left.refl [Q] w5).setCell (Or.inl (by simp)) _
    have hW6 : Whole w6 Q 153 [.pointer (some ⟨D, 0, none⟩), .pointer (some ⟨V, 0, none⟩), .slice none 0 0, .int .i64 n, .slice (some ⟨ob, 0, none⟩) n n, .slice (some ⟨ub, 0, none⟩) n n] := hw6 ▸ HW5.out.put 1 _
    have hNQ : ∀ k ∈ [Q], NoInt w5 k := fun k hk => by simp only [List.mem_singleton] at hk; subst hk; exact NoInt.of_whole HW5.out (by decide)
    rw [← hw6]
    have hz6 := hl6.size
    have l1 := HDr4.out.head.lt
    have l2 := HDr4.out.busy.lt
    have l3 := HDr4.out.least.lt
    obtain ⟨WW, hWW, _⟩ := HDr4.out.way
    have l4 := hWW.lt
    have hDr6 := (HDr4.out.left (Left.of_below HB5.out []) (by simp) (by simp) (by simp) (by simp) (by simp)).left hl6 hNQ (by simp; omega) (by simp; omega) (by simp; omega) (by simp; omega)
    have hDv6 := HDev.out.left hl6 (by simp; omega)
    have hM6 := (HM4.out.belowH HB5.out).left hl6 (by simp; omega) (by simp; omega)
    have hR6 : RigG w6 ⟨D, bs, bw, bl, V, w1.heap.size + 1, w1.heap.size⟩ n [] [] n := by
      refine ⟨_, _, _, _, _, _, _, _, ⟨hDr6, hDv6, hM6, by rw [List.length_replicate]; exact hsz2, ?_, ?_, ?_⟩, Goes.start HQ.out (by rw [← HZ.out]; exact Int.le_refl _), ?_⟩
      · simp only; omega
      · simp only; omega
      · simp only; omega
      · have := freeN_all (bz := List.replicate n false) (fun x hx => by simp [List.getElem?_replicate] at hx)
        simpa using this
    have H6 : Hid (Half1 w w6 Q ob ub ⟨D, bs, bw, bl, V, w1.heap.size + 1, w1.heap.size⟩ n w2.heap.size wc.heap.size (.slice none 0 0)) := Lib.hid ⟨hW6, (HO4.out.belowH HB5.out).left hl6 (by simpa using (HW4.out.ne HO4.out (by decide)).symm), (HU4.out.belowH HB5.out).left hl6 (by simpa using (HW4.out.ne HU4.out (by decide)).symm), hR6, (HBB4.out.trans (HB5.out.mono (by omega))).trans (hl6.belowB (B := w.heap.size) (by omega) (by simp; omega)), ⟨by simp only; omega, by simp only; omega, by simp only; omega, by simp only; omega⟩, ⟨by omega, by omega, by omega, by omega, by omega, by omega⟩, ⟨by simp only; omega, by simp only; omega, by simp only; omega, by simp only; omega, by simp only; omega⟩⟩
    obtain ⟨s, hs⟩ : ∃ s : Spot, s = ⟨D, bs, bw, bl, V, w1.heap.size + 1, w1.heap.size⟩ := ⟨_, rfl⟩
    rw [← hs] at H6
    have hbase : s.D < w6.heap.size ∧ s.bs < w6.heap.size ∧ s.bw < w6.heap.size ∧ s.bl < w6.heap.size ∧ s.V < w6.heap.size := by rw [hs]; simp only; omega
    clear hl6 hW6 hNQ hDr6 hDv6 hM6 hR6 hw6 f1 d1 HDr4 HM4 HW4 HW5 HO4 HU4 HDev HB5 HBB4 HSZ hWW hs
    go_wp2
    go_loopw [10, 11, 12] (fun i _ _ wr => ∃ (k : Nat) (v : Value) (l : List (Nat × Nat)), i = .int .i64 k ∧ k ≤ nb ∧ l.length = k ∧ w6.heap.size ≤ wr.heap.size ∧ Hid (Half1 w wr Q ob ub s n w2.heap.size wc.heap.size v) ∧ Hid (Banks wr w6.heap.size v l)) (fun i _ _ _ => nb - (intOf i).toNat)
    case atStart => exact ⟨0, _, [], rfl, by omega, rfl, Nat.le_refl _, H6, Lib.hid ⟨World.ownsRow_nil _ _ _ _, (fun p hp => by cases hp), List.nodup_nil⟩⟩
    case round =>
      obtain ⟨k, v, l, rfl, hk, rfl, hzr, HH, HK⟩ := hrel
      by_cases hkn : l.length < nb
      · have hlt : (l.length : Int) * 65536 < (n : Int) * 2048 := by omega
        obtain ⟨ao, cap, rfl, hcp, hcm⟩ := (Rd.of_own HK.out.row).form
        go_wp2_with fail
        refine (New_ok 65536 wr (by omega)).mono ?_
        rintro e w7 ⟨rfl, hM7, hb7⟩
        have hl7 := Left.of_below hb7 []
        have hz7 := hb7.size
        have hm7 := hM7.head.lt
        have H7 := Lib.hid (HH.out.up (base := w6.heap.size) hl7 (by simp) (by omega) (by omega) (by omega) hbase)
        have K7 := Lib.hid (HK.out.left hl7 (by simp))
        have HM7 := Lib.hid hM7
        have hW7 := H7.out.head
        have c2 : w7.cell? ⟨Q, 2, none⟩ = some (.slice ao l.length cap) := by rw [hW7.cell]; rfl
        have HNE : Hid (∀ p ∈ l, p.2 ≠ wr.heap.size) := Lib.hid (fun p hp e => by have := (HK.out.mem p hp).1.bytes.lt; omega)
        have hlq : Q < w6.heap.size := by omega
        have hbt : l.length ≤ 2 := by omega
        clear hM7 hb7 hl7 hW7 hcm
        go_wp2_with (at_builtin; with_reducible refine wpList_app _ rfl (.tmp 65) (.tmp 67) _ rfl w6.heap.size 35 (.pointer none) 1 8 Try.underlying151 info_pm rfl (by omega) _ l.length (bankCells l) rfl (K7.out.row.alloc _) _ _ 1 [.pointer (some ⟨wr.heap.size + 1, 0, none⟩)] rfl (one_new _ _ _) (by simp [Value.oneCell']) ?_ ?_ ?_ ?_)
        · unfold maxLen; omega
        · omega
        · simp; omega
        intro v1 w8 hown1 hg1 _
        have hlA := (Left.refl [] w7).alloc (.cells #[.pointer (some ⟨wr.heap.size + 1, 0, none⟩)] 35)
        have K8 := Lib.hid ((K7.out.left hlA (by simp)).app ((HM7.out.left hlA (by simp) (by simp))) (by omega) (by omega) HNE.out hown1 hg1)
        have hlg := left_of_grown hg1
        have H8 := Lib.hid ((H7.out.up (base := w6.heap.size) hlA (by simp) (by omega) (by omega) (by omega) hbase).up (base := w6.heap.size) hlg (fun x hx => (K7.out.row.lt x (mem_ownL.1 hx)).1) (by omega) (by omega) (by omega) hbase)
        have hz8 := hlg.size
        have hzA : (w7.alloc (.cells #[.pointer (some ⟨wr.heap.size + 1, 0, none⟩)] 35)).heap.size = w7.heap.size + 1 := by simp
        obtain ⟨ao1, ac1, rfl, _, _⟩ := (Rd.of_own hown1).form
        have f2 := H8.out.head.free 2
        have d2 : w8.cell? ⟨Q, 2, none⟩ = some (.slice ao l.length cap) := by rw [H8.out.head.cell]; rfl
        clear hown1 hg1 hlA hlg c2
        go_wp2
        go_roundw
        case rel =>
          obtain ⟨H9, hl9⟩ := H8.out.set2 (by omega) (by omega) (.slice ao1 (l.length + 1) ac1)
          have hz9 := hl9.size
          exact ⟨l.length + 1, _, l ++ [(wr.heap.size + 1, wr.heap.size)], by go_num, by omega, by simp, by omega, Lib.hid H9, Lib.hid (K8.out.left hl9 (by simpa using hlq))⟩
        case measure => simp [intOf]; omega
      · have hke : l.length = nb := by omega
        have hlt : ¬ ((l.length : Int) * 65536 < (n : Int) * 2048) := by omega
        have HKE := Lib.hid hke
        clear hke
        go_wp2
        go_ret
        obtain ⟨z, hzq, hz⟩ := Fresh.of HH.out HK.out HKE.out (by omega) ⟨hn64, by omega⟩ hbase
        exact ⟨z, by rw [hzq]; rfl, hz⟩
end Go.Proofs.Ytfffehbipcikoaa
