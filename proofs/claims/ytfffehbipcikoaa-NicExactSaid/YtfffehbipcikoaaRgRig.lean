/- A driver and a device over one memory, and what is on its way: the contracts joined with the plain law. -/

import Derived.Test.YtfffehbipcikoaaRingPc
namespace Go.Proofs.Ytfffehbipcikoaa
open Go.RowKit Go.MapKept

/-- Where all lies. -/
structure Spot where
  D : Nat
  bs : Nat
  bw : Nat
  bl : Nat
  V : Nat
  m : Nat
  d : Nat
def Spot.all (s : Spot) : List Nat := [s.D, s.bs, s.bw, s.bl, s.V, s.d]
structure Rig (w : World) (s : Spot) (B : List UInt8) (q : Nat) (bz : List Bool) (wy : List (Int × List Nat)) (ls : List (Int × Int)) (wrt rdD wrV rdV : Nat) : Prop where
  drv : DrvAt w s.D s.bs s.bw s.bl s.m q false wrt rdD bz wy ls
  dev : DevAt w s.V s.m q false wrV rdV
  mem : MemAt 114 w s.m s.d B
  lenB : B.length ≤ 65536
  dist : s.V ≠ s.D ∧ s.V ≠ s.bs ∧ s.V ≠ s.bw ∧ s.V ≠ s.bl ∧ s.V ≠ s.d ∧ s.V ≠ s.m
  distm : s.m ≠ s.D ∧ s.m ≠ s.bs ∧ s.m ≠ s.bw ∧ s.m ≠ s.bl ∧ s.m ≠ s.d
  distd : s.d ≠ s.D ∧ s.d ≠ s.bs ∧ s.d ≠ s.bw ∧ s.d ≠ s.bl

section
variable {w w' : World} {s : Spot} {B : List UInt8} {q : Nat} {bz : List Bool} {wy : List (Int × List Nat)} {ls : List (Int × Int)} {wrt rdD wrV rdV : Nat} {want : List Fl} {out : List (Fl × Nat)} {free : Nat}

theorem way_lt {D bs bw bl m : Nat} {q' : Int} {br : Bool} {a b : Nat} (h : DrvAt w D bs bw bl m q' br a b bz wy ls) : bw < w.heap.size := by
  obtain ⟨W, hW, _⟩ := h.way
  exact hW.lt
theorem OwnI.leftB {v : Value} {own : List Nat} {S : List Nat} (h : OwnI w v own) (hl : Left S w w') (hS : ∀ k ∈ S, v.ownBlock ≠ some k) : OwnI w' v own := by
  refine ⟨h.1, ?_⟩
  rcases h.2 with hn | ⟨g, cap, cur, rfl, hb, hgg, rest⟩
  · exact .inl hn
  · exact .inr ⟨g, cap, cur, rfl, hb, (hl.block g (h.lt g rfl).2 (fun hm => hS g hm rfl)).trans hgg, rest⟩
theorem WayAt.leftB {S : List Nat} (hl : Left S w w') : ∀ {W : List (Int × Value)} {wy : List (Int × List Nat)}, (∀ k ∈ S, ∀ p ∈ W, p.2.ownBlock ≠ some k) → WayAt w W wy → WayAt w' W wy
  | [], [], _, _ => trivial
  | a :: W, _ :: _, hS, ⟨h1, h2, h3⟩ => ⟨h1, h2.leftB hl (fun k hk => hS k hk a (by simp)), WayAt.leftB hl (fun k hk p hp => hS k hk p (by simp [hp])) h3⟩
theorem DrvAt.leftB {D bs bw bl m : Nat} {q' : Int} {br : Bool} {a b : Nat} {S : List Nat} (h : DrvAt w D bs bw bl m q' br a b bz wy ls) (hl : Left S w w') (hS : ∀ k ∈ S, NoRow w bw k) (h1 : D ∉ S) (h2 : bs ∉ S) (h3 : bw ∉ S) (h4 : bl ∉ S) : DrvAt w' D bs bw bl m q' br a b bz wy ls := by
  obtain ⟨W, hW, hA⟩ := h.way
  exact ⟨h.head.left hl h1, h.busy.left hl h2, ⟨W, hW.left hl h3, hA.leftB hl (fun k hk => hS k hk W hW)⟩, h.least.left hl h4, h.ne, h.len⟩
theorem Rig.leftB {S : List Nat} (h : Rig w s B q bz wy ls wrt rdD wrV rdV) (hl : Left S w w') (hS : ∀ k ∈ S, k ∉ s.all ∧ k ≠ s.m ∧ NoRow w s.bw k) : Rig w' s B q bz wy ls wrt rdD wrV rdV := by
  have hn : ∀ x ∈ s.all, x ∉ S := fun x hx hm => (hS x hm).1 hx
  refine ⟨h.drv.leftB hl (fun k hk => (hS k hk).2.2) (hn _ (by simp [Spot.all])) (hn _ (by simp [Spot.all])) (hn _ (by simp [Spot.all])) (hn _ (by simp [Spot.all])), h.dev.left hl (hn _ (by simp [Spot.all])), h.mem.left hl (fun hm => (hS _ hm).2.1 rfl) (hn _ (by simp [Spot.all])), h.lenB, h.dist, h.distm, h.distd⟩
theorem Rig.left (h : Rig w s B q bz wy ls wrt rdD wrV rdV) (hl : Left [] w w') : Rig w' s B q bz wy ls wrt rdD wrV rdV :=
  ⟨h.drv.left hl (by simp) (by simp) (by simp) (by simp) (by simp), h.dev.left hl (by simp), h.mem.left hl (by simp) (by simp), h.lenB, h.dist, h.distm, h.distd⟩

/-- All is well; just these are on their way. -/
def RigG (w : World) (s : Spot) (q : Nat) (want : List Fl) (out : List (Fl × Nat)) (free : Nat) : Prop :=
  ∃ B bz wy ls wrt rdD wrV rdV, Rig w s B q bz wy ls wrt rdD wrV rdV ∧ Goes B q bz wy ls wrt rdD wrV rdV want out ∧ freeN bz = free
/-- .. of which the first one was popped. -/
def RigP (w : World) (s : Spot) (q : Nat) (f : Fl) (want : List Fl) (out : List (Fl × Nat)) (free : Nat) : Prop :=
  ∃ B bz wy ls wrt rdD wrV rdV, Rig w s B q bz wy ls wrt rdD wrV ((rdV + 1) % 65536) ∧ Goes B q bz wy ls wrt rdD wrV rdV (f :: want) out ∧ freeN bz = free

theorem RigG.left (h : RigG w s q want out free) (hl : Left [] w w') : RigG w' s q want out free := by
  obtain ⟨B, bz, wy, ls, wrt, rdD, wrV, rdV, h1, h2⟩ := h
  exact ⟨B, bz, wy, ls, wrt, rdD, wrV, rdV, h1.left hl, h2⟩
theorem RigP.left {f : Fl} (h : RigP w s q f want out free) (hl : Left [] w w') : RigP w' s q f want out free := by
  obtain ⟨B, bz, wy, ls, wrt, rdD, wrV, rdV, h1, h2⟩ := h
  exact ⟨B, bz, wy, ls, wrt, rdD, wrV, rdV, h1.left hl, h2⟩
theorem RigG.leftB {S : List Nat} (h : RigG w s q want out free) (hl : Left S w w') (hS : ∀ k ∈ S, k ∉ s.all ∧ k ≠ s.m ∧ NoRow w s.bw k) : RigG w' s q want out free := by
  obtain ⟨B, bz, wy, ls, wrt, rdD, wrV, rdV, h1, h2⟩ := h
  exact ⟨B, bz, wy, ls, wrt, rdD, wrV, rdV, h1.leftB hl hS, h2⟩
theorem RigP.leftB {S : List Nat} {f : Fl} (h : RigP w s q f want out free) (hl : Left S w w') (hS : ∀ k ∈ S, k ∉ s.all ∧ k ≠ s.m ∧ NoRow w s.bw k) : RigP w' s q f want out free := by
  obtain ⟨B, bz, wy, ls, wrt, rdD, wrV, rdV, h1, h2⟩ := h
  exact ⟨B, bz, wy, ls, wrt, rdD, wrV, rdV, h1.leftB hl hS, h2⟩
theorem RigG.bw_lt (h : RigG w s q want out free) : s.bw < w.heap.size := by
  obtain ⟨B, bz, wy, ls, wrt, rdD, wrV, rdV, h1, h2⟩ := h
  exact way_lt h1.drv
theorem RigP.bw_lt {f : Fl} (h : RigP w s q f want out free) : s.bw < w.heap.size := by
  obtain ⟨B, bz, wy, ls, wrt, rdD, wrV, rdV, h1, h2⟩ := h
  exact way_lt h1.drv
theorem RigG.lt (h : RigG w s q want out free) : ∀ k ∈ s.all, k < w.heap.size := by
  obtain ⟨B, bz, wy, ls, wrt, rdD, wrV, rdV, h1, h2⟩ := h
  obtain ⟨W, hW, _⟩ := h1.drv.way
  intro k hk
  simp only [Spot.all, List.mem_cons, List.mem_nil_iff, or_false] at hk
  rcases hk with rfl | rfl | rfl | rfl | rfl | rfl
  · exact h1.drv.head.lt
  · exact h1.drv.busy.lt
  · exact hW.lt
  · exact h1.drv.least.lt
  · exact h1.dev.lt
  · exact h1.mem.bytes.lt
theorem RigG.q_range (h : RigG w s q want out free) : 1 ≤ q ∧ q ≤ 64 := by
  obtain ⟨B, bz, wy, ls, wrt, rdD, wrV, rdV, h1, h2, _⟩ := h
  exact h2.q_range
theorem RigG.free_le (h : RigG w s q want out free) : free ≤ q := by
  obtain ⟨B, bz, wy, ls, wrt, rdD, wrV, rdV, h1, h2, rfl⟩ := h
  have := h2.room
  omega

theorem free_takes {bz : List Bool} {wy : List (Int × List Nat)} {ls : List (Int × Int)} {A : List Fl} {L : List Buf} {o0 : Nat} (h : Held bz wy ls A) (hL : bufsB L = true) (hf : L.length ≤ freeN bz) (ho : (takes bz L.length)[0]? = some o0) : freeN (setAll bz (takes bz L.length) true) = freeN bz - L.length := by
  have h1 := h.free
  have h2 := (h.add hL hf ho).free
  rw [setAll_length, List.flatMap_cons, List.length_append] at h2
  have h3 : (takes bz L.length).length = L.length := by rw [takes_length]; omega
  simp only at h2
  omega
theorem free_del {bz : List Bool} {wy : List (Int × List Nat)} {ls : List (Int × Int)} {A : List Fl} {f : Fl} (h : Held bz wy ls (f :: A)) : freeN (setAll bz f.own false) = freeN bz + f.L.length := by
  have h1 := h.free
  have h2 := h.del.free
  obtain ⟨_, h3, _⟩ := h.ok f (by simp)
  rw [setAll_length] at h2
  rw [List.flatMap_cons, List.length_append] at h1
  omega

theorem RigG.add {v : Value} {L : List Buf} (h : RigG w s q want out free) (hR : Rd w w.heap.size 3 v L.length (bufCells L)) (hne : v.ownBlock ≠ some s.d ∧ v.ownBlock ≠ some s.bs) (hL : bufsB L = true) (hf : L.length ≤ free) :
    Calls Try.prog 45 #[.pointer (some ⟨s.D, 0, none⟩), v] w fun e w' => ∃ own : List Nat, (⟨own, L⟩ : Fl).h < q ∧ e = .returned (.tuple #[.int .i64 ((⟨own, L⟩ : Fl).h : Nat), .int .i64 0]) ∧ RigG w' s q (want ++ [⟨own, L⟩]) out (free - L.length) ∧ Left s.all w w' ∧ ∀ k, k < w.heap.size → NoRow w s.bw k → NoRow w' s.bw k := by
  obtain ⟨B, bz, wy, ls, wrt, rdD, wrV, rdV, h1, h2, rfl⟩ := h
  have hlen := h2.len
  have hq := h2.q_range
  refine (Add_try w s.D s.bs s.bw s.bl q s.m wrt rdD bz wy ls v L h1.drv (by omega) s.d B h1.mem h1.lenB hR hne hL hf (by have := h2.w1; omega) h2.held.free_key).mono ?_
  rintro e w' ⟨o0, ho, rfl, hd, hm, hl, hno⟩
  have hlen2 : (takes bz L.length).length = L.length := by rw [takes_length]; omega
  have hh : (⟨takes bz L.length, L⟩ : Fl).h = o0 := by
    unfold Fl.h
    cases hc : takes bz L.length with
    | nil => rw [hc] at ho; simp at ho
    | cons y r => rw [hc] at ho; simpa using ho
  have ho1 := (List.getElem?_eq_some_iff.1 (takes_mem (List.mem_of_getElem? ho))).1
  obtain ⟨d1, d2, d3, d4, d5, d6⟩ := h1.dist
  refine ⟨takes bz L.length, by rw [hh]; omega, by rw [hh], ?_, hl.mono (by simp [Spot.all]), hno⟩
  rw [hlen] at hm
  refine ⟨_, _, _, _, _, _, _, _, ⟨hd, h1.dev.left hl (by simp [d1, d2, d3, d4, d5]), hm, ?_, h1.dist, h1.distm, h1.distd⟩, h2.add hL hf ho, free_takes h2.held hL hf ho⟩
  unfold addB
  rw [putV_length, putV_length, descsB_length]
  exact h1.lenB
theorem RigG.add_full {v : Value} {L : List Buf} (h : RigG w s q want out free) (hR : Rd w w.heap.size 3 v L.length (bufCells L)) (hL : bufsB L = true) (hf : free < L.length) :
    Calls Try.prog 45 #[.pointer (some ⟨s.D, 0, none⟩), v] w fun e w' => e = .returned (.tuple #[.int .i64 0, .int .i64 5]) ∧ Below w.heap.size w w' := by
  obtain ⟨B, bz, wy, ls, wrt, rdD, wrV, rdV, h1, h2, rfl⟩ := h
  have hlen := h2.len
  have hq := h2.q_range
  exact Add_full w s.D s.bs s.bw s.bl q s.m wrt rdD bz wy ls v L h1.drv (by omega) hR hL hf
theorem RigG.free_any (h : RigG w s q want out free) : Calls Try.prog 39 #[.pointer (some ⟨s.D, 0, none⟩)] w fun e w' => e = .returned (.int .i64 free) ∧ w' = w := by
  obtain ⟨B, bz, wy, ls, wrt, rdD, wrV, rdV, h1, h2, rfl⟩ := h
  have hlen := h2.len
  have hq := h2.q_range
  exact Free_any w s.D s.bs q s.m false wrt rdD bz _ _ h1.drv.head h1.drv.busy (by omega)
theorem RigG.pop_none (h : RigG w s q [] out free) : Calls Try.prog 40 #[.pointer (some ⟨s.V, 0, none⟩)] w fun e w' => e = .returned (.tuple #[.int .i64 0, .slice none 0 0, .bool false, .int .i64 0]) ∧ Left [] w w' := by
  obtain ⟨B, bz, wy, ls, wrt, rdD, wrV, rdV, h1, h2, rfl⟩ := h
  exact Pop_none w s.V q s.m s.d wrV rdV B h1.dev h1.mem h1.lenB (by have := h2.r1; omega) h2.q_range h2.pop_none
theorem RigG.pop {f : Fl} (h : RigG w s q (f :: want) out free) : Calls Try.prog 40 #[.pointer (some ⟨s.V, 0, none⟩)] w fun e w' => ∃ lv, e = .returned (.tuple #[.int .i64 (f.h : Nat), lv, .bool true, .int .i64 0]) ∧ w'.ownsRow w.heap.size 89 3 lv f.L.length (bufCells f.L) ∧ RigP w' s q f want out free ∧ Left s.all w w' ∧ f.h < q ∧ ∀ k, NoRow w s.bw k → NoRow w' s.bw k := by
  obtain ⟨B, bz, wy, ls, wrt, rdD, wrV, rdV, h1, h2, rfl⟩ := h
  obtain ⟨p1, p2, p3, p4, p5⟩ := h2.pop
  refine (Pop_ok w s.V q s.m s.d wrV rdV B f.h _ f.L h1.dev h1.mem h1.lenB (by have := h2.r1; omega) h2.q_range p1 (by omega) (by omega) p3 p5).mono ?_
  rintro e w' ⟨lv, rfl, ho, hd, hl⟩
  obtain ⟨d1, d2, d3, d4, d5, d6⟩ := h1.dist
  have hN : ∀ k ∈ [s.V], NoInt w k := by
    intro k hk
    simp at hk
    subst hk
    exact NoInt.of_whole h1.dev (by decide)
  refine ⟨lv, rfl, ho, ⟨_, _, _, _, _, _, _, _, ⟨h1.drv.left hl hN (by simp [d1.symm]) (by simp [d2.symm]) (by simp [d3.symm]) (by simp [d4.symm]), hd, h1.mem.left hl (by simp [d6.symm]) (by simp [d5.symm]), h1.lenB, h1.dist, h1.distm, h1.distd⟩, h2, rfl⟩, hl.mono (by simp [Spot.all]), p4, fun k hk => hk.left hl (by simp [d3.symm]) (way_lt h1.drv)⟩
theorem RigP.push {f : Fl} {n : Nat} (h : RigP w s q f want out free) (hn : (n : Int) ≤ wsum f.L) (hn2 : n ≤ 4294967295) :
    Calls Try.prog 42 #[.pointer (some ⟨s.V, 0, none⟩), .int .i64 (f.h : Nat), .int .i64 n] w fun e w' => e = .returned (.int .i64 0) ∧ RigG w' s q want (out ++ [(f, n)]) free ∧ Left s.all w w' ∧ ∀ k, NoRow w s.bw k → NoRow w' s.bw k := by
  obtain ⟨B, bz, wy, ls, wrt, rdD, wrV, rdV, h1, h2, rfl⟩ := h
  obtain ⟨p1, p2, p3, p4, p5⟩ := h2.pop
  refine (Push_ok w s.V q s.m s.d wrV _ B f.h n h1.dev h1.mem h1.lenB (by have := h2.w2; omega) h2.q_range p4 hn2).mono ?_
  rintro e w' ⟨rfl, hd, hm, hl⟩
  obtain ⟨d1, d2, d3, d4, d5, d6⟩ := h1.dist
  obtain ⟨e1, e2, e3, e4⟩ := h1.distd
  have hN : ∀ k ∈ [s.V, s.d], NoInt w k := by
    intro k hk
    simp at hk
    rcases hk with rfl | rfl
    · exact NoInt.of_whole h1.dev (by decide)
    · exact NoInt.of_whole h1.mem.bytes (by decide)
  refine ⟨rfl, ⟨_, _, _, _, _, _, _, _, ⟨h1.drv.left hl hN (by simp [d1.symm, e1.symm]) (by simp [d2.symm, e2.symm]) (by simp [d3.symm, e3.symm]) (by simp [d4.symm, e4.symm]), hd, hm, ?_, h1.dist, h1.distm, h1.distd⟩, h2.push hn hn2, rfl⟩, hl.mono (by simp [Spot.all]), fun k hk => hk.left hl (by simp [d3.symm, e3.symm]) (way_lt h1.drv)⟩
  unfold pushB
  rw [putV_length, putV_length, putV_length]
  exact h1.lenB
theorem RigG.used_none (h : RigG w s q want [] free) : Calls Try.prog 43 #[.pointer (some ⟨s.D, 0, none⟩)] w fun e w' => e = .returned (.tuple #[.int .i64 0, .int .i64 0, .bool false, .int .i64 0]) ∧ Left [] w w' := by
  obtain ⟨B, bz, wy, ls, wrt, rdD, wrV, rdV, h1, h2, rfl⟩ := h
  refine (Used_none w s.D q s.m s.d wrt rdD _ B h1.drv.head h1.mem h1.lenB (by have := h2.r2; omega) (by have := h2.q_range; omega) h2.used_none).mono ?_
  rintro e w' ⟨rfl, n, rfl⟩
  exact ⟨rfl, (Left.refl _ _).drewN n⟩
theorem RigG.used {f : Fl} {n : Nat} (h : RigG w s q want ((f, n) :: out) free) : Calls Try.prog 43 #[.pointer (some ⟨s.D, 0, none⟩)] w fun e w' => e = .returned (.tuple #[.int .i64 (f.h : Nat), .int .i64 (n : Nat), .bool true, .int .i64 0]) ∧ RigG w' s q want out (free + f.L.length) ∧ Left s.all w w' ∧ ∀ k, NoRow w s.bw k → NoRow w' s.bw k := by
  obtain ⟨B, bz, wy, ls, wrt, rdD, wrV, rdV, h1, h2, rfl⟩ := h
  obtain ⟨p1, p2, p3, p4, p5, p6, p7, p8⟩ := h2.used
  have hlen := h2.len
  have hq := h2.q_range
  have hdrv := h1.drv
  subst hlen
  refine (Used_ok w s.D s.bs s.bw s.bl s.m s.d wrt rdD bz wy ls B _ _ _ f.own hdrv h1.mem h1.lenB (by have := h2.r2; omega) hq.1 hq.2 p1 (by omega) p3 p4 p2 p5 p6 p7).mono ?_
  rintro e w' ⟨rfl, hd, hl, hno⟩
  obtain ⟨d1, d2, d3, d4, d5, d6⟩ := h1.dist
  obtain ⟨e1, e2, e3, e4⟩ := h1.distd
  obtain ⟨m1, m2, m3, m4, m5⟩ := h1.distm
  have hperm : (want ++ ((f, n) :: out).map (·.1)).Perm (f :: (want ++ out.map (·.1))) := by simp
  exact ⟨rfl, ⟨_, _, _, _, _, _, _, _, ⟨hd, h1.dev.left hl (by simp [d1, d2, d3, d4]), h1.mem.left hl (by simp [m1, m2, m3, m4]) (by simp [e1, e2, e3, e4]), h1.lenB, h1.dist, h1.distm, h1.distd⟩, p8, free_del (h2.held.perm hperm)⟩, hl.mono (by simp [Spot.all]), hno⟩
end
end Go.Proofs.Ytfffehbipcikoaa
