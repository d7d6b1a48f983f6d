/- The network card: Send and Out. -/


import Derived.Test.YtfffehbipcikoaaNcRx
namespace Go.Proofs.Ytfffehbipcikoaa
open Go.RowKit Go.MapKept

section
variable {w w' : World} {N lo hi drop : Nat} {rx tx : QS} {In Out : List (List UInt8)}
theorem TxG.count {z : QS} {F : List (List UInt8)} (h : TxG w z F) : F.length ≤ 64 := by
  obtain ⟨own, used, Bk, G, h1, rfl⟩ := h
  have := h1.fu
  simp
  omega
set_option maxHeartbeats 1000000 in
theorem Send_form (h : NicG w N rx tx lo hi In Out drop) (ao : Option Addr) (n cap : Nat) (hb : wholeB n = false) :
    Calls Try.prog 54 #[.pointer (some ⟨N, 0, none⟩), .slice ao n cap] w fun e w' => e = .returned (.int .i64 1) ∧ w = w' := by
  have HWB := Lib.hid hb
  clear hb h
  go_enter Try.func54, Try.ntmps54
  go_wp2_with (go_at_call 85; refine (whole_any _ _ _ _).mono ?_; rintro e w' ⟨rfl, rfl⟩; rw [HWB.out])
  go_ret
  exact ⟨rfl, rfl⟩
set_option maxHeartbeats 1000000 in
theorem Send_full (h : NicG w N rx tx lo hi In Out drop) (ao : Option Addr) (n cap : Nat) (hb : wholeB n = true) (hf : Out.length = 64) :
    Calls Try.prog 54 #[.pointer (some ⟨N, 0, none⟩), .slice ao n cap] w fun e w' => e = .returned (.int .i64 5) ∧ w = w' := by
  have HWB := Lib.hid hb
  have c3 : w.cell? ⟨N, 3, none⟩ = some (.int .i64 Out.length) := by rw [h.head.cell]; rfl
  have hlen2 : ((Out.length : Int) == 64) = true := by simp [hf]
  clear hb h hf
  go_enter Try.func54, Try.ntmps54
  go_wp2_with (go_at_call 85; refine (whole_any _ _ _ _).mono ?_; rintro e w' ⟨rfl, rfl⟩; rw [HWB.out])
  go_ret
  exact ⟨rfl, rfl⟩
set_option maxRecDepth 20000 in
set_option maxHeartbeats 2000000 in
theorem Send_ok (h : NicG w N rx tx lo hi In Out drop) {v : Value} {b : List UInt8} (hr : Rd w w.heap.size 1 v b.length (u8s b)) (hv : ∀ k, v.ownBlock = some k → k ∉ tx.all) (hb : wholeB b.length = true) (hin : Out.length < 64) :
    Calls Try.prog 54 #[.pointer (some ⟨N, 0, none⟩), v] w fun e w' => e = .returned (.int .i64 0) ∧ NicG w' N rx tx lo hi In (Out ++ [b]) drop ∧ Left (N :: tx.all) w w' ∧ Keep2 w w' rx tx := by
  have HG := Lib.hid h
  obtain ⟨own, used, Bk, G, hT, hO⟩ := h.tx_
  have HOUT := Lib.hid hO
  have hOl : G.length = Out.length := by rw [← hO]; simp
  have hb2 : 14 ≤ b.length ∧ b.length ≤ 1514 := by simpa [wholeB] using hb
  obtain ⟨k, hk1, hk2⟩ := first_free (l := used) (by have := hT.fu; omega)
  have hk64 : k < 64 := by have := (List.getElem?_eq_some_iff.1 hk1).1; have := hT.q.len.2; omega
  have hW := h.head
  have c1 : w.cell? ⟨N, 1, none⟩ = some (.pointer (some ⟨tx.Q, 0, none⟩)) := by rw [hW.cell]; rfl
  have c3 : w.cell? ⟨N, 3, none⟩ = some (.int .i64 Out.length) := by rw [hW.cell]; rfl
  have HFREE := Lib.hid (qfree_any hT.q hk1 hk2)
  have hst := store_any hT.q hk64 hr (by omega)
  have HST := Lib.hid hst
  have HT := Lib.hid hT
  have HW := Lib.hid hW
  have HWB := Lib.hid hb
  have HK1 := Lib.hid hk1
  have HOL := Lib.hid hOl
  have hlen2 : ((Out.length : Int) == 64) = false := beq_eq_false_iff_ne.2 (by omega)
  have hap := h.ap.2
  have HAP := Lib.hid hap
  have hnr := h.nor
  have hrng := h.rng
  have hhi := h.hi_
  have hdis := h.dis.2.2
  obtain ⟨ao, cap, rfl, hcap, hcapm⟩ := hr.form
  clear h hT hO hr hb hW hOl hcapm hk1 hk2 hst
  have hsA : ∀ x ∈ tx.s.all, x ∈ tx.all := fun x hx => QS.all_mem.2 (.inr (.inl hx))
  have hbA : ∀ x ∈ tx.blocks, x ∈ tx.all := fun x hx => QS.all_mem.2 (.inl hx)
  have hsB : ∀ x ∈ tx.s.all, x ∉ tx.blocks := fun x hx hm => (hap x hm).1 hx
  go_enter Try.func54, Try.ntmps54
  go_wp2_with (go_at_call 85; refine (whole_any _ _ _ _).mono ?_; rintro e w' ⟨rfl, rfl⟩; rw [HWB.out])
  refine HFREE.out.mono ?_
  rintro e wx ⟨rfl, hwx⟩
  subst hwx
  go_wp2_with fail
  refine HST.out.mono ?_
  rintro e w1 ⟨rfl, hq1, hl1⟩
  have hnb := HT.out.q.nbk hk64
  have hbd : tx.bd (k / 32) ∈ tx.blocks := (tx.memB hnb).2
  have hno1 : ∀ x, x < wx.heap.size → NoRow wx tx.s.bw x → NoRow w1 tx.s.bw x := fun x hx hn => hn.left hl1 (fun hm => by simp only [List.mem_singleton] at hm; exact (hap _ hbd).1 (hm ▸ by simp [Spot.all])) HT.out.r.bw_lt
  have hR1 : RigG w1 tx.s 64 (G.map (·.1)) [] (64 - G.length) := HT.out.r.leftB hl1 (fun x hx => by
    simp only [List.mem_singleton] at hx
    subst hx
    exact ⟨(hap _ hbd).1, (hap _ hbd).2, (hnr _ (by simp [hbA _ hbd])).2⟩)
  have hW1 := HW.out.left hl1 (by simp only [List.mem_singleton]; intro e; exact hdis (e ▸ hbA _ hbd))
  have hz1 := hl1.size
  have d1 : w1.cell? ⟨N, 1, none⟩ = some (.pointer (some ⟨tx.Q, 0, none⟩)) := by rw [hW1.cell]; rfl
  have HQ1 := Lib.hid hq1
  have HR1 := Lib.hid hR1
  have HW1 := Lib.hid hW1
  have HL1 := Lib.hid hl1
  have HN1 := Lib.hid hno1
  clear hq1 hR1 hW1 hl1 hno1 c1 c3
  have hput := put_any HQ1.out HR1.out HAP.out (fun x hx => HN1.out x (Nat.lt_of_lt_of_le (hrng x (by simp [hbA x hx])).2 hhi) (hnr x (by simp [hbA x hx])).2) (by have := HOL.out; omega) hk64 (m := b.length) (by omega) (by omega) false
  have HPUT := Lib.hid hput
  clear hput
  go_wp2_with fail
  refine HPUT.out.mono ?_
  rintro e w2 ⟨rfl, f, hf1, hf2, hq2, hr2, hl2, hno2⟩
  have hLbA : ∀ x ∈ tx.s.all ++ [tx.ob, tx.ub], x ∈ tx.all := fun x hx => by
    rcases List.mem_append.1 hx with hx | hx
    · exact hsA x hx
    · simp only [List.mem_cons, List.mem_nil_iff, or_false] at hx
      rcases hx with rfl | rfl
      · exact hbA _ tx.mem4.2.1
      · exact hbA _ tx.mem4.2.2.1
  have hW2 := HW1.out.left hl2 (fun hm => hdis (hLbA _ hm))
  have e3 : w2.cell? ⟨N, 3, none⟩ = some (.int .i64 Out.length) := by rw [hW2.cell]; rfl
  have ef := hW2.free 3
  have HQ2 := Lib.hid hq2
  have HR2 := Lib.hid hr2
  have HL2 := Lib.hid hl2
  have HN2 := Lib.hid hno2
  have HW2 := Lib.hid hW2
  have HF1 := Lib.hid hf1
  have HLA := Lib.hid hLbA
  clear hq2 hr2 hl2 hno2 hW2 hf1 hLbA d1
  go_wp2_with fail
  go_ret
  have hl3 : Left [N] w2 (w2.setCell ⟨N, 3, none⟩ (.int .i64 (((Out ++ [b]).length : Nat) : Int))) := (Left.refl _ _).setCell (Or.inl (by simp)) _
  have hNr : NoRow wx tx.s.bw N := (hnr _ (by simp)).2
  have hNr2 : NoRow w2 tx.s.bw N := HN2.out _ HW1.out.lt (HN1.out _ HW.out.lt hNr)
  have hheads := HR2.out.heads
  rw [List.map_nil, List.append_nil] at hheads
  obtain ⟨p1, p2, p3⟩ := tx_send (f := f) (b := b) HT.out.slot HT.out.nd HT.out.fr (HT.out.q.bl _ hnb) hb2 hk64 HK1.out HF1.out (by have := HT.out.q.len.1; omega) hheads
  have hTx2 : TxAt w2 tx (own.set f.h k) (used.set k true) (slotW Bk k b) (G ++ [(f, k, b)]) := ⟨HQ2.out, by rw [List.map_append, List.length_append, List.length_singleton, ← Nat.sub_sub]; exact HR2.out, p1, p2, p3, by have := freeN_set_true HK1.out; have := HT.out.fu; rw [List.length_append, List.length_singleton]; omega⟩
  have hTx3 := hTx2.left hl3 (fun x hx => by simp only [List.mem_singleton] at hx; subst hx; exact ⟨hdis, hNr2⟩)
  have hLA : Left (N :: tx.all) wx (w2.setCell ⟨N, 3, none⟩ (.int .i64 (((Out ++ [b]).length : Nat) : Int))) := by
    have a1 := HL1.out.mono (T := N :: tx.all) (fun x hx => by simp only [List.mem_singleton] at hx; subst hx; exact List.mem_cons_of_mem _ (hbA _ hbd))
    have a2 := HL2.out.mono (T := N :: tx.all) (fun x hx => List.mem_cons_of_mem _ (HLA.out x hx))
    have a3 := hl3.mono (T := N :: tx.all) (by simp)
    exact (a1.trans a2 (fun x hx => .inl hx)).trans a3 (fun x hx => .inl hx)
  obtain ⟨e1, e2⟩ := HG.out.tx_done (Out' := Out ++ [b]) (drop' := drop) hLA ⟨_, _, _, G ++ [(f, k, b)], hTx3, by rw [List.map_append, HOUT.out]; rfl⟩ (HW2.out.put 3 _) (fun x hx hn => (HN2.out _ (by omega) (HN1.out x hx hn)).left hl3 (fun hm => by simp only [List.mem_singleton] at hm; exact hdis (hm ▸ bw_all tx)) HR2.out.bw_lt)
  have he : (((Out ++ [b]).length : Nat) : Int) = (Out.length : Int) + 1 := by simp
  rw [he] at e1 e2 hLA
  exact ⟨rfl, e1, hLA, e2⟩

set_option maxRecDepth 20000 in
set_option maxHeartbeats 2000000 in
theorem Out_none (h : NicG w N rx tx lo hi In [] drop) :
    Calls Try.prog 56 #[.pointer (some ⟨N, 0, none⟩)] w fun e w' => e = .returned (.tuple #[.slice none 0 0, .bool false]) ∧ NicG w' N rx tx lo hi In [] drop ∧ Left [] w w' ∧ Keep2 w w' rx tx := by
  have HG := Lib.hid h
  obtain ⟨own, used, Bk, G, hT, hO⟩ := h.tx_
  have hO0 : G = [] := List.map_eq_nil_iff.1 hO
  subst hO0
  have hW := h.head
  have c1 : w.cell? ⟨N, 1, none⟩ = some (.pointer (some ⟨tx.Q, 0, none⟩)) := by rw [hW.cell]; rfl
  obtain ⟨cap0, hQ0, _, _⟩ := hT.q.head
  have q1 : w.cell? ⟨tx.Q, 1, none⟩ = some (.pointer (some ⟨tx.s.V, 0, none⟩)) := by rw [hQ0.cell]; rfl
  have HR := Lib.hid hT.r
  clear h hT hO hW hQ0
  go_enter Try.func56, Try.ntmps56
  go_wp2_with fail
  refine (RigG.pop_none (show RigG w tx.s 64 [] [] _ from HR.out)).mono ?_
  rintro e w1 ⟨rfl, hl⟩
  go_wp2
  go_ret2
  obtain ⟨a, b⟩ := HG.out.left0 hl
  exact ⟨rfl, a, hl, b⟩

theorem wsum_none_of {f : Fl} {a n : Int} (hf : f.L = [⟨a, n, false⟩]) : wsum f.L = 0 := by rw [hf]; simp [wsum]
set_option maxRecDepth 20000 in
set_option maxHeartbeats 4000000 in
theorem Out_some {b : List UInt8} (h : NicG w N rx tx lo hi In (b :: Out) drop) :
    Calls Try.prog 56 #[.pointer (some ⟨N, 0, none⟩)] w fun e w' => ∃ v, e = .returned (.tuple #[v, .bool true]) ∧ w'.ownsRow w.heap.size 5 1 v b.length (u8s b) ∧ NicG w' N rx tx lo hi In Out drop ∧ Left (N :: tx.all) w w' ∧ Keep2 w w' rx tx := by
  have HG := Lib.hid h
  obtain ⟨own, used, Bk, G, hT, hO⟩ := h.tx_
  cases G with
  | nil => simp at hO
  | cons p G =>
  obtain ⟨f, k, b'⟩ := p
  rw [List.map_cons] at hO
  injection hO with hb hO
  simp only at hb
  subst hb
  have HOUT := Lib.hid hO
  have hin : Out.length < 64 := by have := hT.fu; rw [← hO]; simp at this ⊢; omega
  have HCN : Hid (G.length + 1 ≤ 64) := Lib.hid (by have := hT.fu; simp at this; omega)
  obtain ⟨sl1, sl2, sl3, sl4⟩ := hT.slot (f, k, b') (by simp)
  simp only at sl1 sl2 sl3 sl4
  obtain ⟨fr1, fr2, fr3⟩ := hT.fr (f, k, b') (by simp)
  simp only at fr1 fr2 fr3
  have hW := h.head
  have c1 : w.cell? ⟨N, 1, none⟩ = some (.pointer (some ⟨tx.Q, 0, none⟩)) := by rw [hW.cell]; rfl
  obtain ⟨cap0, hQ0, _, _⟩ := hT.q.head
  have q1 : w.cell? ⟨tx.Q, 1, none⟩ = some (.pointer (some ⟨tx.s.V, 0, none⟩)) := by rw [hQ0.cell]; rfl
  have HT := Lib.hid hT
  have HW := Lib.hid hW
  have HQ0 := Lib.hid hQ0
  have HS1 := Lib.hid sl1
  have HS3 := Lib.hid sl3
  have HF1 := Lib.hid fr1
  have hap := h.ap.2
  have hnr := h.nor
  have hdis := h.dis.2.2
  have hrng := h.rng
  have hhi := h.hi_
  clear h hT hO sl1 sl3 fr1 hW hQ0
  have hsA : ∀ x ∈ tx.s.all, x ∈ tx.all := fun x hx => QS.all_mem.2 (.inr (.inl hx))
  have hbA : ∀ x ∈ tx.blocks, x ∈ tx.all := fun x hx => QS.all_mem.2 (.inl hx)
  have hsB : ∀ x ∈ tx.s.all, x ∉ tx.blocks := fun x hx hm => (hap x hm).1 hx
  have hslt : ∀ x ∈ tx.s.all, x < w.heap.size := fun x hx => Nat.lt_of_lt_of_le (hrng x (by simp [hsA x hx])).2 hhi
  go_enter Try.func56, Try.ntmps56
  go_wp2_with fail
  refine (RigG.pop (show RigG w tx.s 64 (f :: G.map (·.1)) [] (64 - (G.length + 1)) from HT.out.r)).mono ?_
  rintro e w1 ⟨lv, rfl, hown, hP, hl1, hfh, hno1⟩
  rw [HS3.out] at hown
  replace hown : w1.ownsRow w.heap.size 89 3 lv 1 (bufCells [⟨((k * 2048 : Nat) : Int), (b'.length : Int), false⟩]) := hown
  obtain ⟨g, gc, rfl, _, hgl⟩ := own_form' hown (by simp)
  have m1 : w1.cell? ⟨g, 1, none⟩ = some (.int .i64 (b'.length : Int)) := hown.cellAt 1 (by simp)
  have hgc : 1 ≤ gc := by rcases hown.2 with ⟨hn, _⟩ | ⟨g', cap2, cur, hv, _, _, h1, _⟩; cases hn; injection hv with _ _ hv; omega
  have hz1 := hl1.size
  have hq1 := HT.out.q.left hl1 hsB
  have hW1 := HW.out.left hl1 (fun hm => hdis (hsA _ hm))
  have hQ1 := HQ0.out.left hl1 (fun hm => hsB _ hm tx.mem4.1)
  have i1 : w1.cell? ⟨N, 1, none⟩ = some (.pointer (some ⟨tx.Q, 0, none⟩)) := by rw [hW1.cell]; rfl
  have i4 : w1.cell? ⟨tx.Q, 4, none⟩ = some (.slice (some ⟨tx.ob, 0, none⟩) 64 64) := by rw [hQ1.cell]; rfl
  have io : w1.cell? ⟨tx.ob, f.h, none⟩ = some (.int .i64 (k : Int)) := by rw [hq1.owner.cell, List.getElem?_map, HS1.out]; rfl
  have HQ1 := Lib.hid hq1
  have HP1 := Lib.hid hP
  have HW1 := Lib.hid hW1
  have HL1 := Lib.hid hl1
  have HN1 : Hid (∀ x, NoRow w tx.s.bw x → NoRow w1 tx.s.bw x) := Lib.hid hno1
  obtain ⟨hd, hhd⟩ : ∃ hd, f.h = hd := ⟨_, rfl⟩
  rw [hhd] at hfh io ⊢
  have hd64 : (hd : Int) < 64 := by omega
  have HHD := Lib.hid hhd
  have hld := load_any (w := w1.drew) (hq1.left0 ((Left.refl [] w1).drew)) sl2 (show b'.length ≤ 2048 by omega)
  have HLD := Lib.hid hld
  clear hown hP hl1 hno1 hq1 hW1 hQ1 hhd c1 q1 hld
  go_upto_region 5 with fail
  refine wp_region_held_drew (S := fun wx => wx.cell? ⟨N, 1, none⟩ = some (.pointer (some ⟨tx.Q, 0, none⟩)) ∧ wx.cell? ⟨g, 1, none⟩ = some (.int .i64 (b'.length : Int))) (by kernel_rfl) ⟨i1, m1⟩ (fun hHeld => ?_)
  refine take_h 0 ⟨?_, ?_, ?_, by kernel_rfl, by kernel_rfl, by kernel_rfl, ?_, ?_, by assumption, ?_⟩
  rotate_left 2
  · (simp only [List.getElem?_toArray, List.getElem?_cons_zero]; exact rfl)
  · exact fun _ _ _ h => h
  · first
      | (refine Or.inr ⟨by rfl, ?_⟩; exact rfl)
      | (refine Or.inl ⟨by rfl, ?_⟩
         intro w hSw
         (try dsimp only at hSw)
         (try go_split_ands)
         go_simp
         (first | done | with_reducible rfl))
  try simp only [Act.put, List.setIfInBounds_toArray, List.set_cons_zero, List.set_cons_succ]
  refine take_h 1 ⟨?_, ?_, ?_, by kernel_rfl, by kernel_rfl, by kernel_rfl, ?_, ?_, by assumption, ?_⟩
  rotate_left 2
  · (simp only [List.getElem?_toArray, List.getElem?_cons_succ, List.getElem?_cons_zero]; exact rfl)
  · exact fun _ _ _ h => h
  · first
      | (refine Or.inr ⟨by rfl, ?_⟩; exact rfl)
      | (refine Or.inl ⟨by rfl, ?_⟩
         intro w hSw
         (try dsimp only at hSw)
         (try go_split_ands)
         go_simp
         (first | done | with_reducible rfl))
  try simp only [Act.put, List.setIfInBounds_toArray, List.set_cons_zero, List.set_cons_succ]
  refine take_h 2 ⟨?_, ?_, ?_, by kernel_rfl, by kernel_rfl, by kernel_rfl, ?_, ?_, by assumption, ?_⟩
  rotate_left 2
  · (simp only [List.getElem?_toArray, List.getElem?_cons_succ, List.getElem?_cons_zero]; exact rfl)
  · exact fun _ _ _ h => h
  · first
      | (refine Or.inr ⟨by rfl, ?_⟩; exact rfl)
      | (refine Or.inl ⟨by rfl, ?_⟩
         intro w hSw
         (try dsimp only at hSw)
         (try go_split_ands)
         go_simp
         (first | done | with_reducible rfl))
  try simp only [Act.put, List.setIfInBounds_toArray, List.set_cons_zero, List.set_cons_succ]
  refine take_h 3 ⟨?_, ?_, ?_, by kernel_rfl, by kernel_rfl, by kernel_rfl, ?_, ?_, by assumption, ?_⟩
  rotate_left 2
  · (simp only [List.getElem?_toArray, List.getElem?_cons_succ, List.getElem?_cons_zero]; exact rfl)
  · exact fun _ _ _ h => h
  · first
      | (refine Or.inr ⟨by rfl, ?_⟩; exact rfl)
      | (refine Or.inl ⟨by rfl, ?_⟩
         intro w hSw
         (try dsimp only at hSw)
         (try go_split_ands)
         go_simp
         (first | done | with_reducible rfl))
  try simp only [Act.put, List.setIfInBounds_toArray, List.set_cons_zero, List.set_cons_succ]
  refine take_h 4 ⟨?_, ?_, ?_, by kernel_rfl, by kernel_rfl, by kernel_rfl, ?_, ?_, by assumption, ?_⟩
  rotate_left 2
  · (simp only [List.getElem?_toArray, List.getElem?_cons_succ, List.getElem?_cons_zero]; exact rfl)
  · exact fun _ _ _ h => h
  · first
      | (refine Or.inr ⟨by rfl, ?_⟩; exact rfl)
      | (refine Or.inl ⟨by rfl, ?_⟩
         intro w hSw
         (try dsimp only at hSw)
         (try go_split_ands)
         go_simp
         (first | done | with_reducible rfl))
  try simp only [Act.put, List.setIfInBounds_toArray, List.set_cons_zero, List.set_cons_succ]
  refine take_h 5 ⟨?_, ?_, ?_, by kernel_rfl, by kernel_rfl, by kernel_rfl, ?_, ?_, by assumption, ?_⟩
  rotate_left 2
  · (simp only [List.getElem?_toArray, List.getElem?_cons_succ, List.getElem?_cons_zero]; exact rfl)
  · exact fun _ _ _ h => h
  · first
      | (refine Or.inr ⟨by rfl, ?_⟩; exact rfl)
      | (refine Or.inl ⟨by rfl, ?_⟩
         intro w hSw
         (try dsimp only at hSw)
         (try go_split_ands)
         go_simp
         (first | done | with_reducible rfl))
  try simp only [Act.put, List.setIfInBounds_toArray, List.set_cons_zero, List.set_cons_succ]
  refine take_h 6 ⟨?_, ?_, ?_, by kernel_rfl, by kernel_rfl, by kernel_rfl, ?_, ?_, by assumption, ?_⟩
  rotate_left 2
  · (simp only [List.getElem?_toArray, List.getElem?_cons_succ, List.getElem?_cons_zero]; exact rfl)
  · exact fun _ _ _ h => h
  · first
      | (refine Or.inr ⟨by rfl, ?_⟩; exact rfl)
      | (refine Or.inl ⟨by rfl, ?_⟩
         intro w hSw
         (try dsimp only at hSw)
         (try go_split_ands)
         go_simp
         (first | done | with_reducible rfl))
  try simp only [Act.put, List.setIfInBounds_toArray, List.set_cons_zero, List.set_cons_succ]
  refine take_h 7 ⟨?_, ?_, ?_, by kernel_rfl, by kernel_rfl, by kernel_rfl, ?_, ?_, by assumption, ?_⟩
  rotate_left 2
  · (simp only [List.getElem?_toArray, List.getElem?_cons_succ, List.getElem?_cons_zero]; exact rfl)
  · exact fun _ _ _ h => h
  · first
      | (refine Or.inr ⟨by rfl, ?_⟩; exact rfl)
      | (refine Or.inl ⟨by rfl, ?_⟩
         intro w hSw
         (try dsimp only at hSw)
         (try go_split_ands)
         go_simp
         (first | done | with_reducible rfl))
  try simp only [Act.put, List.setIfInBounds_toArray, List.set_cons_zero, List.set_cons_succ]
  refine take_h 8 ⟨?_, ?_, ?_, by kernel_rfl, by kernel_rfl, by kernel_rfl, ?_, ?_, by assumption, ?_⟩
  rotate_left 2
  · (simp only [List.getElem?_toArray, List.getElem?_cons_succ, List.getElem?_cons_zero]; exact rfl)
  · exact fun _ _ _ h => h
  · first
      | (refine Or.inr ⟨by rfl, ?_⟩; exact rfl)
      | (refine Or.inl ⟨by rfl, ?_⟩
         intro w hSw
         (try dsimp only at hSw)
         (try go_split_ands)
         go_simp
         (first | done | with_reducible rfl))
  try simp only [Act.put, List.setIfInBounds_toArray, List.set_cons_zero, List.set_cons_succ]
  refine wpAnyH_ready (rs := [9]) (by kernel_rfl) (by simp) ?_
  refine call_h 9 ⟨?_, ?_, fun K hK => ?_⟩
  rotate_left 1
  · (simp only [List.getElem?_toArray, List.getElem?_cons_succ, List.getElem?_cons_zero]; exact rfl)
  go_simp
  (go_at_call 84; refine HLD.out.mono ?_; rintro e w2 ⟨v, rfl, hown, hb2⟩)
  go_wp2_with fail
  rw [HF1.out] at hown
  have hb2' : Below w1.heap.size w1 w2 := ⟨hb2.os, hb2.tape, hb2.output, hb2.size, hb2.block⟩
  have hl2 := Left.of_below hb2' []
  have hz2 := hb2'.size
  obtain ⟨vo, vc, rfl, _, _⟩ := (Rd.of_own hown).form
  have j1 := cell_left' i1 hl2 (by simp)
  have jg := cell_left' m1 hl2 (by simp)
  have HQ2 := Lib.hid (HQ1.out.left0 hl2)
  have HP2 := Lib.hid (HP1.out.left hl2)
  have HW2 := Lib.hid (HW1.out.left hl2 (by simp))
  have HO2 : Hid (w2.ownsRow w.heap.size 5 1 (.slice vo b'.length vc) b'.length (u8s b')) := Lib.hid (own_base hown (show w.heap.size ≤ w1.drew.heap.size from hz1))
  have HL2 := Lib.hid hl2
  have HN2 : Hid (∀ x, x < w.heap.size → NoRow w tx.s.bw x → NoRow w2 tx.s.bw x) := Lib.hid (fun x hx hn => (HN1.out x hn).left hl2 (by simp) (Nat.lt_of_lt_of_le (hslt _ (by simp [Spot.all])) hz1))
  clear hown hb2 hb2' hl2
  refine hK.out _ _ ⟨j1, jg⟩ (fun hHeld => ?_)
  clear hK K
  (try simp only [Act.put, List.setIfInBounds_toArray, List.set_cons_zero, List.set_cons_succ])
  refine take_h 10 ⟨?_, ?_, ?_, by kernel_rfl, by kernel_rfl, by kernel_rfl, ?_, ?_, by assumption, ?_⟩
  rotate_left 2
  · (simp only [List.getElem?_toArray, List.getElem?_cons_succ, List.getElem?_cons_zero]; exact rfl)
  · exact fun _ _ _ h => h
  · first
      | (refine Or.inr ⟨by rfl, ?_⟩; exact rfl)
      | (refine Or.inl ⟨by rfl, ?_⟩
         intro w hSw
         (try dsimp only at hSw)
         (try go_split_ands)
         go_simp
         (first | done | with_reducible rfl))
  try simp only [Act.put, List.setIfInBounds_toArray, List.set_cons_zero, List.set_cons_succ]
  refine wpAnyH_done (by kernel_rfl) ?_ _
  clear hHeld
  obtain ⟨cap2, hQc, _, _⟩ := HQ2.out.head
  have k1 : w2.cell? ⟨tx.Q, 1, none⟩ = some (.pointer (some ⟨tx.s.V, 0, none⟩)) := by rw [hQc.cell]; rfl
  have hpu := RigP.push (n := 0) HP2.out (by rw [wsum_none_of HS3.out]; exact Int.le_refl _) (by omega)
  rw [HHD.out] at hpu
  have HPU := Lib.hid hpu
  clear hpu hQc i1 i4 io m1 jg
  go_wp2_with fail
  refine HPU.out.mono ?_
  rintro e w3 ⟨rfl, hR3, hl3, hno3⟩
  have hW3 := HW2.out.left hl3 (fun hm => hdis (hsA _ hm))
  have hq3 := HQ2.out.left hl3 hsB
  obtain ⟨cap3, hQc, _, _⟩ := hq3.head
  have n1 : w3.cell? ⟨N, 1, none⟩ = some (.pointer (some ⟨tx.Q, 0, none⟩)) := by rw [hW3.cell]; rfl
  have nD : w3.cell? ⟨tx.Q, 0, none⟩ = some (.pointer (some ⟨tx.s.D, 0, none⟩)) := by rw [hQc.cell]; rfl
  have HR3 := Lib.hid hR3
  have HW3 := Lib.hid hW3
  have HQ3 := Lib.hid hq3
  have HL3 := Lib.hid hl3
  have hz3 := hl3.size
  have HN3 : Hid (∀ x, NoRow w2 tx.s.bw x → NoRow w3 tx.s.bw x) := Lib.hid hno3
  have HO3 := Lib.hid (own_left HO2.out hl3 hslt)
  clear hR3 hl3 hno3 hW3 hq3 hQc j1 k1
  have hus := RigG.used (show RigG w3 tx.s 64 (G.map (·.1)) ((f, 0) :: []) (64 - (G.length + 1)) from HR3.out)
  rw [HHD.out] at hus
  have HUS := Lib.hid hus
  clear hus
  go_wp2_with fail
  refine HUS.out.mono ?_
  rintro e w4 ⟨rfl, hR4, hl4, hno4⟩
  have hW4 := HW3.out.left hl4 (fun hm => hdis (hsA _ hm))
  have hq4 := HQ3.out.left hl4 hsB
  obtain ⟨cap4, hQc, _, _⟩ := hq4.head
  have o1 : w4.cell? ⟨N, 1, none⟩ = some (.pointer (some ⟨tx.Q, 0, none⟩)) := by rw [hW4.cell]; rfl
  have o5 : w4.cell? ⟨tx.Q, 5, none⟩ = some (.slice (some ⟨tx.ub, 0, none⟩) 64 64) := by rw [hQc.cell]; rfl
  have ou : w4.cell? ⟨tx.ub, k, none⟩ = some (.bool true) := by rw [hq4.used_.cell, List.getElem?_map, sl4]; rfl
  have of_ := hq4.used_.free k
  have HR4 : Hid (RigG w4 tx.s 64 (G.map (·.1)) [] (64 - G.length)) := Lib.hid (by
    have h1 := HCN.out
    rw [HS3.out, show 64 - (G.length + 1) + [(⟨((k * 2048 : Nat) : Int), (b'.length : Int), false⟩ : Buf)].length = 64 - G.length by simp; omega] at hR4
    exact hR4)
  have HW4 := Lib.hid hW4
  have HQ4 := Lib.hid hq4
  have HL4 := Lib.hid hl4
  have hz4 := hl4.size
  have HN4 : Hid (∀ x, NoRow w3 tx.s.bw x → NoRow w4 tx.s.bw x) := Lib.hid hno4
  have HO4 := Lib.hid (own_left HO3.out hl4 hslt)
  clear hR4 hl4 hno4 hW4 hq4 hQc n1 nD
  have hk64 : (k : Int) < 64 := by omega
  go_upto_region 9 with fail
  obtain ⟨w5, hw5⟩ : ∃ w5, w5 = w4.setCell ⟨tx.ub, k, none⟩ (.bool false) := ⟨_, rfl⟩
  obtain ⟨hq5, hl5⟩ := HQ4.out.used_set k false
  rw [← hw5] at hq5 hl5 ⊢
  have hub := tx.mem4.2.2.1
  have hNub : NoRow w4 tx.s.bw tx.ub := HN4.out _ (HN3.out _ (HN2.out _ (Nat.lt_of_lt_of_le (hrng _ (by simp [hbA _ hub])).2 hhi) (hnr _ (by simp [hbA _ hub])).2))
  have hR5 : RigG w5 tx.s 64 (G.map (·.1)) [] (64 - G.length) := HR4.out.leftB hl5 (fun x hx => by simp only [List.mem_singleton] at hx; subst hx; exact ⟨(hap _ hub).1, (hap _ hub).2, hNub⟩)
  have hW5 := HW4.out.left hl5 (by simp only [List.mem_singleton]; intro e; exact hdis (e ▸ hbA _ hub))
  have p3 : w5.cell? ⟨N, 3, none⟩ = some (.int .i64 ((b' :: Out).length : Nat)) := by rw [hW5.cell]; rfl
  rw [List.length_cons] at p3
  have pf := hW5.free 3
  have HR5 := Lib.hid hR5
  have HW5 := Lib.hid hW5
  have HQ5 := Lib.hid hq5
  have HL5 := Lib.hid hl5
  have HO5 := Lib.hid (own_left HO4.out hl5 (fun x hx => by simp only [List.mem_singleton] at hx; subst hx; exact Nat.lt_of_lt_of_le (hrng _ (by simp [hbA _ hub])).2 hhi))
  have HN5 : Hid (∀ x, x < w.heap.size → NoRow w tx.s.bw x → NoRow w5 tx.s.bw x) := Lib.hid (fun x hx hn => (HN4.out _ (HN3.out _ (HN2.out x hx hn))).left hl5 (fun hm => by simp only [List.mem_singleton] at hm; exact (hap _ hub).1 (hm ▸ by simp [Spot.all])) HR4.out.bw_lt)
  clear hq5 hl5 hR5 hW5 hw5 o1 o5 ou of_ hNub
  go_wp2_with fail
  go_ret2
  have hl6 : Left [N] w5 (w5.setCell ⟨N, 3, none⟩ (.int .i64 ((Out.length : Nat) : Int))) := (Left.refl _ _).setCell (Or.inl (by simp)) _
  have hNr5 : NoRow w5 tx.s.bw N := HN5.out _ HW.out.lt (hnr _ (by simp)).2
  obtain ⟨p1, p2, p4, p5⟩ := tx_out HT.out.slot HT.out.nd HT.out.fr
  have hTx5 : TxAt w5 tx own (used.set k false) Bk G := ⟨HQ5.out, HR5.out, p1, p2, p4, by have := HT.out.fu; rw [List.length_cons] at this; omega⟩
  have hTx6 := hTx5.left hl6 (fun x hx => by simp only [List.mem_singleton] at hx; subst hx; exact ⟨hdis, hNr5⟩)
  have hLA : Left (N :: tx.all) w (w5.setCell ⟨N, 3, none⟩ (.int .i64 ((Out.length : Nat) : Int))) := by
    have a1 := HL1.out.mono (T := N :: tx.all) (fun x hx => List.mem_cons_of_mem _ (hsA x hx))
    have a2 := HL2.out.mono (T := N :: tx.all) (by simp)
    have a3 := HL3.out.mono (T := N :: tx.all) (fun x hx => List.mem_cons_of_mem _ (hsA x hx))
    have a4 := HL4.out.mono (T := N :: tx.all) (fun x hx => List.mem_cons_of_mem _ (hsA x hx))
    have a5 := HL5.out.mono (T := N :: tx.all) (fun x hx => by simp only [List.mem_singleton] at hx; subst hx; exact List.mem_cons_of_mem _ (hbA _ hub))
    have a6 := hl6.mono (T := N :: tx.all) (by simp)
    exact ((((a1.trans a2 (fun x hx => .inl hx)).trans a3 (fun x hx => .inl hx)).trans a4 (fun x hx => .inl hx)).trans a5 (fun x hx => .inl hx)).trans a6 (fun x hx => .inl hx)
  obtain ⟨e1, e2⟩ := HG.out.tx_done (Out' := Out) (drop' := drop) hLA ⟨_, _, _, G, hTx6, HOUT.out⟩ (HW5.out.put 3 _) (fun x hx hn => (HN5.out x hx hn).left hl6 (fun hm => by simp only [List.mem_singleton] at hm; exact hdis (hm ▸ bw_all tx)) HR5.out.bw_lt)
  refine ⟨.slice vo b'.length vc, by simp, ?_, ?_, ?_, ?_⟩
  · exact own_left HO5.out (by simpa using hl6) (fun x hx => by simp only [List.mem_singleton] at hx; subst hx; exact HW.out.lt)
  · simpa using e1
  · simpa using hLA
  · simpa using e2
end
end Go.Proofs.Ytfffehbipcikoaa
