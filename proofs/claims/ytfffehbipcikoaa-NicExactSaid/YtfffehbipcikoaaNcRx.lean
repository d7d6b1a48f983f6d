/- The network card: Receive and Poll. -/


import Derived.Test.YtfffehbipcikoaaNcSlots
namespace Go.Proofs.Ytfffehbipcikoaa
open Go.RowKit Go.MapKept

theorem Rd.leftB {w w' : World} {Bd size n : Nat} {v : Value} {xs : List Value} {S : List Nat} (h : Rd w Bd size v n xs) (hl : Left S w w') (hS : ∀ k ∈ S, v.ownBlock ≠ some k) : Rd w' Bd size v n xs := by
  obtain ⟨h0, ao, cap, rfl, h1, h2, h3, h4⟩ := h
  refine ⟨h0, ao, cap, rfl, h1, h2, h3, fun hn => ?_⟩
  obtain ⟨b, o, rfl, hb, hc⟩ := h4 hn
  exact ⟨b, o, rfl, hb, fun j u hu => cell_left' (hc j u hu) hl (fun hm => hS b hm rfl)⟩
theorem RigP.leftB' {w w' : World} {s : Spot} {q : Nat} {f : Fl} {want : List Fl} {out : List (Fl × Nat)} {free : Nat} {S : List Nat} (h : RigP w s q f want out free) (hl : Left S w w') (hS : ∀ k ∈ S, k ∉ s.all ∧ k ≠ s.m ∧ NoRow w s.bw k) : RigP w' s q f want out free := h.leftB hl hS
section
variable {w w' : World} {N lo hi drop : Nat} {rx tx : QS} {In Out : List (List UInt8)}
set_option maxHeartbeats 1000000 in
theorem Receive_no (h : NicG w N rx tx lo hi In Out drop) (ao : Option Addr) (n cap : Nat) (hb : wholeB n = false ∨ In.length = 16) (hd : drop ≤ 1000000) :
    Calls Try.prog 58 #[.pointer (some ⟨N, 0, none⟩), .slice ao n cap] w fun e w' => e = .returned (.bool false) ∧ NicG w' N rx tx lo hi In Out (drop + 1) ∧ Left (N :: rx.all) w w' ∧ Keep2 w w' rx tx := by
  have hW := h.head
  have c2 : w.cell? ⟨N, 2, none⟩ = some (.int .i64 In.length) := by rw [hW.cell]; rfl
  have c4 : w.cell? ⟨N, 4, none⟩ = some (.int .i64 drop) := by rw [hW.cell]; rfl
  have f4 := hW.free 4
  have HG := Lib.hid h
  have hin : In.length ≤ 16 := by
    obtain ⟨_, _, _, W, O, _, h2, rfl⟩ := h.rx_
    simp; omega
  have hEnd : ∀ v : Value, v = .int .i64 ((drop + 1 : Nat) : Int) → NicG (w.setCell ⟨N, 4, none⟩ v) N rx tx lo hi In Out (drop + 1) ∧ Left (N :: rx.all) w (w.setCell ⟨N, 4, none⟩ v) ∧ Keep2 w (w.setCell ⟨N, 4, none⟩ v) rx tx := by
    rintro v rfl
    have hl : Left [N] w (w.setCell ⟨N, 4, none⟩ (.int .i64 ((drop + 1 : Nat) : Int))) := (Left.refl _ _).setCell (Or.inl (by simp)) _
    have hl2 : Left (N :: rx.all) w (w.setCell ⟨N, 4, none⟩ (.int .i64 ((drop + 1 : Nat) : Int))) := hl.mono (by simp)
    have hnn := (HG.out.nor N (by simp)).1
    obtain ⟨a, b⟩ := HG.out.rx_done hl2 (HG.out.rx_.left hl (fun k hk => by simp only [List.mem_singleton] at hk; subst hk; exact ⟨HG.out.dis.2.1, hnn⟩)) (HG.out.head.put 4 _) (fun k hk hn => hn.left hl (fun hm => by simp only [List.mem_singleton] at hm; exact HG.out.dis.2.1 (hm ▸ bw_all rx)) HG.out.rx_.bw_lt)
    exact ⟨a, hl2, b⟩
  have HE := Lib.hid hEnd
  clear hEnd hW h
  go_enter Try.func58, Try.ntmps58
  cases hw : wholeB n
  · have HWB := Lib.hid hw
    clear hw
    go_wp2_with (go_at_call 85; refine (whole_any _ _ _ _).mono ?_; rintro e w' ⟨rfl, rfl⟩; rw [HWB.out])
    go_ret
    obtain ⟨x1, x2, x3⟩ := HE.out (.int .i64 ((drop : Int) + 1)) (by simp)
    exact ⟨rfl, x1, x2, x3⟩
  · have HWB := Lib.hid hw
    have hlen : In.length = 16 := by rcases hb with e | e; rw [hw] at e; cases e; exact e
    have hlen2 : ((In.length : Int) == 16) = true := by simp [hlen]
    clear hw hb hlen
    go_wp2_with (go_at_call 85; refine (whole_any _ _ _ _).mono ?_; rintro e w' ⟨rfl, rfl⟩; rw [HWB.out])
    go_ret
    obtain ⟨x1, x2, x3⟩ := HE.out (.int .i64 ((drop : Int) + 1)) (by simp)
    exact ⟨rfl, x1, x2, x3⟩

theorem wsum_one_of {f : Fl} {a n : Int} (hf : f.L = [⟨a, n, true⟩]) : wsum f.L = n := by rw [hf]; simp [wsum]
set_option maxRecDepth 20000 in
set_option maxHeartbeats 2000000 in
theorem Receive_ok (h : NicG w N rx tx lo hi In Out drop) {v : Value} {b : List UInt8} (hr : Rd w w.heap.size 1 v b.length (u8s b)) (hv : ∀ k, v.ownBlock = some k → k ∉ rx.all) (hb : wholeB b.length = true) (hin : In.length < 16) :
    Calls Try.prog 58 #[.pointer (some ⟨N, 0, none⟩), v] w fun e w' => e = .returned (.bool true) ∧ NicG w' N rx tx lo hi (In ++ [b]) Out drop ∧ Left (N :: rx.all) w w' ∧ Keep2 w w' rx tx := by
  have HG := Lib.hid h
  obtain ⟨own, used, Bk, W, O, hR, hcnt, hO⟩ := h.rx_
  have HIN := Lib.hid hO
  have hOl : O.length = In.length := by rw [← hO]; simp
  cases W with
  | nil => simp at hcnt; omega
  | cons p W =>
  obtain ⟨f, k⟩ := p
  have hb2 : 14 ≤ b.length ∧ b.length ≤ 1514 := by simpa [wholeB] using hb
  obtain ⟨sl1, sl2, sl3⟩ := hR.slot (f, k) (by simp [rxSlots])
  simp only at sl1 sl2 sl3
  have hW := h.head
  have c0 : w.cell? ⟨N, 0, none⟩ = some (.pointer (some ⟨rx.Q, 0, none⟩)) := by rw [hW.cell]; rfl
  have c2 : w.cell? ⟨N, 2, none⟩ = some (.int .i64 In.length) := by rw [hW.cell]; rfl
  obtain ⟨cap0, hQ0, _, _⟩ := hR.q.head
  have q1 : w.cell? ⟨rx.Q, 1, none⟩ = some (.pointer (some ⟨rx.s.V, 0, none⟩)) := by rw [hQ0.cell]; rfl
  have HR := Lib.hid hR
  have HW := Lib.hid hW
  have HQ0 := Lib.hid hQ0
  have HRD := Lib.hid hr
  have HWB := Lib.hid hb
  have HC := Lib.hid hcnt
  have HS1 := Lib.hid sl1
  have HS3 := Lib.hid sl3
  have HOL := Lib.hid hOl
  have hlen2 : ((In.length : Int) == 16) = false := beq_eq_false_iff_ne.2 (by omega)
  have hap := h.ap.1
  have hnr := h.nor
  have hdis := h.dis.2.1
  obtain ⟨ao, cap, rfl, hcap, hcapm⟩ := hr.form
  clear h hR hO hcnt hr hb sl1 sl3 hW hQ0 hOl hcapm
  have hsA : ∀ x ∈ rx.s.all, x ∈ rx.all := fun x hx => QS.all_mem.2 (.inr (.inl hx))
  have hbA : ∀ x ∈ rx.blocks, x ∈ rx.all := fun x hx => QS.all_mem.2 (.inl hx)
  have hsB : ∀ x ∈ rx.s.all, x ∉ rx.blocks := fun x hx hm => (hap x hm).1 hx
  go_enter Try.func58, Try.ntmps58
  go_wp2_with (go_at_call 85; refine (whole_any _ _ _ _).mono ?_; rintro e w' ⟨rfl, rfl⟩; rw [HWB.out])
  refine (RigG.pop (show RigG w rx.s 16 (f :: W.map (·.1)) _ 0 from HR.out.r)).mono ?_
  rintro e w1 ⟨lv, rfl, hown, hP, hl1, hfh, hno1⟩
  obtain ⟨lo1, lc1, rfl, _, _⟩ := (Rd.of_own hown).form
  have hz1 := hl1.size
  have hq1 := HR.out.q.left hl1 hsB
  have hW1 := HW.out.left hl1 (fun hm => hdis (hsA _ hm))
  have hQ1 := HQ0.out.left hl1 (fun hm => hsB _ hm rx.mem4.1)
  have i0 : w1.cell? ⟨N, 0, none⟩ = some (.pointer (some ⟨rx.Q, 0, none⟩)) := by rw [hW1.cell]; rfl
  have i4 : w1.cell? ⟨rx.Q, 4, none⟩ = some (.slice (some ⟨rx.ob, 0, none⟩) 16 16) := by rw [hQ1.cell]; rfl
  have io : w1.cell? ⟨rx.ob, f.h, none⟩ = some (.int .i64 (k : Int)) := by rw [hq1.owner.cell, List.getElem?_map, HS1.out]; rfl
  have HRD1 := Lib.hid ((HRD.out.leftB hl1 (fun x hx e => hv x e (hsA x hx))).more hz1)
  have HQ1 := Lib.hid hq1
  have HP1 := Lib.hid hP
  have HW1 := Lib.hid hW1
  have HQX := Lib.hid hQ1
  have HL1 := Lib.hid hl1
  have HN1 : Hid (∀ x, NoRow w rx.s.bw x → NoRow w1 rx.s.bw x) := Lib.hid hno1
  obtain ⟨hd, hhd⟩ : ∃ hd, f.h = hd := ⟨_, rfl⟩
  rw [hhd] at hfh io ⊢
  have HHD := Lib.hid hhd
  have hd16 : (hd : Int) < 16 := by omega
  have hst := store_any (w := w1.drew) (hq1.left0 ((Left.refl [] w1).drew)) sl2 (show Rd w1.drew w1.drew.heap.size 1 (.slice ao b.length cap) b.length (u8s b) from HRD1.out) (by omega)
  have HST := Lib.hid hst
  clear hown hP hl1 hno1 hq1 hW1 hQ1 hhd c0 q1 hst
  go_upto_region 5 with fail
  refine wp_region_held_drew (S := fun wx => wx.cell? ⟨N, 0, none⟩ = some (.pointer (some ⟨rx.Q, 0, none⟩)) ∧ wx.cell? ⟨rx.Q, 4, none⟩ = some (.slice (some ⟨rx.ob, 0, none⟩) 16 16) ∧ wx.cell? ⟨rx.ob, hd, none⟩ = some (.int .i64 (k : Int))) (by kernel_rfl) ⟨i0, i4, io⟩ (fun hHeld => ?_)
  refine take_h 0 ⟨?_, ?_, ?_, by kernel_rfl, by kernel_rfl, by kernel_rfl, ?_, ?_, by assumption, ?_⟩
  rotate_left 2
  · (simp only [List.getElem?_toArray, List.getElem?_cons_zero]; exact rfl)
  · exact fun _ _ _ h => h
  · first
      | (refine Or.inr ⟨by rfl, ?_⟩; exact rfl)
      | (refine Or.inl ⟨by rfl, ?_⟩
         intro w hSw
         (try dsimp only at hSw)
         (try go_split_ands)
         go_simp
         (first | done | with_reducible rfl))
  try simp only [Act.put, List.setIfInBounds_toArray, List.set_cons_zero, List.set_cons_succ]
  refine take_h 1 ⟨?_, ?_, ?_, by kernel_rfl, by kernel_rfl, by kernel_rfl, ?_, ?_, by assumption, ?_⟩
  rotate_left 2
  · (simp only [List.getElem?_toArray, List.getElem?_cons_succ, List.getElem?_cons_zero]; exact rfl)
  · exact fun _ _ _ h => h
  · first
      | (refine Or.inr ⟨by rfl, ?_⟩; exact rfl)
      | (refine Or.inl ⟨by rfl, ?_⟩
         intro w hSw
         (try dsimp only at hSw)
         (try go_split_ands)
         go_simp
         (first | done | with_reducible rfl))
  try simp only [Act.put, List.setIfInBounds_toArray, List.set_cons_zero, List.set_cons_succ]
  refine take_h 2 ⟨?_, ?_, ?_, by kernel_rfl, by kernel_rfl, by kernel_rfl, ?_, ?_, by assumption, ?_⟩
  rotate_left 2
  · (simp only [List.getElem?_toArray, List.getElem?_cons_succ, List.getElem?_cons_zero]; exact rfl)
  · exact fun _ _ _ h => h
  · first
      | (refine Or.inr ⟨by rfl, ?_⟩; exact rfl)
      | (refine Or.inl ⟨by rfl, ?_⟩
         intro w hSw
         (try dsimp only at hSw)
         (try go_split_ands)
         go_simp
         (first | done | with_reducible rfl))
  try simp only [Act.put, List.setIfInBounds_toArray, List.set_cons_zero, List.set_cons_succ]
  refine take_h 3 ⟨?_, ?_, ?_, by kernel_rfl, by kernel_rfl, by kernel_rfl, ?_, ?_, by assumption, ?_⟩
  rotate_left 2
  · (simp only [List.getElem?_toArray, List.getElem?_cons_succ, List.getElem?_cons_zero]; exact rfl)
  · exact fun _ _ _ h => h
  · first
      | (refine Or.inr ⟨by rfl, ?_⟩; exact rfl)
      | (refine Or.inl ⟨by rfl, ?_⟩
         intro w hSw
         (try dsimp only at hSw)
         (try go_split_ands)
         go_simp
         (first | done | with_reducible rfl))
  try simp only [Act.put, List.setIfInBounds_toArray, List.set_cons_zero, List.set_cons_succ]
  refine take_h 4 ⟨?_, ?_, ?_, by kernel_rfl, by kernel_rfl, by kernel_rfl, ?_, ?_, by assumption, ?_⟩
  rotate_left 2
  · (simp only [List.getElem?_toArray, List.getElem?_cons_succ, List.getElem?_cons_zero]; exact rfl)
  · exact fun _ _ _ h => h
  · first
      | (refine Or.inr ⟨by rfl, ?_⟩; exact rfl)
      | (refine Or.inl ⟨by rfl, ?_⟩
         intro w hSw
         (try dsimp only at hSw)
         (try go_split_ands)
         go_simp
         (first | done | with_reducible rfl))
  try simp only [Act.put, List.setIfInBounds_toArray, List.set_cons_zero, List.set_cons_succ]
  refine take_h 5 ⟨?_, ?_, ?_, by kernel_rfl, by kernel_rfl, by kernel_rfl, ?_, ?_, by assumption, ?_⟩
  rotate_left 2
  · (simp only [List.getElem?_toArray, List.getElem?_cons_succ, List.getElem?_cons_zero]; exact rfl)
  · exact fun _ _ _ h => h
  · first
      | (refine Or.inr ⟨by rfl, ?_⟩; exact rfl)
      | (refine Or.inl ⟨by rfl, ?_⟩
         intro w hSw
         (try dsimp only at hSw)
         (try go_split_ands)
         go_simp
         (first | done | with_reducible rfl))
  try simp only [Act.put, List.setIfInBounds_toArray, List.set_cons_zero, List.set_cons_succ]
  refine take_h 6 ⟨?_, ?_, ?_, by kernel_rfl, by kernel_rfl, by kernel_rfl, ?_, ?_, by assumption, ?_⟩
  rotate_left 2
  · (simp only [List.getElem?_toArray, List.getElem?_cons_succ, List.getElem?_cons_zero]; exact rfl)
  · exact fun _ _ _ h => h
  · first
      | (refine Or.inr ⟨by rfl, ?_⟩; exact rfl)
      | (refine Or.inl ⟨by rfl, ?_⟩
         intro w hSw
         (try dsimp only at hSw)
         (try go_split_ands)
         go_simp
         (first | done | with_reducible rfl))
  try simp only [Act.put, List.setIfInBounds_toArray, List.set_cons_zero, List.set_cons_succ]
  refine take_h 7 ⟨?_, ?_, ?_, by kernel_rfl, by kernel_rfl, by kernel_rfl, ?_, ?_, by assumption, ?_⟩
  rotate_left 2
  · (simp only [List.getElem?_toArray, List.getElem?_cons_succ, List.getElem?_cons_zero]; exact rfl)
  · exact fun _ _ _ h => h
  · first
      | (refine Or.inr ⟨by rfl, ?_⟩; exact rfl)
      | (refine Or.inl ⟨by rfl, ?_⟩
         intro w hSw
         (try dsimp only at hSw)
         (try go_split_ands)
         go_simp
         (first | done | with_reducible rfl))
  try simp only [Act.put, List.setIfInBounds_toArray, List.set_cons_zero, List.set_cons_succ]
  refine take_h 8 ⟨?_, ?_, ?_, by kernel_rfl, by kernel_rfl, by kernel_rfl, ?_, ?_, by assumption, ?_⟩
  rotate_left 2
  · (simp only [List.getElem?_toArray, List.getElem?_cons_succ, List.getElem?_cons_zero]; exact rfl)
  · exact fun _ _ _ h => h
  · first
      | (refine Or.inr ⟨by rfl, ?_⟩; exact rfl)
      | (refine Or.inl ⟨by rfl, ?_⟩
         intro w hSw
         (try dsimp only at hSw)
         (try go_split_ands)
         go_simp
         (first | done | with_reducible rfl))
  try simp only [Act.put, List.setIfInBounds_toArray, List.set_cons_zero, List.set_cons_succ]
  refine take_h 9 ⟨?_, ?_, ?_, by kernel_rfl, by kernel_rfl, by kernel_rfl, ?_, ?_, by assumption, ?_⟩
  rotate_left 2
  · (simp only [List.getElem?_toArray, List.getElem?_cons_succ, List.getElem?_cons_zero]; exact rfl)
  · exact fun _ _ _ h => h
  · first
      | (refine Or.inr ⟨by rfl, ?_⟩; exact rfl)
      | (refine Or.inl ⟨by rfl, ?_⟩
         intro w hSw
         (try dsimp only at hSw)
         (try go_split_ands)
         go_simp
         (first | done | with_reducible rfl))
  try simp only [Act.put, List.setIfInBounds_toArray, List.set_cons_zero, List.set_cons_succ]
  refine take_h 10 ⟨?_, ?_, ?_, by kernel_rfl, by kernel_rfl, by kernel_rfl, ?_, ?_, by assumption, ?_⟩
  rotate_left 2
  · (simp only [List.getElem?_toArray, List.getElem?_cons_succ, List.getElem?_cons_zero]; exact rfl)
  · exact fun _ _ _ h => h
  · first
      | (refine Or.inr ⟨by rfl, ?_⟩; exact rfl)
      | (refine Or.inl ⟨by rfl, ?_⟩
         intro w hSw
         (try dsimp only at hSw)
         (try go_split_ands)
         go_simp
         (first | done | with_reducible rfl))
  try simp only [Act.put, List.setIfInBounds_toArray, List.set_cons_zero, List.set_cons_succ]
  refine take_h 11 ⟨?_, ?_, ?_, by kernel_rfl, by kernel_rfl, by kernel_rfl, ?_, ?_, by assumption, ?_⟩
  rotate_left 2
  · (simp only [List.getElem?_toArray, List.getElem?_cons_succ, List.getElem?_cons_zero]; exact rfl)
  · exact fun _ _ _ h => h
  · first
      | (refine Or.inr ⟨by rfl, ?_⟩; exact rfl)
      | (refine Or.inl ⟨by rfl, ?_⟩
         intro w hSw
         (try dsimp only at hSw)
         (try go_split_ands)
         go_simp
         (first | done | with_reducible rfl))
  try simp only [Act.put, List.setIfInBounds_toArray, List.set_cons_zero, List.set_cons_succ]
  refine take_h 12 ⟨?_, ?_, ?_, by kernel_rfl, by kernel_rfl, by kernel_rfl, ?_, ?_, by assumption, ?_⟩
  rotate_left 2
  · (simp only [List.getElem?_toArray, List.getElem?_cons_succ, List.getElem?_cons_zero]; exact rfl)
  · exact fun _ _ _ h => h
  · first
      | (refine Or.inr ⟨by rfl, ?_⟩; exact rfl)
      | (refine Or.inl ⟨by rfl, ?_⟩
         intro w hSw
         (try dsimp only at hSw)
         (try go_split_ands)
         go_simp
         (first | done | with_reducible rfl))
  try simp only [Act.put, List.setIfInBounds_toArray, List.set_cons_zero, List.set_cons_succ]
  refine take_h 13 ⟨?_, ?_, ?_, by kernel_rfl, by kernel_rfl, by kernel_rfl, ?_, ?_, by assumption, ?_⟩
  rotate_left 2
  · (simp only [List.getElem?_toArray, List.getElem?_cons_succ, List.getElem?_cons_zero]; exact rfl)
  · exact fun _ _ _ h => h
  · first
      | (refine Or.inr ⟨by rfl, ?_⟩; exact rfl)
      | (refine Or.inl ⟨by rfl, ?_⟩
         intro w hSw
         (try dsimp only at hSw)
         (try go_split_ands)
         go_simp
         (first | done | with_reducible rfl))
  try simp only [Act.put, List.setIfInBounds_toArray, List.set_cons_zero, List.set_cons_succ]
  refine take_h 14 ⟨?_, ?_, ?_, by kernel_rfl, by kernel_rfl, by kernel_rfl, ?_, ?_, by assumption, ?_⟩
  rotate_left 2
  · (simp only [List.getElem?_toArray, List.getElem?_cons_succ, List.getElem?_cons_zero]; exact rfl)
  · exact fun _ _ _ h => h
  · first
      | (refine Or.inr ⟨by rfl, ?_⟩; exact rfl)
      | (refine Or.inl ⟨by rfl, ?_⟩
         intro w hSw
         (try dsimp only at hSw)
         (try go_split_ands)
         go_simp
         (first | done | with_reducible rfl))
  try simp only [Act.put, List.setIfInBounds_toArray, List.set_cons_zero, List.set_cons_succ]
  refine wpAnyH_ready (rs := [15]) (by kernel_rfl) (by simp) ?_
  refine call_h 15 ⟨?_, ?_, fun K hK => ?_⟩
  rotate_left 1
  · (simp only [List.getElem?_toArray, List.getElem?_cons_succ, List.getElem?_cons_zero]; exact rfl)
  go_simp
  (go_at_call 87; refine HST.out.mono ?_; rintro e w2 ⟨rfl, hq2, hl2⟩)
  go_wp2_with fail
  have hbd : rx.bd (k / 32) ∈ rx.blocks := (rx.memB (HQ1.out.nbk sl2)).2
  have hl2' : Left [rx.bd (k / 32)] w1 w2 := hl2.of_drew
  have hno2 : ∀ x, x < w.heap.size → NoRow w rx.s.bw x → NoRow w2 rx.s.bw x := fun x hx hn => (HN1.out x hn).left hl2' (fun hm => by simp only [List.mem_singleton] at hm; exact (hap _ hbd).1 (hm ▸ by simp [Spot.all])) (Nat.lt_of_lt_of_le HR.out.r.bw_lt hz1)
  have hP2 : RigP w2 rx.s 16 f (W.map (·.1)) (O.map fun p => (p.1, p.2.2.length)) 0 := RigP.leftB' HP1.out hl2' (fun x hx => by
    simp only [List.mem_singleton] at hx
    subst hx
    exact ⟨(hap _ hbd).1, (hap _ hbd).2, HN1.out _ (hnr _ (by simp [hbA _ hbd])).1⟩)
  have hW2 := HW1.out.left hl2' (by simp only [List.mem_singleton]; intro e; exact hdis (e ▸ hbA _ hbd))
  have hz2 := hl2'.size
  obtain ⟨cap2, hQ2, _, _⟩ := hq2.head
  obtain ⟨x1, x2, x3, x4⟩ := hq2.ne2 _ (HQ1.out.nbk sl2)
  have j0 : w2.cell? ⟨N, 0, none⟩ = some (.pointer (some ⟨rx.Q, 0, none⟩)) := by rw [hW2.cell]; rfl
  have j4 : w2.cell? ⟨rx.Q, 4, none⟩ = some (.slice (some ⟨rx.ob, 0, none⟩) 16 16) := by rw [hQ2.cell]; rfl
  have j1 : w2.cell? ⟨rx.Q, 1, none⟩ = some (.pointer (some ⟨rx.s.V, 0, none⟩)) := by rw [hQ2.cell]; rfl
  have jo : w2.cell? ⟨rx.ob, hd, none⟩ = some (.int .i64 (k : Int)) := by rw [hq2.owner.cell, List.getElem?_map, ← HHD.out, HS1.out]; rfl
  have HQ2 := Lib.hid hq2
  have HP2 := Lib.hid hP2
  have HW2 := Lib.hid hW2
  have HL2 := Lib.hid hl2'
  have HN2 := Lib.hid hno2
  clear hq2 hl2 hl2' hno2 hP2 hW2 hQ2 x1 x2 x3 x4 i0 i4 io
  refine hK.out _ _ ⟨j0, j4, jo⟩ (fun hHeld => ?_)
  clear hK K j4 jo
  refine wpAnyH_done (by kernel_rfl) ?_ _
  clear hHeld
  have hpu := RigP.push (n := b.length) HP2.out (by rw [wsum_one_of HS3.out]; omega) (by omega)
  rw [HHD.out] at hpu
  have HPU := Lib.hid hpu
  clear hpu
  go_wp2_with fail
  refine HPU.out.mono ?_
  rintro e w3 ⟨rfl, hR3, hl3, hno3⟩
  have hW3 := HW2.out.left hl3 (fun hm => hdis (hsA _ hm))
  have k2 : w3.cell? ⟨N, 2, none⟩ = some (.int .i64 In.length) := by rw [hW3.cell]; rfl
  have kf := hW3.free 2
  have hz3 := hl3.size
  have HR3 := Lib.hid hR3
  have HL3 := Lib.hid hl3
  have HN3 : Hid (∀ x, NoRow w2 rx.s.bw x → NoRow w3 rx.s.bw x) := Lib.hid hno3
  have HW3 := Lib.hid hW3
  have HQ3 := Lib.hid (HQ2.out.left hl3 hsB)
  clear hR3 hl3 hno3 hW3 j0 j1
  go_wp2_with fail
  go_ret
  have hl4 : Left [N] w3 (w3.setCell ⟨N, 2, none⟩ (.int .i64 (((In ++ [b]).length : Nat) : Int))) := (Left.refl _ _).setCell (Or.inl (by simp)) _
  have hNr : NoRow w rx.s.bw N := (hnr _ (by simp)).1
  have hNr3 : NoRow w3 rx.s.bw N := HN3.out _ (HN2.out _ HW.out.lt hNr)
  obtain ⟨p1, p2, p3⟩ := rx_recv (b := b) (W := W) (O := O) HR.out.slot HR.out.nd HR.out.fr (HR.out.q.bl _ (HR.out.q.nbk sl2)) hb2.2
  have hRx3 : RxAt w3 rx own used (slotW Bk k b) W (O ++ [(f, k, b)]) 0 := ⟨HQ3.out, by rw [List.map_append]; exact HR3.out, p1, p2, p3⟩
  have hRx4 := hRx3.left hl4 (fun x hx => by simp only [List.mem_singleton] at hx; subst hx; exact ⟨hdis, hNr3⟩)
  have hLA : Left (N :: rx.all) w (w3.setCell ⟨N, 2, none⟩ (.int .i64 (((In ++ [b]).length : Nat) : Int))) := by
    have a1 := HL1.out.mono (T := N :: rx.all) (fun x hx => List.mem_cons_of_mem _ (hsA x hx))
    have a2 := HL2.out.mono (T := N :: rx.all) (fun x hx => by simp only [List.mem_singleton] at hx; subst hx; exact List.mem_cons_of_mem _ (hbA _ hbd))
    have a3 := HL3.out.mono (T := N :: rx.all) (fun x hx => List.mem_cons_of_mem _ (hsA x hx))
    have a4 := hl4.mono (T := N :: rx.all) (by simp)
    exact ((a1.trans a2 (fun x hx => .inl hx)).trans a3 (fun x hx => .inl hx)).trans a4 (fun x hx => .inl hx)
  obtain ⟨e1, e2⟩ := HG.out.rx_done (In' := In ++ [b]) (drop' := drop) hLA ⟨own, used, slotW Bk k b, W, O ++ [(f, k, b)], hRx4, by have := HC.out; rw [List.length_cons] at this; rw [List.length_append, List.length_singleton]; omega, by rw [List.map_append, HIN.out]; rfl⟩ (HW3.out.put 2 _) (fun x hx hn => (HN3.out _ (HN2.out x hx hn)).left hl4 (fun hm => by simp only [List.mem_singleton] at hm; exact hdis (hm ▸ bw_all rx)) HR3.out.bw_lt)
  have he : (((In ++ [b]).length : Nat) : Int) = (In.length : Int) + 1 := by simp
  rw [he] at e1 e2 hLA
  exact ⟨rfl, e1, hLA, e2⟩

set_option maxRecDepth 20000 in
set_option maxHeartbeats 2000000 in
theorem Poll_none (h : NicG w N rx tx lo hi [] Out drop) :
    Calls Try.prog 51 #[.pointer (some ⟨N, 0, none⟩)] w fun e w' => e = .returned (.tuple #[.slice none 0 0, .bool false]) ∧ NicG w' N rx tx lo hi [] Out drop ∧ Left [] w w' ∧ Keep2 w w' rx tx := by
  have HG := Lib.hid h
  obtain ⟨own, used, Bk, W, O, hR, hcnt, hO⟩ := h.rx_
  have hO0 : O = [] := List.map_eq_nil_iff.1 hO
  subst hO0
  have hW := h.head
  have c0 : w.cell? ⟨N, 0, none⟩ = some (.pointer (some ⟨rx.Q, 0, none⟩)) := by rw [hW.cell]; rfl
  obtain ⟨cap0, hQ0, _, _⟩ := hR.q.head
  have q0 : w.cell? ⟨rx.Q, 0, none⟩ = some (.pointer (some ⟨rx.s.D, 0, none⟩)) := by rw [hQ0.cell]; rfl
  have HR := Lib.hid hR.r
  clear h hR hO hcnt hW hQ0
  go_enter Try.func51, Try.ntmps51
  go_wp2_with fail
  refine (RigG.used_none (show RigG w rx.s 16 (W.map (·.1)) [] 0 from HR.out)).mono ?_
  rintro e w1 ⟨rfl, hl⟩
  go_wp2
  go_ret2
  obtain ⟨a, b⟩ := HG.out.left0 hl
  exact ⟨rfl, a, hl, b⟩
set_option maxRecDepth 20000 in
set_option maxHeartbeats 2000000 in
theorem Poll_some {b : List UInt8} (h : NicG w N rx tx lo hi (b :: In) Out drop) :
    Calls Try.prog 51 #[.pointer (some ⟨N, 0, none⟩)] w fun e w' => ∃ v, e = .returned (.tuple #[v, .bool true]) ∧ w'.ownsRow w.heap.size 5 1 v b.length (u8s b) ∧ NicG w' N rx tx lo hi In Out drop ∧ Left (N :: rx.all) w w' ∧ Keep2 w w' rx tx := by
  have HG := Lib.hid h
  obtain ⟨own, used, Bk, W, O, hR, hcnt, hO⟩ := h.rx_
  cases O with
  | nil => simp at hO
  | cons p O =>
  obtain ⟨f, k, b'⟩ := p
  rw [List.map_cons] at hO
  injection hO with hb hO
  simp only at hb
  subst hb
  have HIN := Lib.hid hO
  have hOl : O.length = In.length := by rw [← hO]; simp
  have hin : In.length < 16 := by simp at hcnt; omega
  obtain ⟨sl1, sl2, sl3⟩ := hR.slot (f, k) (by simp [rxSlots])
  simp only at sl1 sl2 sl3
  obtain ⟨fr1, fr2⟩ := hR.fr (f, k, b') (by simp)
  simp only at fr1 fr2
  have hW := h.head
  have c0 : w.cell? ⟨N, 0, none⟩ = some (.pointer (some ⟨rx.Q, 0, none⟩)) := by rw [hW.cell]; rfl
  obtain ⟨cap0, hQ0, _, _⟩ := hR.q.head
  have q0 : w.cell? ⟨rx.Q, 0, none⟩ = some (.pointer (some ⟨rx.s.D, 0, none⟩)) := by rw [hQ0.cell]; rfl
  have HR := Lib.hid hR
  have HW := Lib.hid hW
  have HQ0 := Lib.hid hQ0
  have HC := Lib.hid hcnt
  have HS1 := Lib.hid sl1
  have HS3 := Lib.hid sl3
  have HF1 := Lib.hid fr1
  have hap := h.ap.1
  have hnr := h.nor
  have hdis := h.dis.2.1
  have hrng := h.rng
  have hhi := h.hi_
  have HAP := Lib.hid hap
  clear h hR hO hcnt sl1 sl3 fr1 hW hQ0 hOl
  have hsA : ∀ x ∈ rx.s.all, x ∈ rx.all := fun x hx => QS.all_mem.2 (.inr (.inl hx))
  have hbA : ∀ x ∈ rx.blocks, x ∈ rx.all := fun x hx => QS.all_mem.2 (.inl hx)
  have hsB : ∀ x ∈ rx.s.all, x ∉ rx.blocks := fun x hx hm => (hap x hm).1 hx
  go_enter Try.func51, Try.ntmps51
  go_wp2_with fail
  refine (RigG.used (show RigG w rx.s 16 (W.map (·.1)) ((f, b'.length) :: O.map fun p => (p.1, p.2.2.length)) 0 from HR.out.r)).mono ?_
  rintro e w1 ⟨rfl, hR1, hl1, hno1⟩
  have hfh : f.h < 16 := by
    have := (List.getElem?_eq_some_iff.1 HS1.out).1
    have := HR.out.q.len.1
    omega
  have hz1 := hl1.size
  have hq1 := HR.out.q.left hl1 hsB
  have hW1 := HW.out.left hl1 (fun hm => hdis (hsA _ hm))
  have hQ1 := HQ0.out.left hl1 (fun hm => hsB _ hm rx.mem4.1)
  have i0 : w1.cell? ⟨N, 0, none⟩ = some (.pointer (some ⟨rx.Q, 0, none⟩)) := by rw [hW1.cell]; rfl
  have i4 : w1.cell? ⟨rx.Q, 4, none⟩ = some (.slice (some ⟨rx.ob, 0, none⟩) 16 16) := by rw [hQ1.cell]; rfl
  have io : w1.cell? ⟨rx.ob, f.h, none⟩ = some (.int .i64 (k : Int)) := by rw [hq1.owner.cell, List.getElem?_map, HS1.out]; rfl
  have HQ1 := Lib.hid hq1
  have HR1 : Hid (RigG w1 rx.s 16 (W.map (·.1)) (O.map fun p => (p.1, p.2.2.length)) 1) := Lib.hid (by rw [HS3.out] at hR1; exact hR1)
  have HW1 := Lib.hid hW1
  have HL1 := Lib.hid hl1
  have HN1 : Hid (∀ x, NoRow w rx.s.bw x → NoRow w1 rx.s.bw x) := Lib.hid hno1
  obtain ⟨hd, hhd⟩ : ∃ hd, f.h = hd := ⟨_, rfl⟩
  rw [hhd] at hfh io ⊢
  have hd16 : (hd : Int) < 16 := by omega
  have HHD := Lib.hid hhd
  clear hR1 hl1 hno1 hq1 hW1 hQ1 hhd c0 q0
  go_wp2_with fail
  refine (load_any HQ1.out sl2 (show b'.length ≤ 2048 by omega)).mono ?_
  rintro e w2 ⟨v, rfl, hown, hb2⟩
  rw [HF1.out] at hown
  have hl2 := Left.of_below hb2 []
  have hz2 := hb2.size
  obtain ⟨vo, vc, rfl, _, _⟩ := (Rd.of_own hown).form
  have HQ2 := Lib.hid (HQ1.out.left0 hl2)
  have HR2 := Lib.hid (HR1.out.left hl2)
  have hW2 := HW1.out.left hl2 (by simp)
  have i0' := cell_left' i0 hl2 (by simp)
  have HW2 := Lib.hid hW2
  have HO2 := Lib.hid hown
  have HN2 : Hid (∀ x, x < w.heap.size → NoRow w rx.s.bw x → NoRow w2 rx.s.bw x) := Lib.hid (fun x hx hn => (HN1.out x hn).left hl2 (by simp) HR1.out.bw_lt)
  have HL2 := Lib.hid hl2
  clear hown hb2 hl2 hW2 i0 i4 io
  have hput := put_any HQ2.out HR2.out HAP.out (fun x hx => HN2.out x (Nat.lt_of_lt_of_le (hrng x (by simp [hbA x hx])).2 hhi) (hnr x (by simp [hbA x hx])).1) (Nat.le_refl 1) sl2 (m := 2048) (by omega) (by omega) true
  have HPUT := Lib.hid hput
  clear hput
  go_wp2_with fail
  refine HPUT.out.mono ?_
  rintro e w3 ⟨rfl, f', hf1, hf2, hq3, hr3, hl3, hno3⟩
  have hLbA : ∀ x ∈ rx.s.all ++ [rx.ob, rx.ub], x ∈ rx.all := fun x hx => by
    rcases List.mem_append.1 hx with hx | hx
    · exact hsA x hx
    · simp only [List.mem_cons, List.mem_nil_iff, or_false] at hx
      rcases hx with rfl | rfl
      · exact hbA _ rx.mem4.2.1
      · exact hbA _ rx.mem4.2.2.1
  have hW3 := HW2.out.left hl3 (fun hm => hdis (hLbA _ hm))
  have hz3 := hl3.size
  have k2 : w3.cell? ⟨N, 2, none⟩ = some (.int .i64 ((b' :: In).length : Nat)) := by rw [hW3.cell]; rfl
  rw [List.length_cons] at k2
  have kf := hW3.free 2
  have HQ3 := Lib.hid hq3
  have HR3 := Lib.hid hr3
  have HL3 := Lib.hid hl3
  have HN3 := Lib.hid hno3
  have HW3 := Lib.hid hW3
  have HF1' := Lib.hid hf1
  have HLA := Lib.hid hLbA
  have HO3 := Lib.hid (own_left (own_base HO2.out (show w.heap.size ≤ w1.heap.size from hz1)) hl3 (fun x hx => Nat.lt_of_lt_of_le (hrng x (by simp [hLbA x hx])).2 hhi))
  clear hq3 hr3 hl3 hno3 hW3 i0' hf1 hLbA
  go_wp2_with fail
  go_ret2
  have hl4 : Left [N] w3 (w3.setCell ⟨N, 2, none⟩ (.int .i64 ((In.length : Nat) : Int))) := (Left.refl _ _).setCell (Or.inl (by simp)) _
  have hNr : NoRow w rx.s.bw N := (hnr _ (by simp)).1
  have hNlt : N < w2.heap.size := HW2.out.lt
  have hNr3 : NoRow w3 rx.s.bw N := HN3.out _ hNlt (HN2.out _ HW.out.lt hNr)
  have hheads := HR3.out.heads
  rw [List.map_map] at hheads
  obtain ⟨p1, p2, p3⟩ := rx_poll (W := W) (O := O) (f' := f') HR.out.slot HR.out.nd HR.out.fr HF1'.out (by have := HR.out.q.len.1; omega) hheads
  have hRx3 : RxAt w3 rx (own.set f'.h k) (used.set k true) Bk (W ++ [(f', k)]) O 0 := ⟨HQ3.out, by rw [List.map_append]; exact HR3.out, p1, p2, p3⟩
  have hRx4 := hRx3.left hl4 (fun x hx => by simp only [List.mem_singleton] at hx; subst hx; exact ⟨hdis, hNr3⟩)
  have hLA : Left (N :: rx.all) w (w3.setCell ⟨N, 2, none⟩ (.int .i64 ((In.length : Nat) : Int))) := by
    have a1 := HL1.out.mono (T := N :: rx.all) (fun x hx => List.mem_cons_of_mem _ (hsA x hx))
    have a2 := HL2.out.mono (T := N :: rx.all) (by simp)
    have a3 := HL3.out.mono (T := N :: rx.all) (fun x hx => List.mem_cons_of_mem _ (HLA.out x hx))
    have a4 := hl4.mono (T := N :: rx.all) (by simp)
    exact ((a1.trans a2 (fun x hx => .inl hx)).trans a3 (fun x hx => .inl hx)).trans a4 (fun x hx => .inl hx)
  obtain ⟨e1, e2⟩ := HG.out.rx_done (In' := In) (drop' := drop) hLA ⟨own.set f'.h k, used.set k true, Bk, W ++ [(f', k)], O, hRx4, by have := HC.out; rw [List.length_cons] at this; rw [List.length_append, List.length_singleton]; omega, HIN.out⟩ (HW3.out.put 2 _) (fun x hx hn => (HN3.out _ (by omega) (HN2.out x hx hn)).left hl4 (fun hm => by simp only [List.mem_singleton] at hm; exact hdis (hm ▸ bw_all rx)) HR3.out.bw_lt)
  refine ⟨.slice vo b'.length vc, by simp, ?_, ?_, ?_, ?_⟩
  · exact own_left HO3.out (by simpa using hl4) (fun x hx => by simp only [List.mem_singleton] at hx; subst hx; exact HW.out.lt)
  · simpa using e1
  · simpa using hLA
  · simpa using e2
end
end Go.Proofs.Ytfffehbipcikoaa
