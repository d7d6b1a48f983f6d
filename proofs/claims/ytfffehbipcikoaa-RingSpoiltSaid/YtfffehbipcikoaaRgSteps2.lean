/- The law's steps, on both sides: Pop, Push, Put, Add, Free. -/



import Derived.Test.YtfffehbipcikoaaRgJoin
namespace Go.Proofs.Ytfffehbipcikoaa
open Go.RowKit Go.MapKept

section
variable {w : World} {base q : Nat} {s : Nat → Nat} {hv : Value} {hs : List Nat}
def StepU (F1 F2 : FuncId) (P1 P2 : Nat) (w : World) (base : Nat) (s : Nat → Nat) (q : Nat) (hv : Value) (hs : List Nat) : Prop :=
  ∃ (x n : Int) (ok : Bool) (er : Int) (M : World → Prop),
    (Calls Try.prog F1 #[.pointer (some ⟨P1, 0, none⟩)] w fun e w1 => e = .returned (.tuple #[.int .i64 x, .int .i64 n, .bool ok, .int .i64 er]) ∧ M w1 ∧ Left (PL s) w w1) ∧
    ∀ w1, M w1 → Calls Try.prog F2 #[.pointer (some ⟨P2, 0, none⟩)] w1 fun e w2 => e = .returned (.tuple #[.int .i64 x, .int .i64 n, .bool ok, .int .i64 er]) ∧ JX w2 base s q hv hs ∧ Left (QL s) w1 w2
theorem left_rfl' {S : List Nat} (w : World) : Left S w w := Left.refl _ _
theorem JX.used (h : JX w base s q hv hs) : StepU 43 76 (s 1) (s 10) w base s q hv hs := by
  obtain ⟨⟨B0, brD0, brV0, bz0, wy, ls, wrt0, rdD0, wrV0, rdV0⟩, ⟨B, brD, brV, bz, ch, ws, wrt, rdD, wrV, rdV, F⟩, hJ, hS⟩ := h
  dsimp only [Same] at hS
  obtain ⟨rfl, rfl, rfl, rfl, rfl, rfl, rfl, rfl, A, hB⟩ := hS
  have hi : ∀ i j, i < 18 → j < 18 → (s i = s j ↔ i = j) := hJ.inj
  obtain ⟨sm1, sm2, sm3, sm4⟩ := hJ.smallP
  dsimp only at sm1 sm2 sm3 sm4
  obtain rfl : q = bz.length := by have := hJ.drv.len; dsimp only at this; omega
  cases brD
  · obtain ⟨k, hk⟩ : ∃ k, aheadV B (usedAt (bz.length : Nat) + 2) rdD = k := ⟨_, rfl⟩
    by_cases hk0 : k = 0
    · subst hk0
      refine ⟨0, 0, false, 0, fun w1 => JC w1 base s bz.length hv hs ⟨B, false, brV, bz, wy, ls, wrt, rdD, wrV, rdV⟩ ⟨B, false, brV, bz, ch, ws, wrt, rdD, wrV, rdV, F⟩, ?_, fun w1 h1 => ?_⟩
      · refine (Used_none w (s 1) _ (s 6) (s 7) wrt rdD _ B hJ.drv.head hJ.mem hJ.lenB.1 sm2 ⟨by have := hJ.isq; omega, by have := hJ.isq; omega⟩ hk).mono ?_
        rintro e w1 ⟨rfl, n, rfl⟩
        exact ⟨rfl, hJ.left0 ((Left.refl _ _).drewN n), (Left.refl _ _).drewN n⟩
      · refine (rUsed_none w1 _ _ _ _ _ _ _ _ _ _ _ _ _ B h1.r1 h1.rmem h1.lenB.2 sm2 hJ.isq hk).mono ?_
        rintro e w2 ⟨rfl, hl⟩
        exact ⟨rfl, ⟨_, _, h1.left0 hl, rfl, rfl, rfl, rfl, rfl, rfl, rfl, rfl, A, hB⟩, hl.mono (by simp)⟩
    · obtain ⟨hd, hhd⟩ : ∃ hd : Nat, usedHead B (bz.length : Nat) rdD = hd := ⟨(usedHead B (bz.length : Nat) rdD).toNat, by have := (getV_lt B (usedPos (bz.length : Nat) rdD) 4).1; unfold usedHead; omega⟩
      obtain ⟨nn, hnn⟩ : ∃ nn : Nat, usedLen B (bz.length : Nat) rdD = nn := ⟨(usedLen B (bz.length : Nat) rdD).toNat, by have := (getV_lt B (usedPos (bz.length : Nat) rdD + 4) 4).1; unfold usedLen; omega⟩
      rcases hB.used hd nn k with ⟨b1, b2⟩ | ⟨own, x, A', c1, c2, c3, c4, c5, c6, c7, c8, c9, c10, c11⟩
      · refine ⟨0, 0, false, 1, fun w1 => JC w1 base s bz.length hv hs ⟨B, true, brV, bz, wy, ls, wrt, rdD, wrV, rdV⟩ ⟨B, false, brV, bz, ch, ws, wrt, rdD, wrV, rdV, F⟩, ?_, fun w1 h1 => ?_⟩
        · refine (Used_bad w (s 1) (s 2) (s 3) (s 4) (s 6) (s 7) wrt rdD bz wy ls B hd nn k hJ.drv hJ.mem hJ.lenB.1 sm2 hJ.isq.1 hJ.isq.2 hk hk0 hhd hnn b1).mono ?_
          rintro e w1 ⟨rfl, hd1, hl⟩
          exact ⟨rfl, hJ.prog (p' := ⟨B, true, brV, bz, wy, ls, wrt, rdD, wrV, rdV⟩) (hl.mono (by simp [PL])) (hJ.mem.left hl (by simp [hi]) (by simp [hi])) hd1 (hJ.dev.left hl (by simp [hi])) (fun k hk hn => hn.left hl (by simp [hi]) (hJ.old 3 (by omega)).2) hJ.lenB.1 hJ.smallP, hl.mono (by simp [PL])⟩
        · refine (rUsed_bad w1 _ _ _ _ _ (s 9) _ _ _ _ _ _ _ B hd nn k h1.r1 h1.rmem h1.lenB.2 sm2 hJ.isq hk hk0 hhd hnn b2).mono ?_
          rintro e w2 ⟨rfl, hr, hl⟩
          obtain ⟨t2, c2, s2, h2⟩ := h1.r2
          exact ⟨rfl, ⟨_, _, h1.page (r' := ⟨B, true, brV, bz, ch, ws, wrt, rdD, wrV, rdV, F⟩) (hl.mono (by simp [QL])) (h1.rmem.left hl (by simp [hi]) (by simp [hi])) hr ⟨t2, c2, s2, h2.left hl (by simp [hi]) (by simp [hi]) (by simp [hi]) (by simp [hi]) (by simp)⟩ (fun k hk => .inl hk) (fun k hk => by have := (h1.fn k hk).1; have := hl.size; omega) h1.lenB.2 h1.smallR, rfl, rfl, rfl, rfl, rfl, rfl, rfl, rfl, A, hB⟩, hl.mono (by simp [QL])⟩
      · refine ⟨hd, nn, true, 0, fun w1 => JC w1 base s bz.length hv hs ⟨B, false, brV, setAll bz own false, delW wy (hd : Nat), delL ls (hd : Nat), wrt, (rdD + 1) % 65536, wrV, rdV⟩ ⟨B, false, brV, bz, ch, ws, wrt, rdD, wrV, rdV, F⟩, ?_, fun w1 h1 => ?_⟩
        · refine (Used_ok w (s 1) (s 2) (s 3) (s 4) (s 6) (s 7) wrt rdD bz wy ls B hd nn k own hJ.drv hJ.mem hJ.lenB.1 sm2 hJ.isq.1 hJ.isq.2 hk hk0 hhd hnn c1 c2 c3 c4).mono ?_
          rintro e w1 ⟨rfl, hd1, hl, hn⟩
          exact ⟨rfl, hJ.prog (p' := ⟨B, false, brV, setAll bz own false, delW wy (hd : Nat), delL ls (hd : Nat), wrt, (rdD + 1) % 65536, wrV, rdV⟩) (hl.mono (by simp [PL])) (hJ.mem.left hl (by simp [hi]) (by simp [hi])) hd1 (hJ.dev.left hl (by simp [hi])) (fun k _ hk => hn k hk) hJ.lenB.1 ⟨sm1, by dsimp only; omega, sm3, sm4⟩, hl.mono (by simp [PL])⟩
        · refine (rUsed_ok w1 _ _ _ _ _ (s 9) _ _ _ _ _ _ _ B hd nn k own x h1.r1 h1.rmem h1.lenB.2 sm2 hJ.isq hk hk0 hhd hnn c5 c6 c7 c8 c9 c10 c4).mono ?_
          rintro e w2 ⟨rfl, hr, hl⟩
          obtain ⟨t2, c2, s2, h2⟩ := h1.r2
          exact ⟨rfl, ⟨_, _, h1.page (r' := ⟨B, false, brV, setAll bz own false, ch.set hd [], ws, wrt, (rdD + 1) % 65536, wrV, rdV, F⟩) (hl.mono (by simp [QL])) (h1.rmem.left hl (by simp [hi]) (by simp [hi])) hr ⟨t2, c2, s2, h2.left hl (by simp [hi]) (by simp [hi]) (by simp [hi]) (by simp [hi]) (by simp)⟩ (fun k hk => .inl hk) (fun k hk => by have := (h1.fn k hk).1; have := hl.size; omega) h1.lenB.2 ⟨sm1, by dsimp only; omega, sm3, sm4⟩, rfl, rfl, rfl, rfl, rfl, rfl, rfl, rfl, A', c11⟩, hl.mono (by simp [QL])⟩
  · refine ⟨0, 0, false, 6, fun w1 => JC w1 base s bz.length hv hs ⟨B, true, brV, bz, wy, ls, wrt, rdD, wrV, rdV⟩ ⟨B, true, brV, bz, ch, ws, wrt, rdD, wrV, rdV, F⟩, ?_, fun w1 h1 => ?_⟩
    · refine (Used_broken w (s 1) _ (s 6) wrt rdD _ hJ.drv.head).mono ?_
      rintro e w1 ⟨rfl, rfl⟩
      exact ⟨rfl, hJ, Left.refl _ _⟩
    · refine (rUsed_broken w1 _ _ _ _ _ _ _ _ _ _ _ _ h1.r1).mono ?_
      rintro e w2 ⟨rfl, rfl⟩
      exact ⟨rfl, ⟨_, _, h1, rfl, rfl, rfl, rfl, rfl, rfl, rfl, rfl, A, hB⟩, Left.refl _ _⟩
end
open Go.RowKit Go.MapKept

section
variable {w : World} {base q : Nat} {s : Nat → Nat} {hv : Value} {hs : List Nat}
def StepP (w : World) (base : Nat) (s : Nat → Nat) (q : Nat) (hv : Value) (hs : List Nat) : Prop :=
  ∃ (x : Nat) (ok : Bool) (er : Int) (l : List Buf) (M : World → Prop), x ≤ 65535 ∧ l.length ≤ 16 ∧
    (Calls Try.prog 40 #[.pointer (some ⟨s 5, 0, none⟩)] w fun e w1 => ∃ lv, e = .returned (.tuple #[.int .i64 x, lv, .bool ok, .int .i64 er]) ∧ w1.ownsRow w.heap.size 89 3 lv l.length (bufCells l) ∧ M w1 ∧ Left (PL s) w w1) ∧
    ∀ w1, M w1 → Calls Try.prog 77 #[.pointer (some ⟨s 14, 0, none⟩)] w1 fun e w2 => ∃ lv, e = .returned (.tuple #[.int .i64 x, lv, .bool ok, .int .i64 er]) ∧ w2.ownsRow w1.heap.size 89 3 lv l.length (bufCells l) ∧ JNb w.heap.size w2 base s q hv hs ∧ Left (QL s) w1 w2
theorem JX.pop (h : JX w base s q hv hs) : StepP w base s q hv hs := by
  obtain ⟨⟨B0, brD0, brV0, bz0, wy, ls, wrt0, rdD0, wrV0, rdV0⟩, ⟨B, brD, brV, bz, ch, ws, wrt, rdD, wrV, rdV, F⟩, hJ, hS⟩ := h
  dsimp only [Same] at hS
  obtain ⟨rfl, rfl, rfl, rfl, rfl, rfl, rfl, rfl, A, hB⟩ := hS
  have hi : ∀ i j, i < 18 → j < 18 → (s i = s j ↔ i = j) := hJ.inj
  obtain ⟨sm1, sm2, sm3, sm4⟩ := hJ.smallP
  dsimp only at sm1 sm2 sm3 sm4
  have hbel := hJ.bel
  have hl3 := (hJ.old 3 (by omega)).2
  cases brV
  · obtain ⟨k, hk⟩ : ∃ k, aheadV B (16 * (q : Int) + 2) rdV = k := ⟨_, rfl⟩
    by_cases hk0 : k = 0
    · refine ⟨0, false, 0, [], fun w1 => JC w1 base s q hv hs ⟨B, brD, false, bz, wy, ls, wrt, rdD, wrV, rdV⟩ ⟨B, brD, false, bz, ch, ws, wrt, rdD, wrV, rdV, F⟩ ∧ Bel w.heap.size w1 s hv ⟨B, brD, false, bz, ch, ws, wrt, rdD, wrV, rdV, F⟩, by omega, by simp, ?_, fun w1 h1 => ?_⟩
      · refine (Pop_none w (s 5) q (s 6) (s 7) wrV rdV B hJ.dev hJ.mem hJ.lenB.1 sm4 hJ.isq (hk.trans hk0)).mono ?_
        rintro e w1 ⟨rfl, hl⟩
        exact ⟨_, rfl, World.ownsRow_nil _ _ _ _, ⟨hJ.left0 hl, hbel.left hl (by simp) hl3⟩, hl.mono (by simp)⟩
      · obtain ⟨t2, c2, s2, h2⟩ := h1.1.r2
        refine (rPop_none w1 _ _ _ _ _ _ _ _ _ _ _ _ _ B h2 h1.1.rmem h1.1.lenB.2 sm4 hJ.isq k hk hk0).mono ?_
        rintro e w2 ⟨rfl, hl⟩
        exact ⟨_, rfl, World.ownsRow_nil _ _ _ _, ⟨_, _, h1.1.left0 hl, ⟨rfl, rfl, rfl, rfl, rfl, rfl, rfl, rfl, A, hB⟩, h1.2.left hl (by simp) (h1.1.old 3 (by omega)).2⟩, hl.mono (by simp)⟩
    · have hg := getV_lt B (16 * (q : Int) + 4 + 2 * ((rdV % q : Nat) : Int)) 2
      obtain ⟨hd, hhd⟩ : ∃ hd : Nat, popHead B q rdV = hd := ⟨(popHead B q rdV).toNat, by unfold popHead; omega⟩
      have hd5 : hd ≤ 65535 := by
        have := hg.2.2 (by omega)
        unfold popHead at hhd
        omega
      have hF : ∀ k ∈ [s 14], k ∉ F := by
        intro k hk
        simp only [List.mem_singleton] at hk
        subst hk
        exact fun hm => (hJ.fn _ hm).2 14 (by omega) rfl
      by_cases hok : k ≤ q ∧ ∃ l, chainV B q 17 hd false [] = some l
      · obtain ⟨hkq, l, hl0⟩ := hok
        obtain ⟨p1, p2⟩ := pop_some hl0
        refine ⟨hd, true, 0, l, fun w1 => JC w1 base s q hv hs ⟨B, brD, false, bz, wy, ls, wrt, rdD, wrV, (rdV + 1) % 65536⟩ ⟨B, brD, false, bz, ch, ws, wrt, rdD, wrV, rdV, F⟩ ∧ Bel w.heap.size w1 s hv ⟨B, brD, false, bz, ch, ws, wrt, rdD, wrV, rdV, F⟩, hd5, (bufsB_pos p2).2, ?_, fun w1 h1 => ?_⟩
        · refine (Pop_ok w (s 5) q (s 6) (s 7) wrV rdV B hd k l hJ.dev hJ.mem hJ.lenB.1 sm4 hJ.isq hk hk0 hkq hhd hl0).mono ?_
          rintro e w1 ⟨lv, rfl, hown, hd1, hl⟩
          exact ⟨lv, rfl, hown, ⟨hJ.prog (p' := ⟨B, brD, false, bz, wy, ls, wrt, rdD, wrV, (rdV + 1) % 65536⟩) (hl.mono (by simp [PL])) (hJ.mem.left hl (by simp [hi]) (by simp [hi])) (hJ.drv.leftB hl (fun k hk => by simp only [List.mem_singleton] at hk; subst hk; exact hJ.nor 5 (by omega)) (by simp [hi]) (by simp [hi]) (by simp [hi]) (by simp [hi])) hd1 (fun k _ hn => hn.left hl (by simp [hi]) (hJ.old 3 (by omega)).2) hJ.lenB.1 ⟨sm1, sm2, sm3, by dsimp only; omega⟩, hbel.left hl (by simp [hi]) hl3⟩, hl.mono (by simp [PL])⟩
        · obtain ⟨t2, c2, s2, h2⟩ := h1.1.r2
          refine (rPop_ok w1 _ _ _ _ _ (s 9) _ _ _ _ _ _ _ B hd k l h2 h1.1.rmem h1.1.lenB.2 sm4 hJ.isq hk hk0 hkq hhd p1 p2).mono ?_
          rintro e w2 ⟨lv, rfl, hown, hr, hl⟩
          exact ⟨lv, rfl, hown, ⟨_, _, h1.1.page (r' := ⟨B, brD, false, bz, ch, ws, wrt, rdD, wrV, (rdV + 1) % 65536, F⟩) (hl.mono (by simp [QL])) (h1.1.rmem.left hl (by simp [hi]) (by simp [hi])) (h1.1.r1.left hl (by simp [hi]) (by simp [hi]) (by simp [hi]) (by simp [hi]) hF) ⟨t2, c2, s2, hr⟩ (fun k hk => .inl hk) (fun k hk => by have := (h1.1.fn k hk).1; have := hl.size; omega) h1.1.lenB.2 ⟨sm1, sm2, sm3, by dsimp only; omega⟩, ⟨rfl, rfl, rfl, rfl, rfl, rfl, rfl, rfl, A, hB⟩, ⟨h1.2.f, (h1.2.left hl (by simp [hi]) (h1.1.old 3 (by omega)).2).row, h1.2.at_, h1.2.hv_⟩⟩, hl.mono (by simp [QL])⟩
      · have b1 : (q : Int) < k ∨ chainV B q 17 hd false [] = none := by
          by_cases hkq : k ≤ q
          · right
            cases hc : chainV B q 17 hd false [] with
            | none => rfl
            | some l => exact absurd ⟨hkq, l, hc⟩ hok
          · left; omega
        have b2 : (q : Int) < k ∨ walkV B q 17 hd [] = none ∨ ∃ l, walkV B q 17 hd [] = some l ∧ bufsB l = false := by
          rcases b1 with h | h
          · exact .inl h
          · exact .inr (pop_none h)
        refine ⟨0, false, 1, [], fun w1 => JC w1 base s q hv hs ⟨B, brD, true, bz, wy, ls, wrt, rdD, wrV, rdV⟩ ⟨B, brD, false, bz, ch, ws, wrt, rdD, wrV, rdV, F⟩ ∧ Bel w.heap.size w1 s hv ⟨B, brD, false, bz, ch, ws, wrt, rdD, wrV, rdV, F⟩, by omega, by simp, ?_, fun w1 h1 => ?_⟩
        · refine (Pop_bad w (s 5) q (s 6) (s 7) wrV rdV B hd k hJ.dev hJ.mem hJ.lenB.1 sm4 hJ.isq hk hk0 hhd b1).mono ?_
          rintro e w1 ⟨rfl, hd1, hl⟩
          exact ⟨_, rfl, World.ownsRow_nil _ _ _ _, ⟨hJ.prog (p' := ⟨B, brD, true, bz, wy, ls, wrt, rdD, wrV, rdV⟩) (hl.mono (by simp [PL])) (hJ.mem.left hl (by simp [hi]) (by simp [hi])) (hJ.drv.leftB hl (fun k hk => by simp only [List.mem_singleton] at hk; subst hk; exact hJ.nor 5 (by omega)) (by simp [hi]) (by simp [hi]) (by simp [hi]) (by simp [hi])) hd1 (fun k _ hn => hn.left hl (by simp [hi]) (hJ.old 3 (by omega)).2) hJ.lenB.1 hJ.smallP, hbel.left hl (by simp [hi]) hl3⟩, hl.mono (by simp [PL])⟩
        · obtain ⟨t2, c2, s2, h2⟩ := h1.1.r2
          refine (rPop_bad w1 _ _ _ _ _ (s 9) _ _ _ _ _ _ _ B hd k h2 h1.1.rmem h1.1.lenB.2 sm4 hJ.isq hk hk0 hhd b2).mono ?_
          rintro e w2 ⟨rfl, hr, hl⟩
          exact ⟨_, rfl, World.ownsRow_nil _ _ _ _, ⟨_, _, h1.1.page (r' := ⟨B, brD, true, bz, ch, ws, wrt, rdD, wrV, rdV, F⟩) (hl.mono (by simp [QL])) (h1.1.rmem.left hl (by simp [hi]) (by simp [hi])) (h1.1.r1.left hl (by simp [hi]) (by simp [hi]) (by simp [hi]) (by simp [hi]) hF) ⟨t2, c2, s2, hr⟩ (fun k hk => .inl hk) (fun k hk => by have := (h1.1.fn k hk).1; have := hl.size; omega) h1.1.lenB.2 h1.1.smallR, ⟨rfl, rfl, rfl, rfl, rfl, rfl, rfl, rfl, A, hB⟩, ⟨h1.2.f, (h1.2.left hl (by simp [hi]) (h1.1.old 3 (by omega)).2).row, h1.2.at_, h1.2.hv_⟩⟩, hl.mono (by simp [QL])⟩
  · refine ⟨0, false, 6, [], fun w1 => JC w1 base s q hv hs ⟨B, brD, true, bz, wy, ls, wrt, rdD, wrV, rdV⟩ ⟨B, brD, true, bz, ch, ws, wrt, rdD, wrV, rdV, F⟩ ∧ Bel w.heap.size w1 s hv ⟨B, brD, true, bz, ch, ws, wrt, rdD, wrV, rdV, F⟩, by omega, by simp, ?_, fun w1 h1 => ?_⟩
    · refine (Pop_broken w (s 5) q (s 6) wrV rdV hJ.dev).mono ?_
      rintro e w1 ⟨rfl, rfl⟩
      exact ⟨_, rfl, World.ownsRow_nil _ _ _ _, ⟨hJ, hbel⟩, Left.refl _ _⟩
    · obtain ⟨t2, c2, s2, h2⟩ := h1.1.r2
      refine (rPop_broken w1 _ _ _ _ _ _ _ _ _ _ _ _ h2).mono ?_
      rintro e w2 ⟨rfl, rfl⟩
      exact ⟨_, rfl, World.ownsRow_nil _ _ _ _, ⟨_, _, h1.1, ⟨rfl, rfl, rfl, rfl, rfl, rfl, rfl, rfl, A, hB⟩, h1.2⟩, Left.refl _ _⟩

theorem pushB_length (B : List UInt8) (q wr a b : Nat) : (pushB B q wr a b).length = B.length := by unfold pushB; rw [putV_length, putV_length, putV_length]
def StepS (head n : Int) (w : World) (base : Nat) (s : Nat → Nat) (q : Nat) (hv : Value) (hs : List Nat) : Prop :=
  ∃ (er : Int) (M : World → Prop),
    (Calls Try.prog 42 #[.pointer (some ⟨s 5, 0, none⟩), .int .i64 head, .int .i64 n] w fun e w1 => e = .returned (.int .i64 er) ∧ M w1 ∧ Left (PL s) w w1) ∧
    ∀ w1, M w1 → Calls Try.prog 79 #[.pointer (some ⟨s 14, 0, none⟩), .int .i64 head, .int .i64 n] w1 fun e w2 => e = .returned (.int .i64 er) ∧ JX w2 base s q hv hs ∧ Left (QL s) w1 w2
theorem JX.push (h : JX w base s q hv hs) (head n : Int) : StepS head n w base s q hv hs := by
  obtain ⟨⟨B0, brD0, brV0, bz0, wy, ls, wrt0, rdD0, wrV0, rdV0⟩, ⟨B, brD, brV, bz, ch, ws, wrt, rdD, wrV, rdV, F⟩, hJ, hS⟩ := h
  dsimp only [Same] at hS
  obtain ⟨rfl, rfl, rfl, rfl, rfl, rfl, rfl, rfl, A, hB⟩ := hS
  have hi : ∀ i j, i < 18 → j < 18 → (s i = s j ↔ i = j) := hJ.inj
  obtain ⟨sm1, sm2, sm3, sm4⟩ := hJ.smallP
  dsimp only at sm1 sm2 sm3 sm4
  have hF : ∀ k ∈ [s 14, s 9], k ∉ F := by
    intro k hk
    simp only [List.mem_cons, List.mem_nil_iff, or_false] at hk
    rcases hk with rfl | rfl
    · exact fun hm => (hJ.fn _ hm).2 14 (by omega) rfl
    · exact fun hm => (hJ.fn _ hm).2 9 (by omega) rfl
  cases brV
  · by_cases hx : head < 0 ∨ (q : Int) ≤ head ∨ n < 0 ∨ 4294967295 < n
    · refine ⟨1, fun w1 => JC w1 base s q hv hs ⟨B, brD, false, bz, wy, ls, wrt, rdD, wrV, rdV⟩ ⟨B, brD, false, bz, ch, ws, wrt, rdD, wrV, rdV, F⟩, ?_, fun w1 h1 => ?_⟩
      · refine (Push_form w (s 5) q (s 6) wrV rdV head n hJ.dev hx).mono ?_
        rintro e w1 ⟨rfl, rfl⟩
        exact ⟨rfl, hJ, Left.refl _ _⟩
      · obtain ⟨t2, c2, s2, h2⟩ := h1.r2
        refine (rPush_form w1 _ _ _ _ _ _ _ _ _ _ _ _ head n h2 hJ.isq hx).mono ?_
        rintro e w2 ⟨rfl, rfl⟩
        exact ⟨rfl, ⟨_, _, h1, rfl, rfl, rfl, rfl, rfl, rfl, rfl, rfl, A, hB⟩, Left.refl _ _⟩
    · obtain ⟨hd, rfl⟩ : ∃ hd : Nat, head = hd := ⟨head.toNat, by omega⟩
      obtain ⟨nn, rfl⟩ : ∃ nn : Nat, n = nn := ⟨n.toNat, by omega⟩
      refine ⟨0, fun w1 => JC w1 base s q hv hs ⟨pushB B q wrV hd nn, brD, false, bz, wy, ls, wrt, rdD, (wrV + 1) % 65536, rdV⟩ ⟨B, brD, false, bz, ch, ws, wrt, rdD, wrV, rdV, F⟩, ?_, fun w1 h1 => ?_⟩
      · refine (Push_ok w (s 5) q (s 6) (s 7) wrV rdV B hd nn hJ.dev hJ.mem hJ.lenB.1 sm3 hJ.isq (by omega) (by omega)).mono ?_
        rintro e w1 ⟨rfl, hd1, hm1, hl⟩
        exact ⟨rfl, hJ.prog (p' := ⟨pushB B q wrV hd nn, brD, false, bz, wy, ls, wrt, rdD, (wrV + 1) % 65536, rdV⟩) (hl.mono (by simp [PL])) hm1 (hJ.drv.leftB hl (fun k hk => by
          simp only [List.mem_cons, List.mem_nil_iff, or_false] at hk
          rcases hk with rfl | rfl
          · exact hJ.nor 5 (by omega)
          · exact hJ.nor 7 (by omega)) (by simp [hi]) (by simp [hi]) (by simp [hi]) (by simp [hi])) hd1 (fun k _ hn => hn.left hl (by simp [hi]) (hJ.old 3 (by omega)).2) (by dsimp only; rw [pushB_length]; exact hJ.lenB.1) ⟨sm1, sm2, by dsimp only; omega, sm4⟩, hl.mono (by simp [PL])⟩
      · obtain ⟨t2, c2, s2, h2⟩ := h1.r2
        refine (rPush_ok w1 _ _ _ _ _ (s 9) _ _ _ _ _ _ _ B hd nn h2 h1.rmem h1.lenB.2 sm3 hJ.isq (by omega) (by omega) (by simp)).mono ?_
        rintro e w2 ⟨rfl, hr, hm2, hl⟩
        exact ⟨rfl, ⟨_, _, h1.page (r' := ⟨pushB B q wrV hd nn, brD, false, bz, ch, ws, wrt, rdD, (wrV + 1) % 65536, rdV, F⟩) (hl.mono (by simp [QL])) hm2 (h1.r1.left hl (by simp [hi]) (by simp [hi]) (by simp [hi]) (by simp [hi]) hF) ⟨t2, c2, s2, hr⟩ (fun k hk => .inl hk) (fun k hk => by have := (h1.fn k hk).1; have := hl.size; omega) (by dsimp only; rw [pushB_length]; exact h1.lenB.2) ⟨sm1, sm2, by dsimp only; omega, sm4⟩, rfl, rfl, rfl, rfl, rfl, rfl, rfl, rfl, A, hB⟩, hl.mono (by simp [QL])⟩
  · refine ⟨6, fun w1 => JC w1 base s q hv hs ⟨B, brD, true, bz, wy, ls, wrt, rdD, wrV, rdV⟩ ⟨B, brD, true, bz, ch, ws, wrt, rdD, wrV, rdV, F⟩, ?_, fun w1 h1 => ?_⟩
    · refine (Push_broken w (s 5) q (s 6) wrV rdV head n hJ.dev).mono ?_
      rintro e w1 ⟨rfl, rfl⟩
      exact ⟨rfl, hJ, Left.refl _ _⟩
    · obtain ⟨t2, c2, s2, h2⟩ := h1.r2
      refine (rPush_broken w1 _ _ _ _ _ _ _ _ _ _ _ _ head n h2).mono ?_
      rintro e w2 ⟨rfl, rfl⟩
      exact ⟨rfl, ⟨_, _, h1, rfl, rfl, rfl, rfl, rfl, rfl, rfl, rfl, A, hB⟩, Left.refl _ _⟩

def StepM (at_ n : Int) (v : Nat) (w : World) (base : Nat) (s : Nat → Nat) (q : Nat) (hv : Value) (hs : List Nat) : Prop :=
  ∃ (er : Int) (M : World → Prop),
    (Calls Try.prog 23 #[.pointer (some ⟨s 6, 0, none⟩), .int .i64 at_, .int .i64 n, .int .u64 v] w fun e w1 => e = .returned (.int .i64 er) ∧ M w1 ∧ Left (PL s) w w1) ∧
    ∀ w1, M w1 → Calls Try.prog 27 #[.pointer (some ⟨s 8, 0, none⟩), .int .i64 at_, .int .i64 n, .int .u64 v] w1 fun e w2 => e = .returned (.int .i64 er) ∧ JX w2 base s q hv hs ∧ Left (QL s) w1 w2
theorem JX.put (h : JX w base s q hv hs) (at_ n : Int) (v : Nat) : StepM at_ n v w base s q hv hs := by
  obtain ⟨⟨B0, brD0, brV0, bz0, wy, ls, wrt0, rdD0, wrV0, rdV0⟩, ⟨B, brD, brV, bz, ch, ws, wrt, rdD, wrV, rdV, F⟩, hJ, hS⟩ := h
  dsimp only [Same] at hS
  obtain ⟨rfl, rfl, rfl, rfl, rfl, rfl, rfl, rfl, A, hB⟩ := hS
  have hi : ∀ i j, i < 18 → j < 18 → (s i = s j ↔ i = j) := hJ.inj
  obtain ⟨sm1, sm2, sm3, sm4⟩ := hJ.smallP
  dsimp only at sm1 sm2 sm3 sm4
  have hF : ∀ k ∈ [s 9], k ∉ F := by
    intro k hk
    simp only [List.mem_singleton] at hk
    subst hk
    exact fun hm => (hJ.fn _ hm).2 9 (by omega) rfl
  refine ⟨askE B.length at_ n, fun w1 => JC w1 base s q hv hs ⟨putV B at_ n v, brD, brV, bz, wy, ls, wrt, rdD, wrV, rdV⟩ ⟨B, brD, brV, bz, ch, ws, wrt, rdD, wrV, rdV, F⟩, ?_, fun w1 h1 => ?_⟩
  · refine (Put_any w (s 6) (s 7) B at_ n v hJ.mem hJ.lenB.1).mono ?_
    rintro e w1 ⟨rfl, hm1, hl⟩
    exact ⟨rfl, hJ.prog (p' := ⟨putV B at_ n v, brD, brV, bz, wy, ls, wrt, rdD, wrV, rdV⟩) (hl.mono (by simp [PL])) hm1 (hJ.drv.leftB hl (fun k hk => by simp only [List.mem_singleton] at hk; subst hk; exact hJ.nor 7 (by omega)) (by simp [hi]) (by simp [hi]) (by simp [hi]) (by simp [hi])) (hJ.dev.left hl (by simp [hi])) (fun k _ hn => hn.left hl (by simp [hi]) (hJ.old 3 (by omega)).2) (by dsimp only; rw [putV_length]; exact hJ.lenB.1) hJ.smallP, hl.mono (by simp [PL])⟩
  · obtain ⟨t2, c2, s2, h2⟩ := h1.r2
    refine (rPut_any w1 (s 8) (s 9) B at_ n v h1.rmem h1.lenB.2).mono ?_
    rintro e w2 ⟨rfl, hm2, hl⟩
    exact ⟨rfl, ⟨_, _, h1.page (r' := ⟨putV B at_ n v, brD, brV, bz, ch, ws, wrt, rdD, wrV, rdV, F⟩) (hl.mono (by simp [QL])) hm2 (h1.r1.left hl (by simp [hi]) (by simp [hi]) (by simp [hi]) (by simp [hi]) hF) ⟨t2, c2, s2, h2.left hl (by simp [hi]) (by simp [hi]) (by simp [hi]) (by simp [hi]) (by simp)⟩ (fun k hk => .inl hk) (fun k hk => by have := (h1.fn k hk).1; have := hl.size; omega) (by dsimp only; rw [putV_length]; exact h1.lenB.2) h1.smallR, rfl, rfl, rfl, rfl, rfl, rfl, rfl, rfl, A, hB⟩, hl.mono (by simp [QL])⟩

theorem JX.free (h : JX w base s q hv hs) : ∃ fn : Nat, (∀ k, Calls Try.prog 39 #[.pointer (some ⟨s 1, 0, none⟩)] (w.drewN k) fun e w1 => e = .returned (.int .i64 fn) ∧ w1 = w.drewN k) ∧ (∀ k, Calls Try.prog 81 #[.pointer (some ⟨s 10, 0, none⟩)] (w.drewN k) fun e w1 => e = .returned (.int .i64 fn) ∧ w1 = w.drewN k) := by
  obtain ⟨⟨B0, brD0, brV0, bz0, wy, ls, wrt0, rdD0, wrV0, rdV0⟩, ⟨B, brD, brV, bz, ch, ws, wrt, rdD, wrV, rdV, F⟩, hJ, hS⟩ := h
  dsimp only [Same] at hS
  obtain ⟨rfl, rfl, rfl, rfl, rfl, rfl, rfl, rfl, A, hB⟩ := hS
  have hi : ∀ i j, i < 18 → j < 18 → (s i = s j ↔ i = j) := hJ.inj
  obtain ⟨sm1, sm2, sm3, sm4⟩ := hJ.smallP
  dsimp only at sm1 sm2 sm3 sm4
  have hl : bz.length ≤ 64 := by have := hJ.drv.len; have := hJ.isq.2; dsimp only at *; omega
  exact ⟨freeN bz, fun k => Free_any _ (s 1) (s 2) q (s 6) brD wrt rdD bz _ _ (hJ.drv.head.drewN k) (hJ.drv.busy.drewN k) hl, fun k => rFree_any _ _ _ _ _ _ _ _ _ _ _ _ _ _ (hJ.r1.drewN k) hJ.isq.2⟩
theorem rd_block {w : World} {Bd : Nat} {v : Value} {L : List Buf} (h : Rd w Bd 3 v L.length (bufCells L)) (hL : 0 < L.length) : ∃ b, v.ownBlock = some b ∧ b < Bd := by
  obtain ⟨ao, cap, rfl, _, _⟩ := h.form
  obtain ⟨b, o, u, rfl, hb, _⟩ := h.at_ (k := 0) (by omega)
  exact ⟨b, rfl, hb⟩
def StepA (v1 v2 : Value) (w : World) (base : Nat) (s : Nat → Nat) (q : Nat) (hv : Value) (hs : List Nat) : Prop :=
  ∃ (x er : Int) (M : World → Prop),
    (Calls Try.prog 45 #[.pointer (some ⟨s 1, 0, none⟩), v1] w fun e w1 => e = .returned (.tuple #[.int .i64 x, .int .i64 er]) ∧ M w1 ∧ Left (PL s) w w1) ∧
    ∀ w0 w1, M w0 → Left [] w0 w1 → Calls Try.prog 80 #[.pointer (some ⟨s 10, 0, none⟩), v2] w1 fun e w2 => e = .returned (.tuple #[.int .i64 x, .int .i64 er]) ∧ JX w2 base s q hv hs ∧ Left (QL s) w1 w2
theorem JX.add (h : JX w base s q hv hs) {v1 v2 : Value} {L : List Buf} (hR1 : Rd w w.heap.size 3 v1 L.length (bufCells L)) (hv1 : ∀ k, v1.ownBlock = some k → ∀ i, i < 18 → k ≠ s i) (hR2 : Rd w base 3 v2 L.length (bufCells L)) : StepA v1 v2 w base s q hv hs := by
  obtain ⟨⟨B0, brD0, brV0, bz0, wy, ls, wrt0, rdD0, wrV0, rdV0⟩, ⟨B, brD, brV, bz, ch, ws, wrt, rdD, wrV, rdV, F⟩, hJ, hS⟩ := h
  dsimp only [Same] at hS
  obtain ⟨rfl, rfl, rfl, rfl, rfl, rfl, rfl, rfl, A, hB⟩ := hS
  have hi : ∀ i j, i < 18 → j < 18 → (s i = s j ↔ i = j) := hJ.inj
  obtain ⟨sm1, sm2, sm3, sm4⟩ := hJ.smallP
  dsimp only at sm1 sm2 sm3 sm4
  have hl0 := hJ.drv.len
  dsimp only at hl0
  have hisq := hJ.isq
  have hbs : base ≤ w.heap.size := by have := hJ.old 0 (by omega); omega
  have hR2' : ∀ w1, Left (PL s) w w1 → Rd w1 w1.heap.size 3 v2 L.length (bufCells L) := fun w1 hl => by
    have hbl : Below base w w1 := hl.belowB hbs (fun k hk => by obtain ⟨j, _, h2, rfl⟩ := PL_mem hk; exact (hJ.old j (by omega)).1)
    exact (hR2.below hbl).more (by have := hl.size; omega)
  have hF : ∀ i, i < 18 → s i ∉ F := fun i hi hm => (hJ.fn _ hm).2 i hi rfl
  cases brD
  · cases hx : bufsB L
    · refine ⟨0, 1, fun w1 => JC w1 base s q hv hs ⟨B, false, brV, bz, wy, ls, wrt, rdD, wrV, rdV⟩ ⟨B, false, brV, bz, ch, ws, wrt, rdD, wrV, rdV, F⟩ ∧ Left (PL s) w w1, ?_, fun w0 w1 h0 hl0 => ?_⟩
      · refine (Add_form w (s 1) _ (s 6) wrt rdD _ v1 L hJ.drv.head hR1 hx).mono ?_
        rintro e w1 ⟨rfl, hb⟩
        exact ⟨rfl, ⟨hJ.left0 (Left.of_below hb []), Left.of_below hb _⟩, Left.of_below hb _⟩
      · have h1 := And.intro (h0.1.left0 hl0) (h0.2.trans (T := []) hl0 (by simp))
        refine (rAdd_form w1 _ _ _ _ _ _ _ _ _ _ _ _ v2 L h1.1.r1 (hR2' w1 h1.2) hx).mono ?_
        rintro e w2 ⟨rfl, hb⟩
        exact ⟨rfl, ⟨_, _, h1.1.left0 (Left.of_below hb []), rfl, rfl, rfl, rfl, rfl, rfl, rfl, rfl, A, hB⟩, Left.of_below hb _⟩
    · by_cases hf : L.length ≤ freeN bz
      · have hpos := bufsB_pos hx
        obtain ⟨b2, hb2, hb2l⟩ := rd_block hR2 (by omega)
        obtain ⟨o0, ho0⟩ : ∃ o0, (takes bz L.length)[0]? = some o0 := ⟨_, List.getElem?_eq_getElem (by rw [takes_length]; omega)⟩
        refine ⟨o0, 0, fun w1 => JC w1 base s q hv hs ⟨addB B L (takes bz L.length) o0 bz.length wrt, false, brV, setAll bz (takes bz L.length) true, wy ++ [((o0 : Int), takes bz L.length)], ls ++ [((o0 : Int), wsum L)], (wrt + 1) % 65536, rdD, wrV, rdV⟩ ⟨B, false, brV, bz, ch, ws, wrt, rdD, wrV, rdV, F⟩ ∧ Left (PL s) w w1, ?_, fun w0 w1 h0 hl0 => ?_⟩
        · refine (Add_try w (s 1) (s 2) (s 3) (s 4) q (s 6) wrt rdD bz wy ls v1 L hJ.drv (by omega) (s 7) B hJ.mem hJ.lenB.1 hR1 ⟨fun e => hv1 _ e 7 (by omega) rfl, fun e => hv1 _ e 2 (by omega) rfl⟩ hx hf (by omega) hB.held.free_key).mono ?_
          rintro e w1 ⟨o1, ho1, rfl, hd1, hm1, hl, hn⟩
          rw [ho0] at ho1
          injection ho1 with ho1
          subst ho1
          have hlB : (addB B L (takes bz L.length) o0 bz.length wrt).length = B.length := by unfold addB; rw [putV_length, putV_length, descsB_length]
          have hl' : Left (PL s) w w1 := hl.mono (by simp [PL])
          exact ⟨rfl, ⟨hJ.prog (p' := ⟨addB B L (takes bz L.length) o0 bz.length wrt, false, brV, setAll bz (takes bz L.length) true, wy ++ [((o0 : Int), takes bz L.length)], ls ++ [((o0 : Int), wsum L)], (wrt + 1) % 65536, rdD, wrV, rdV⟩) hl' hm1 hd1 (hJ.dev.left hl (by simp [hi])) (fun k hk hn' => hn k hk hn') (by dsimp only; rw [hlB]; exact hJ.lenB.1) ⟨by dsimp only; omega, sm2, sm3, sm4⟩, hl'⟩, hl'⟩
        · have h1 := And.intro (h0.1.left0 hl0) (h0.2.trans (T := []) hl0 (by simp))
          refine (rAdd_ok w1 _ _ _ _ _ (s 9) _ _ _ _ _ _ _ B v2 L h1.1.r1 h1.1.rmem h1.1.lenB.2 sm1 hJ.isq (hR2' w1 h1.2) hx hf (hF 9 (by omega)) (fun k hk => (h1.1.fn k hk).1) (fun e => by rw [hb2] at e; injection e with e; have := (hJ.old 9 (by omega)).1; omega) (fun e => by rw [hb2] at e; injection e with e; have := (hJ.old 11 (by omega)).1; omega)).mono ?_
          rintro e w2 ⟨o1, g, ho1, rfl, hg1, hg2, hr, hm2, hl⟩
          rw [ho0] at ho1
          injection ho1 with ho1
          subst ho1
          obtain ⟨t2, c2, s2, h2⟩ := h1.1.r2
          have hqb : bz.length = q := by omega
          have hlB : (addB B L (takes bz L.length) o0 bz.length wrt).length = B.length := by unfold addB; rw [putV_length, putV_length, descsB_length]
          exact ⟨rfl, ⟨_, _, h1.1.page (r' := ⟨addB B L (takes bz L.length) o0 bz.length wrt, false, brV, setAll bz (takes bz L.length) true, ch.set o0 (takes bz L.length), ws.set o0 (wsum L), (wrt + 1) % 65536, rdD, wrV, rdV, g :: F⟩) (hl.mono (by simp [QL])) (by rw [hqb]; exact hm2) hr ⟨t2, c2, s2, h2.left hl (by simp [hi]) (by simp [hi]) (by simp [hi]) (by simp [hi]) (by simp)⟩ (fun k hk => by
            rcases List.mem_cons.1 hk with rfl | hk
            · exact .inr hg1
            · exact .inl hk) (fun k hk => by
            rcases List.mem_cons.1 hk with rfl | hk
            · exact hg2
            · have := (h1.1.fn k hk).1; have := hl.size; omega) (by dsimp only; rw [hlB]; exact h1.1.lenB.2) ⟨by dsimp only; omega, sm2, sm3, sm4⟩, rfl, rfl, rfl, rfl, rfl, rfl, rfl, rfl, _, hB.add hx hf ho0⟩, hl.mono (by simp [QL])⟩
      · refine ⟨0, 5, fun w1 => JC w1 base s q hv hs ⟨B, false, brV, bz, wy, ls, wrt, rdD, wrV, rdV⟩ ⟨B, false, brV, bz, ch, ws, wrt, rdD, wrV, rdV, F⟩ ∧ Left (PL s) w w1, ?_, fun w0 w1 h0 hl0 => ?_⟩
        · refine (Add_full w (s 1) (s 2) (s 3) (s 4) q (s 6) wrt rdD bz wy ls v1 L hJ.drv (by omega) hR1 hx (by omega)).mono ?_
          rintro e w1 ⟨rfl, hb⟩
          exact ⟨rfl, ⟨hJ.left0 (Left.of_below hb []), Left.of_below hb _⟩, Left.of_below hb _⟩
        · have h1 := And.intro (h0.1.left0 hl0) (h0.2.trans (T := []) hl0 (by simp))
          refine (rAdd_full w1 _ _ _ _ _ _ _ _ _ _ _ _ v2 L h1.1.r1 hJ.isq.2 (hR2' w1 h1.2) hx (show freeN bz < L.length by omega)).mono ?_
          rintro e w2 ⟨rfl, hb⟩
          exact ⟨rfl, ⟨_, _, h1.1.left0 (Left.of_below hb []), rfl, rfl, rfl, rfl, rfl, rfl, rfl, rfl, A, hB⟩, Left.of_below hb _⟩
  · refine ⟨0, 6, fun w1 => JC w1 base s q hv hs ⟨B, true, brV, bz, wy, ls, wrt, rdD, wrV, rdV⟩ ⟨B, true, brV, bz, ch, ws, wrt, rdD, wrV, rdV, F⟩, ?_, fun w0 w1 h0 hl0 => ?_⟩
    · refine (Add_broken w (s 1) _ (s 6) wrt rdD _ v1 L hJ.drv.head hR1).mono ?_
      rintro e w1 ⟨rfl, hb⟩
      exact ⟨rfl, hJ.left0 (Left.of_below hb []), Left.of_below hb _⟩
    · have h1 := h0.left0 hl0
      refine (rAdd_broken w1 _ _ _ _ _ _ _ _ _ _ _ _ v2 h1.r1).mono ?_
      rintro e w2 ⟨rfl, rfl⟩
      exact ⟨rfl, ⟨_, _, h1, rfl, rfl, rfl, rfl, rfl, rfl, rfl, rfl, A, hB⟩, Left.refl _ _⟩
end
end Go.Proofs.Ytfffehbipcikoaa
