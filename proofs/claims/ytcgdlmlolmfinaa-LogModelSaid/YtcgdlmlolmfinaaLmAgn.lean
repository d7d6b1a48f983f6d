/- Law 6: Again; what a crash leaves. -/

import Derived.Test.YtcgdlmlolmfinaaDkCrash
import Derived.Test.YtcgdlmlolmfinaaLmDoes
namespace Go.Proofs.Ytcgdlmlolmfinaa
open Go.RowKit
theorem crash_len (s : DS) (picks : List Int) (h64 : ∀ p ∈ s.W, p.2.length = 64) (h : s.K.length = 262144) : (crashK s.W picks s.K).length = 262144 := by
  have := (crashGo_sec (W := s.W) (picks := picks) h64 (List.range (s.K.length / 64)) 0 s.K List.nodup_range (fun n hn => by
    have := List.mem_range.1 hn
    omega)).1
  unfold crashK
  rw [this, h]
theorem crash_img (s : DS) (picks : List Int) (h64 : ∀ p ∈ s.W, p.2.length = 64) (h : s.K.length = 262144) : Img (view s) (fun m => secN (crashK s.W picks s.K) m) := fun m hm => by
  have := (crashGo_sec (W := s.W) (picks := picks) h64 (List.range (s.K.length / 64)) 0 s.K List.nodup_range (fun n hn => by
    have := List.mem_range.1 hn
    omega)).2.2 m (List.mem_range.2 (by omega))
  obtain ⟨q, hq, e⟩ := this
  exact ⟨q, hq, e⟩
theorem same_sync {L : LS} {ls l : List (List UInt8)} {G N : Int} (h : LSafe L ls l G N) (hW : L.d.W = []) (picks : List Int) : Same cbL L.region L.gen l (fun m => secN (crashK L.d.W picks L.d.K) m) := by
  have hi := crash_img L.d picks h.ok.on.w64 h.ok.on.len
  have he : ∀ m, m < 4096 → (fun m => secN (crashK L.d.W picks L.d.K) m) m = (view L.d).2 m := fun m hm => hi.same hm (by
    show secN L.d.K m = secE L.d m
    unfold secE
    rw [hW]
    rfl)
  refine ⟨h.ok.live.opn.congr he, ?_, ?_⟩
  · rw [he 0 (by omega)]; exact h.ok.live.g0
  · rw [he 2048 (by omega)]; exact h.ok.live.g1
def AgP (w : World) (F : List Nat) (B : List UInt8) (e : Ending) (w' : World) : Prop :=
  ∃ R2 F2 base2, e = .returned (.pointer (some ⟨R2, 0, none⟩)) ∧ DkG w' base2 R2 F2 (newS B) ∧ Left F w w' ∧ w.heap.size ≤ base2 ∧ base2 ≤ w'.heap.size
set_option maxRecDepth 20000 in
set_option maxHeartbeats 2000000 in
theorem kagain {w : World} {base RD : Nat} {F : List Nat} {s : DS} (hd : DkG w base RD F s) (hz : base ≤ w.heap.size) (h64 : ∀ p ∈ s.W, p.2.length = 64) (hK : s.K.length = 262144) {pv : Value} {picks : List Int} {B0 : Nat} (hp : Rd w B0 1 pv picks.length (i64s picks)) (hB0 : B0 ≤ w.heap.size) (hpl : picks.length ≤ 1000000) (hpr : ∀ p ∈ picks, InR p) :
    Calls Try.prog 19 #[.pointer (some ⟨RD, 0, none⟩), pv] w (AgP w F (crashK s.W picks s.K)) := by
  have hlen := crash_len s picks h64 hK
  have HCR := Lib.hid (Crash_g hd hz hp hB0 hpl (fun p hp => hpr p hp))
  obtain ⟨B, hB⟩ : ∃ B, crashK s.W picks s.K = B := ⟨_, rfl⟩
  unfold CrashP at HCR
  rw [hB] at HCR hlen ⊢
  obtain ⟨po, pc, rfl, _, _⟩ := hp.form
  have HLN := Lib.hid (And.intro hlen hK)
  clear hd hz hp hpr hB hlen hK h64
  go_enter Try.func19, Try.ntmps19
  go_wp2_with fail
  refine HCR.out.mono ?_
  rintro e w1 ⟨v, rfl, hv, hd1, hl1⟩
  rw [HLN.out.2, ← HLN.out.1] at hv
  obtain ⟨vo, vc, rfl, _, _⟩ := (Rd.of_own hv).form
  have hNW := New_g w1 (B := B) (Rd.of_own hv) (by rw [HLN.out.1]; omega)
  have hm : mayD B.length := by rw [HLN.out.1]; unfold mayD; omega
  unfold NewP at hNW
  simp only [if_pos hm] at hNW
  have HNW := Lib.hid hNW
  have HL1 := Lib.hid hl1
  clear hv hd1 hl1 hNW hm
  go_wp2_with fail
  refine HNW.out.mono ?_
  rintro e w2 ⟨R2, F2, rfl, hd2, hl2⟩
  have HR : Hid (DkG w2 w1.heap.size R2 F2 (newS B) ∧ Left F w w2 ∧ w.heap.size ≤ w1.heap.size ∧ w1.heap.size ≤ w2.heap.size) := Lib.hid ⟨hd2, HL1.out.trans hl2 (by simp), HL1.out.size, hl2.size⟩
  clear hd2 hl2
  go_wp2_with (go_at_call 8; refine (knum _ _).mono ?_; rintro e w' ⟨rfl, rfl⟩)
  go_ret
  exact ⟨R2, F2, _, rfl, HR.out⟩
/-- Opened behind a crash of what was synced: the same. -/
theorem kagain_sync {w : World} {base R RD : Nat} {X : List Nat} {ls l : List (List UInt8)} {G N : Int} (h : KG w base R RD X true ls l G N) (hz : base ≤ w.heap.size) {pv : Value} {picks : List Int} {B0 : Nat} (hp : Rd w B0 1 pv picks.length (i64s picks)) (hB0 : B0 ≤ w.heap.size) (hpl : picks.length ≤ 1000000) (hpr : ∀ p ∈ picks, InR p) :
    Calls Try.prog 19 #[.pointer (some ⟨RD, 0, none⟩), pv] w fun e w' => ∃ B r g, B.length = 262144 ∧ Same cbL r g l (fun m => secN B m) ∧ 0 ≤ g ∧ g ≤ G ∧ AgP w X B e w' := by
  obtain ⟨L, ⟨F, lv, ha, hsub, _⟩, hs, hW⟩ := h
  have hc := kagain ha.disk hz hs.ok.on.w64 hs.ok.on.len hp hB0 hpl hpr
  refine hc.mono fun e w' ⟨R2, F2, base2, h1, h2, h3, h4⟩ => ⟨_, _, _, crash_len L.d picks hs.ok.on.w64 hs.ok.on.len, same_sync hs (hW rfl) picks, hs.g.1, hs.g.2, R2, F2, base2, h1, h2, h3.mono (fun k hk => hsub k (.inr (.inr hk))), h4⟩
end Go.Proofs.Ytcgdlmlolmfinaa
