/- A disk of the program: Crash. -/


import Derived.Test.YtcgdlmlolmfinaaDkNew
import Derived.Test.YtcgdlmlolmfinaaDkKeys
import Derived.Test.YtcgdlmlolmfinaaDkPlain2
import Derived.Laws.CopyRow
namespace Go.Proofs.Ytcgdlmlolmfinaa
open Go.RowKit Go.MapKept
theorem nodup_le : ∀ (N : Nat) (l : List Int), l.Nodup → (∀ x ∈ l, 0 ≤ x ∧ x < (N : Int)) → l.length ≤ N
  | 0, [], _, _ => Nat.le_refl _
  | 0, x :: _, _, h => by have := h x (List.mem_cons_self ..); omega
  | N + 1, l, hn, h => by
    by_cases hm : (N : Int) ∈ l
    · have h1 := nodup_le N (l.erase N) (hn.erase _) (fun x hx => by
        obtain ⟨a, b⟩ := (hn.mem_erase_iff).1 hx
        have := h x b
        omega)
      rw [List.length_erase_of_mem hm] at h1
      omega
    · have h1 := nodup_le N l hn (fun x hx => by
        have := h x hx
        have : x ≠ (N : Int) := fun e => hm (e ▸ hx)
        omega)
      omega
/-- The builtin copy, to a part of a block that is known whole. -/
theorem run_copyN {w : World} {g off q dCap Bd n : Nat} {cur cs : List Value} {sv : Value} {ty : TypeId} (hW : Whole w g 5 cur) (hr : Rd w Bd 1 sv n cs) (hq : 0 < q) (hqn : q ≤ n) (hfit : off + q ≤ cur.length) (h1 : ∀ v ∈ cs, v.oneCell' = true) :
    ∃ w', (Builtin.copy_ #[33, 33] ty #[.slice (some ⟨g, off, none⟩) q dCap, sv]).run Try.prog w = .ok (.int .i64 q) w' ∧ Whole w' g 5 (cur.take off ++ (cs.take q ++ cur.drop (off + q))) ∧ Left [g] w w' := by
  obtain ⟨hl, ao, cap, rfl, h3, h4, h5, h6⟩ := hr
  obtain ⟨b, oo, rfl, _, hc⟩ := h6 (by omega)
  have hlq : (cs.take q).length = q := by rw [List.length_take]; omega
  refine ⟨_, run_copy_row (P := Try.prog) w 33 33 ty 5 g off q dCap ⟨b, oo, none⟩ n cap cur.toArray 5 (cs.take q) Try.underlying33 sz_u8 hW (by rw [hlq]; exact (Nat.min_eq_right hqn).symm) (fun j v hv => ?_) (by rw [hlq]; simpa using hfit) (fun v hv => h1 v (List.mem_of_mem_take hv)) |>.trans (by rw [hlq]; rfl), ?_, ?_⟩
  · rw [add_flat]
    refine hc j v ?_
    rw [List.getElem?_take] at hv
    split at hv
    · exact hv
    · cases hv
  · have := setRow_heap w g _ (cur.take off ++ (cs.take q ++ cur.drop (off + q))).toArray 5 _ hW
    rw [List.append_assoc]
    exact this
  · exact ⟨rfl, rfl, rfl, by simp [World.setRow], fun k hk hne => setRow_other w g k _ (by simpa using hne)⟩
section
variable {w w' : World} {base R M : Nat} {F S : List Nat} {kv wv : Value} {Wv : List (Int × Value × List UInt8)} {Qv : List RV} {s s' : DS}
theorem DkAt.keys_small (h : DkAt w base R M F kv wv Wv Qv s) : (∀ p ∈ s.W, 0 ≤ p.1 ∧ p.1 < (s.K.length / 64 : Nat)) ∧ (Wv.map fun p => (p.1, p.2.1)).length ≤ 4096 ∧ (∀ p ∈ (Wv.map fun p => (p.1, p.2.1)), IntKind.i64.wrap p.1 = p.1) ∧ (∀ p ∈ s.W, p.2.length = 64) ∧ ((Wv.map fun p => (p.1, p.2.1)).map (·.1)) = s.W.map (·.1) ∧ (s.W.map (·.1)).Nodup := by
  have hz := h.size
  have hk : ∀ p ∈ s.W, 0 ≤ p.1 ∧ p.1 < (s.K.length / 64 : Nat) := fun p hp => by
    rw [← h.wval] at hp
    obtain ⟨q, hq, rfl⟩ := List.mem_map.1 hp
    obtain ⟨_, _, ⟨a, b⟩, _⟩ := h.vals q hq
    (try dsimp only at b)
    (try dsimp only)
    omega
  have he : ((Wv.map fun p => (p.1, p.2.1)).map (·.1)) = s.W.map (·.1) := by rw [← h.wval, List.map_map, List.map_map]; rfl
  have hnd := h.map.nodup
  rw [he] at hnd
  have hll := nodup_le 4096 _ hnd (fun x hx => by
    obtain ⟨p, hp, rfl⟩ := List.mem_map.1 hx
    have := hk p hp
    omega)
  refine ⟨hk, ?_, fun p hp => ?_, fun p hp => ?_, he, hnd⟩
  · have := congrArg List.length he
    rw [List.length_map] at this
    rw [this]
    exact hll
  · have hm : p.1 ∈ s.W.map (·.1) := he ▸ List.mem_map_of_mem hp
    obtain ⟨q, hq, e⟩ := List.mem_map.1 hm
    have := hk q hq
    rw [IntKind.wrap_i64]
    omega
  · rw [← h.wval] at hp
    obtain ⟨q, hq, rfl⟩ := List.mem_map.1 hp
    exact (h.vals q hq).2.1
/-- A sector that was written, and where its bytes lie. -/
theorem DkAt.at_key (h : DkAt w base R M F kv wv Wv Qv s) {m : Nat} {b : List UInt8} (hl : lookW s.W (m : Nat) = some b) : ∃ v, look (Wv.map fun p => (p.1, p.2.1)) (m : Nat) = some v ∧ w.ownsRow base 5 1 v 64 (u8s b) ∧ b.length = 64 ∧ 64 * m + 64 ≤ s.K.length := by
  obtain ⟨lp1, lp2⟩ := look_pair (n := (m : Int)) Wv
  rw [h.wval, hl] at lp2
  obtain ⟨p, hp, e⟩ := Option.map_eq_some_iff.1 lp2.symm
  rw [hp] at lp1
  obtain ⟨v1, v2, v3, _⟩ := h.vals p (List.mem_of_find?_eq_some hp)
  have hpm := List.find?_some hp
  simp only [beq_iff_eq] at hpm
  subst e
  refine ⟨p.2.1, lp1, v1, v2, ?_⟩
  have := v3.2
  omega
def CrashP (w : World) (base R : Nat) (F : List Nat) (s : DS) (picks : List Int) (e : Ending) (w' : World) : Prop :=
  ∃ v, e = .returned v ∧ w'.ownsRow w.heap.size 5 1 v s.K.length (u8s (crashK s.W picks s.K)) ∧ DkG w' base R F { s with off := true } ∧ Left F w w'
theorem pickAt_some {picks : List Int} {k : Nat} {e : Int} (h : picks[k]? = some e) : ((pickAt picks k : Nat) : Int) = (e.tmod 66 + 64 + 2).tmod 66 ∧ -66 < e.tmod 66 ∧ e.tmod 66 < 66 := by
  have h1 := Int.tmod_lt_of_pos e (b := 66) (by omega)
  have h2 := Int.lt_tmod_of_pos e (b := 66) (by omega)
  have h3 := Int.tmod_nonneg (a := e.tmod 66 + 64 + 2) 66 (by omega)
  unfold pickAt
  rw [h]
  refine ⟨?_, h2, h1⟩
  dsimp only
  omega
theorem pickAt_none {picks : List Int} {k : Nat} (h : picks.length ≤ k) : pickAt picks k = 0 := by
  unfold pickAt
  rw [List.getElem?_eq_none h]
theorem crash_step {W : List (Int × List UInt8)} {picks : List Int} {kn : List Nat} {k m p : Nat} {b cur A : List UInt8} (hA : crashGo W picks (kn.drop k) k cur = A) (hm : kn[k]? = some m) (hl : lookW W (m : Nat) = some b) (hp : pickAt picks k = p) :
    crashGo W picks (kn.drop (k + 1)) (k + 1) (setSec cur m (tear p (secN cur m) b)) = A := by
  obtain ⟨hk, e⟩ := List.getElem?_eq_some_iff.1 hm
  rw [List.drop_eq_getElem_cons hk, e, crashGo_some hl, hp] at hA
  exact hA
theorem tear_q {cur b : List UInt8} {m q : Nat} (h : 64 * m + 64 ≤ cur.length) (hq : q ≤ 64) (hq0 : 0 < q) (hb : b.length = 64) (p : Nat) (hp : p = 1 ∧ q = 64 ∨ p = q + 1) : cur.take (64 * m) ++ (b.take q ++ cur.drop (64 * m + (b.take q).length)) = setSec cur m (tear p (secN cur m) b) := by
  have hl : (b.take q).length = q := by rw [List.length_take]; omega
  rw [hl, setSec_tear h hq hb]
  congr 1
  unfold tear
  rcases hp with ⟨rfl, rfl⟩ | rfl
  · rw [if_neg (by decide), if_pos rfl, List.take_of_length_le (by omega), List.drop_eq_nil_of_le (by rw [secN_length h]; exact Nat.le_refl _), List.append_nil]
  · rw [if_neg (by omega), if_neg (by omega), Nat.add_sub_cancel]
set_option maxRecDepth 20000 in
set_option maxHeartbeats 4000000 in
theorem Crash_g (h : DkG w base R F s) (hz : base ≤ w.heap.size) {pv : Value} {picks : List Int} {B0 : Nat} (hp : Rd w B0 1 pv picks.length (picks.map (Value.int .i64))) (hB0 : B0 ≤ w.heap.size) (hpl : picks.length ≤ 1000000) (hpr : ∀ p ∈ picks, -9223372036854775808 ≤ p ∧ p ≤ 9223372036854775807) :
    Calls Try.prog 33 #[.pointer (some ⟨R, 0, none⟩), pv] w (CrashP w base R F s picks) := by
  obtain ⟨M, kv, wv, Wv, Qv, h⟩ := h
  obtain ⟨ks1, ks2, ks3, ks4, ks5, ks6⟩ := h.keys_small
  obtain ⟨kg, kc, rfl, _, _, hkc, hkm⟩ := h.keptForm
  have hHS := h.size
  have c0 : w.cell? ⟨R, 0, none⟩ = some (.slice (some ⟨kg, 0, none⟩) s.K.length kc) := by rw [h.head.cell]; rfl
  have hC := Clone_any w _ _ _ (Rd.of_own h.kept) (u8s_one s.K) (by omega)
  have HC := Lib.hid hC
  have HD0 := Lib.hid h
  have HP0 := Lib.hid hp
  have HPR := Lib.hid hpr
  have hkc2 : kc ≤ 9223372036854775807 := by unfold maxLen at hkm; omega
  obtain ⟨po, pc, rfl, hpc, hpm⟩ := hp.form
  have hpc2 : pc ≤ 9223372036854775807 := by unfold maxLen at hpm; omega
  have HKS := Lib.hid (And.intro ks1 (And.intro ks4 ks6))
  have HKW := Lib.hid ks3
  have HKL := Lib.hid ks2
  have HKE := Lib.hid ks5
  have HSZ := Lib.hid hHS
  obtain ⟨n, hn⟩ : ∃ n, s.K.length = n := ⟨_, rfl⟩
  have HN := Lib.hid hn
  have hnm : n ≤ 262144 := by omega
  rw [hn] at HC c0 hkc
  clear h hC hp hpr hkm hpm ks1 ks2 ks3 ks4 ks5 ks6 hHS hn
  go_enter Try.func33, Try.ntmps33
  go_wp2_with fail
  refine HC.out.mono ?_
  rintro e w1 ⟨v5, rfl, hown, hb1⟩
  obtain ⟨g, gc, rfl, hBg, hgl, hgc, hgm⟩ := own_form hown (by have := HSZ.out.1; have := HN.out; omega)
  have hD1 := HD0.out.left (Left.of_below hb1 []) (by simp)
  have m1 : w1.cell? ⟨R, 1, none⟩ = some (.map (some M)) := by rw [hD1.head.cell]; rfl
  have HD1 := Lib.hid hD1
  have HO1 := Lib.hid hown
  have HB1 := Lib.hid hb1
  have hz1 := hb1.size
  have hgc2 : gc ≤ 9223372036854775807 := by unfold maxLen at hgm; omega
  clear hD1 hown hb1 hgm
  go_wp2_with fail
  refine (keys_any M w1).mono ?_
  rintro e w2 ⟨rfl, rfl⟩
  have hlk2 := (Left.refl [] w1).alloc (.cells #[.map (some M)] 65)
  have hcl2 : (w1.alloc (.cells #[.map (some M)] 65)).cell? ⟨w1.heap.size, 0, none⟩ = some (.map (some M)) := (Whole.new w1 65 [.map (some M)]).cell 0
  have HS := Lib.hid (sorted_any (Bm := w1.heap.size) (by simp) hcl2 (HD1.out.map.left hlk2 (by simp)) HKW.out (by have := HKL.out; omega))
  have HL2 := Lib.hid hlk2
  clear hlk2 hcl2
  generalize w1.alloc (.cells #[.map (some M)] 65) = w2 at HS HL2 ⊢
  go_wp2_with fail
  refine HS.out.mono ?_
  rintro e w3 ⟨v20, ss, rfl, hpm, hss, hrow, hb3⟩
  have hL13 : Left [] w1 w3 := HL2.out.trans (Left.of_below hb3 []) (by simp)
  have hlen3 := hL13.size
  rw [HKE.out] at hpm
  have hlt : ss.Pairwise (· < ·) := by
    have hnd : ss.Nodup := hpm.symm.nodup HKS.out.2.2
    exact (List.Pairwise.and hss hnd).imp (fun h => by omega)
  have hkn := keys_are (N := s.K.length / 64) hpm hlt HKS.out.1
  obtain ⟨kn, hkn2⟩ : ∃ kn, kn = (List.range (s.K.length / 64)).filter fun n => (lookW s.W (n : Nat)).isSome := ⟨_, rfl⟩
  rw [← hkn2] at hkn
  have HKN := Lib.hid hkn2
  subst hkn
  rw [List.length_map] at hrow
  obtain ⟨vo, vc, rfl, hvc, hvm⟩ := (Rd.of_own hrow).form
  have hvc2 : vc ≤ 9223372036854775807 := by unfold maxLen at hvm; omega
  have hknl : kn.length ≤ 4096 := by
    rw [hkn2]
    refine Nat.le_trans (List.length_filter_le _ _) ?_
    rw [List.length_range]
    have := HN.out
    omega
  have hkat : ∀ (i m : Nat), kn[i]? = some m → ∃ b, lookW s.W (m : Nat) = some b := fun i m hm => by
    have := List.mem_of_getElem? hm
    rw [hkn2] at this
    exact Option.isSome_iff_exists.1 (List.mem_filter.1 this).2
  have HKA := Lib.hid hkat
  have hgF : g ∉ F := fun hm => by have := (HD0.out.lt g hm).2; omega
  have HL := Lib.hid ((Left.of_below HB1.out []).trans hL13 (T := []) (by simp))
  have HD := Lib.hid (HD1.out.left hL13 (by simp))
  have HROW : Hid (Rd w3 w3.heap.size 1 (.slice vo kn.length vc) kn.length ((kn.map (fun n : Nat => (n : Int))).map (Value.int .i64))) := Lib.hid (Rd.of_own hrow)
  have HRB : Hid (∀ k, (Value.slice vo kn.length vc).ownBlock = some k → w1.heap.size ≤ k) := Lib.hid (fun k hk => by have := (hrow.lt k hk).1; have := HL2.out.size; omega)
  have HO3 := Lib.hid (own_leftB HO1.out hL13 (by simp))
  have HA : Hid (crashGo s.W picks (kn.drop 0) 0 s.K = crashK s.W picks s.K) := Lib.hid (by rw [List.drop_zero, hkn2, crashGo_filter]; rfl)
  have HP := Lib.hid (HP0.out.belowH (Left.below HL.out) hB0)
  obtain ⟨A, hA⟩ : ∃ A, crashK s.W picks s.K = A := ⟨_, rfl⟩
  rw [hA] at HA
  have HAA := Lib.hid hA
  clear hpm hss hrow hb3 hlt hvm hkat hkn2 hL13 hA m1
  go_wp2
  go_loopw [22] (fun i wr => ∃ (k : Nat) (cur : List UInt8), i = .int .i64 k ∧ k ≤ kn.length ∧ cur.length = n ∧ Hid (wr.ownsRow w.heap.size 5 1 (.slice (some ⟨g, 0, none⟩) n gc) n (u8s cur)) ∧ Hid (crashGo s.W picks (kn.drop k) k cur = A) ∧ Hid (Left [g] w3 wr)) (fun i _ => kn.length - (intOf i).toNat)
  case atStart => exact ⟨0, s.K, rfl, Nat.zero_le _, HN.out, HO3, HA, Lib.hid (Left.refl _ _)⟩
  case round =>
    obtain ⟨k, cur, rfl, hk, hcur, HO, HAr, HLr⟩ := hrel
    have HCUR := Lib.hid hcur
    have hzr := HLr.out.size
    have hDr := HD.out.left HLr.out (by simpa using hgF)
    clear hcur
    by_cases hlt : k < kn.length
    · obtain ⟨m, hm⟩ : ∃ m, kn[k]? = some m := ⟨_, List.getElem?_eq_getElem hlt⟩
      obtain ⟨b, hlm⟩ := HKA.out k m hm
      obtain ⟨bv, hlk, hbo, hb64, hm64⟩ := hDr.at_key hlm
      rw [HN.out] at hm64
      have hrunL := fun wx (e : wx = wr ∨ wx = wr.drew) => run_look (P := Try.prog) (t := 65) (w := wx) (b := M) (L := Wv.map fun p => (p.1, p.2.1)) (by rcases e with rfl | rfl; exact hDr.map; exact hDr.map) Try.underlying65 Try.underlying3 (zero_bs wx) (m : Int)
      rw [hlk] at hrunL
      simp only [Option.getD_some] at hrunL
      have hrun1 := hrunL wr (.inl rfl)
      have hrun2 := hrunL wr.drew (.inr rfl)
      obtain ⟨bo, bc, rfl, hbc, hbm⟩ := (Rd.of_own hbo).form
      have hcl : 64 * m + 64 ≤ cur.length := by rw [HCUR.out]; exact hm64
      have HCL := Lib.hid hcl
      obtain ⟨cw, hWh, hcn, hmk⟩ := own_whole HO.out
      have HWH := Lib.hid hWh
      have HMK := Lib.hid hmk
      have HCN := Lib.hid hcn
      have HBO := Lib.hid hbo
      have HB64 := Lib.hid hb64
      have HSTEP := Lib.hid (fun p hp => crash_step (p := p) HAr.out hm hlm hp)
      obtain ⟨sb, so, su, rfl, hsb, hsu, hsc⟩ := HROW.out.at_ (k := k) (by omega)
      have hsm : su = .int .i64 (m : Int) := by
        rw [List.getElem?_map, List.getElem?_map, hm] at hsu
        simpa using hsu.symm
      subst hsm
      have s0 := cell_left' hsc HLr.out (by
        simp only [List.mem_singleton]
        have := HRB.out sb rfl
        omega)
      have mr : wr.cell? ⟨R, 1, none⟩ = some (.map (some M)) := by rw [hDr.head.cell]; rfl
      have q1 : IntKind.i64.wrap ((m : Int) * 64) = ((64 * m : Nat) : Int) := by rw [IntWalk.i64_in _ ⟨by omega, by omega⟩]; omega
      have q2 : IntKind.i64.wrap ((m : Int) + 1) = (m : Int) + 1 := IntWalk.i64_in _ ⟨by omega, by omega⟩
      have q3 : IntKind.i64.wrap (((m : Int) + 1) * 64) = ((64 * m + 64 : Nat) : Int) := by rw [IntWalk.i64_in _ ⟨by omega, by omega⟩]; omega
      have HM := Lib.hid hm
      have HCP := Lib.hid (fun (wx : World) (q dc : Nat) (e : wx = wr ∨ wx = wr.drew) (h0 : 0 < q) (h1 : q ≤ 64) => run_copyN (w := wx) (g := g) (off := 64 * m) (q := q) (dCap := dc) (ty := 3) (cur := cw) (by rcases e with rfl | rfl; exact hWh; exact hWh) (show Rd wx wr.heap.size 1 _ 64 _ by rcases e with rfl | rfl; exact Rd.of_own hbo; exact Rd.of_own hbo) h0 h1 (by omega) (u8s_one b))
      have HFIN := Lib.hid (fun (w5 : World) (q : Nat) (hq : q ≤ 64) (h5 : Whole w5 g 5 (cw.take (64 * m) ++ ((u8s b).take q ++ cw.drop (64 * m + q)))) => hmk w5 (64 * m) (b.take q) (by rw [List.length_take]; omega) (by
        have e1 : (b.take q).length = q := by rw [List.length_take]; omega
        have e2 : u8s (b.take q) = (u8s b).take q := by unfold u8s; rw [List.map_take]
        rw [e1, e2]
        exact h5))
      obtain ⟨a, ha⟩ : ∃ a, 64 * m = a := ⟨_, rfl⟩
      rw [ha] at q1 q3 HCP
      have hac : a + 64 ≤ gc := by omega
      have hne : ¬ gc = a := by omega
      have HEA := Lib.hid ha
      clear hrunL hlk hbo hb64 hcl hWh hcn hmk hsu hsc hm hlm hDr ha hbm
      obtain ⟨p, hpk⟩ : ∃ p, pickAt picks k = p := ⟨_, rfl⟩
      have hp66 : p < 66 := hpk ▸ pickAt_lt picks k
      have HST := Lib.hid (HSTEP.out p hpk)
      by_cases hkp : k < picks.length
      · obtain ⟨pb, pi, pu, rfl, hpb, hpu, hpc0⟩ := HP.out.at_ (k := k) (by omega)
        obtain ⟨e, he⟩ : ∃ e, picks[k]? = some e := ⟨_, List.getElem?_eq_getElem hkp⟩
        have hpe : pu = .int .i64 e := by
          rw [List.getElem?_map, he] at hpu
          simpa using hpu.symm
        subst hpe
        have p0 := cell_left' hpc0 HLr.out (by
          simp only [List.mem_singleton]
          omega)
        obtain ⟨hpk1, hpk2, hpk3⟩ := pickAt_some he
        rw [hpk] at hpk1
        obtain ⟨he1, he2⟩ := HPR.out e (List.mem_of_getElem? he)
        obtain ⟨t, ht⟩ : ∃ t, e.tmod 66 = t := ⟨_, rfl⟩
        rw [ht] at hpk1 hpk2 hpk3
        have HPK := Lib.hid hpk1
        clear hpu hpc0 he hpk hpk1
        rcases (show p = 0 ∨ p = 1 ∨ ∃ q, p = q + 1 ∧ 1 ≤ q by rcases p with _ | _ | q; exact .inl rfl; exact .inr (.inl rfl); exact .inr (.inr ⟨q + 1, rfl, by omega⟩)) with rfl | rfl | ⟨q, rfl, hq1⟩
        · have HSAME : Hid (crashGo s.W picks (kn.drop (k + 1)) (k + 1) cur = A) := Lib.hid (by
            have := HST.out
            rw [show tear 0 (secN cur m) b = secN cur m from if_pos rfl, setSec_same HCL.out] at this
            exact this)
          have hP : (t + 64 + 2).tmod 66 = 0 := by have := HPK.out; omega
          go_wp2
          go_roundw
          case rel => exact ⟨k + 1, cur, by go_num, by omega, by have := HCUR.out; first | exact this | (rw [setSec_length HCL.out (by first | exact HB64.out | exact HTL.out)]; exact this), HO, HSAME, HLr⟩
          case measure => simp [intOf]; omega
        · have hP : (t + 64 + 2).tmod 66 = 1 := by have := HPK.out; omega
          obtain ⟨w5, hcp, hW5, hl5⟩ := HCP.out wr 64 (gc - a) (.inl rfl) (by omega) (by omega)
          have HW5 := Lib.hid hW5
          have HL5 := Lib.hid hl5
          clear hW5 hl5
          have hTQ := tear_q (cur := cur) (b := b) (m := m) (q := 64) HCL.out (by omega) (by omega) HB64.out 1 (.inl ⟨rfl, rfl⟩)
          have HN5 := Lib.hid (HFIN.out w5 64 (by omega) (by rw [HEA.out]; exact HW5.out))
          rw [hTQ] at HN5
          have HTL := Lib.hid (tear_length (p := 1) (old := secN cur m) (by omega) (secN_length HCL.out) HB64.out)
          have HL6 := Lib.hid (HLr.out.trans HL5.out (fun x hx => .inl hx))
          clear hTQ
          go_wp2
          go_roundw
          case rel => exact ⟨k + 1, setSec cur m (tear 1 (secN cur m) b), by go_num, by omega, by have := HCUR.out; first | exact this | (rw [setSec_length HCL.out (by first | exact HB64.out | exact HTL.out)]; exact this), HN5, HST, HL6⟩
          case measure => simp [intOf]; omega
        · have hP : (t + 64 + 2).tmod 66 = (q : Int) + 1 := by have := HPK.out; omega
          obtain ⟨w5, hcp, hW5, hl5⟩ := HCP.out wr.drew q (gc - a) (.inr rfl) (by omega) (by omega)
          have HW5 := Lib.hid hW5
          have HL5 := Lib.hid hl5
          clear hW5 hl5
          have q4 : IntKind.i64.wrap (q : Int) = (q : Int) := IntWalk.i64_in _ ⟨by omega, by omega⟩
          have q6 : (q : Int) ≤ ((gc - a : Nat) : Int) := by omega
          have hq5 : q ≤ gc - a := by omega
          have hTQ := tear_q (cur := cur) (b := b) (m := m) (q := q) HCL.out (by omega) (by omega) HB64.out (q + 1) (.inr rfl)
          have HN5 := Lib.hid (HFIN.out w5 q (by omega) (by rw [HEA.out]; exact HW5.out))
          rw [hTQ] at HN5
          have HTL := Lib.hid (tear_length (p := q + 1) (old := secN cur m) (by omega) (secN_length HCL.out) HB64.out)
          have HL6 := Lib.hid (HLr.out.trans (Left.of_drew HL5.out) (fun x hx => .inl hx))
          have hRg : R ∉ [g] := by simp only [List.mem_singleton]; exact fun e => hgF (e ▸ HD.out.blk.1)
          have m5 := cell_left' mr (Left.of_drew HL5.out) hRg
          clear hTQ
          go_upto_region 10 with fail
          refine wp_region_held_drew (S := fun wx => wx.cell? ⟨R, 1, none⟩ = some (.map (some M))) (by kernel_rfl) mr (fun hHeld => ?_)
          refine take_h 0 ⟨?_, ?_, ?_, by kernel_rfl, by kernel_rfl, by kernel_rfl, ?_, ?_, by assumption, ?_⟩
          rotate_left 2
          · (simp only [List.getElem?_toArray, List.getElem?_cons_zero]; exact rfl)
          · exact fun _ _ _ h => h
          · first
              | (refine Or.inr ⟨by rfl, ?_⟩; exact rfl)
              | (refine Or.inl ⟨by rfl, ?_⟩
                 intro w hSw
                 (try dsimp only at hSw)
                 (try go_split_ands)
                 go_simp
                 (first | done | with_reducible rfl))
          try simp only [Act.put, List.setIfInBounds_toArray, List.set_cons_zero, List.set_cons_succ]
          refine take_h 1 ⟨?_, ?_, ?_, by kernel_rfl, by kernel_rfl, by kernel_rfl, ?_, ?_, by assumption, ?_⟩
          rotate_left 2
          · (simp only [List.getElem?_toArray, List.getElem?_cons_succ, List.getElem?_cons_zero]; exact rfl)
          · exact fun _ _ _ h => h
          · first
              | (refine Or.inr ⟨by rfl, ?_⟩; exact rfl)
              | (refine Or.inl ⟨by rfl, ?_⟩
                 intro w hSw
                 (try dsimp only at hSw)
                 (try go_split_ands)
                 go_simp
                 (first | done | with_reducible rfl))
          try simp only [Act.put, List.setIfInBounds_toArray, List.set_cons_zero, List.set_cons_succ]
          refine take_h 2 ⟨?_, ?_, ?_, by kernel_rfl, by kernel_rfl, by kernel_rfl, ?_, ?_, by assumption, ?_⟩
          rotate_left 2
          · (simp only [List.getElem?_toArray, List.getElem?_cons_succ, List.getElem?_cons_zero]; exact rfl)
          · exact fun _ _ _ h => h
          · first
              | (refine Or.inr ⟨by rfl, ?_⟩; exact rfl)
              | (refine Or.inl ⟨by rfl, ?_⟩
                 intro w hSw
                 (try dsimp only at hSw)
                 (try go_split_ands)
                 go_simp
                 (first | done | with_reducible rfl))
          try simp only [Act.put, List.setIfInBounds_toArray, List.set_cons_zero, List.set_cons_succ]
          refine take_h 3 ⟨?_, ?_, ?_, by kernel_rfl, by kernel_rfl, by kernel_rfl, ?_, ?_, by assumption, ?_⟩
          rotate_left 2
          · (simp only [List.getElem?_toArray, List.getElem?_cons_succ, List.getElem?_cons_zero]; exact rfl)
          · exact fun _ _ _ h => h
          · first
              | (refine Or.inr ⟨by rfl, ?_⟩; exact rfl)
              | (refine Or.inl ⟨by rfl, ?_⟩
                 intro w hSw
                 (try dsimp only at hSw)
                 (try go_split_ands)
                 go_simp
                 (first | done | with_reducible rfl))
          try simp only [Act.put, List.setIfInBounds_toArray, List.set_cons_zero, List.set_cons_succ]
          refine take_h 4 ⟨?_, ?_, ?_, by kernel_rfl, by kernel_rfl, by kernel_rfl, ?_, ?_, by assumption, ?_⟩
          rotate_left 2
          · (simp only [List.getElem?_toArray, List.getElem?_cons_succ, List.getElem?_cons_zero]; exact rfl)
          · exact fun _ _ _ h => h
          · first
              | (refine Or.inr ⟨by rfl, ?_⟩; exact rfl)
              | (refine Or.inl ⟨by rfl, ?_⟩
                 intro w hSw
                 (try dsimp only at hSw)
                 (try go_split_ands)
                 go_simp
                 (first | done | with_reducible rfl))
          try simp only [Act.put, List.setIfInBounds_toArray, List.set_cons_zero, List.set_cons_succ]
          refine take_h 5 ⟨?_, ?_, ?_, by kernel_rfl, by kernel_rfl, by kernel_rfl, ?_, ?_, by assumption, ?_⟩
          rotate_left 2
          · (simp only [List.getElem?_toArray, List.getElem?_cons_succ, List.getElem?_cons_zero]; exact rfl)
          · exact fun _ _ _ h => h
          · first
              | (refine Or.inr ⟨by rfl, ?_⟩; exact rfl)
              | (refine Or.inl ⟨by rfl, ?_⟩
                 intro w hSw
                 (try dsimp only at hSw)
                 (try go_split_ands)
                 go_simp
                 (first | done | with_reducible rfl))
          try simp only [Act.put, List.setIfInBounds_toArray, List.set_cons_zero, List.set_cons_succ]
          refine take_h 6 ⟨?_, ?_, ?_, by kernel_rfl, by kernel_rfl, by kernel_rfl, ?_, ?_, by assumption, ?_⟩
          rotate_left 2
          · (simp only [List.getElem?_toArray, List.getElem?_cons_succ, List.getElem?_cons_zero]; exact rfl)
          · exact fun _ _ _ h => h
          · first
              | (refine Or.inr ⟨by rfl, ?_⟩; exact rfl)
              | (refine Or.inl ⟨by rfl, ?_⟩
                 intro w hSw
                 (try dsimp only at hSw)
                 (try go_split_ands)
                 go_simp
                 (first | done | with_reducible rfl))
          try simp only [Act.put, List.setIfInBounds_toArray, List.set_cons_zero, List.set_cons_succ]
          refine take_h 7 ⟨?_, ?_, ?_, by kernel_rfl, by kernel_rfl, by kernel_rfl, ?_, ?_, by assumption, ?_⟩
          rotate_left 2
          · (simp only [List.getElem?_toArray, List.getElem?_cons_succ, List.getElem?_cons_zero]; exact rfl)
          · exact fun _ _ _ h => h
          · first
              | (refine Or.inr ⟨by rfl, ?_⟩; exact rfl)
              | (refine Or.inl ⟨by rfl, ?_⟩
                 intro w hSw
                 (try dsimp only at hSw)
                 (try go_split_ands)
                 go_simp
                 (first | done | with_reducible rfl))
          try simp only [Act.put, List.setIfInBounds_toArray, List.set_cons_zero, List.set_cons_succ]
          refine take_h 8 ⟨?_, ?_, ?_, by kernel_rfl, by kernel_rfl, by kernel_rfl, ?_, ?_, by assumption, ?_⟩
          rotate_left 2
          · (simp only [List.getElem?_toArray, List.getElem?_cons_succ, List.getElem?_cons_zero]; exact rfl)
          · exact fun _ _ _ h => h
          · first
              | (refine Or.inr ⟨by rfl, ?_⟩; exact rfl)
              | (refine Or.inl ⟨by rfl, ?_⟩
                 intro w hSw
                 (try dsimp only at hSw)
                 (try go_split_ands)
                 go_simp
                 (first | done | with_reducible rfl))
          try simp only [Act.put, List.setIfInBounds_toArray, List.set_cons_zero, List.set_cons_succ]
          refine wpAnyH_ready (rs := [9]) (by kernel_rfl) (by simp) ?_
          refine call_h 9 ⟨?_, ?_, fun K hK => ?_⟩
          rotate_left 1
          · (simp only [List.getElem?_toArray, List.getElem?_cons_succ, List.getElem?_cons_zero]; exact rfl)
          go_simp
          skip
          go_wp2_with fail
          refine hK.out _ _ mr (fun hHeld => ?_)
          clear hK K
          (try simp only [Act.put, List.setIfInBounds_toArray, List.set_cons_zero, List.set_cons_succ])
          refine wpAnyH_ready (rs := [10]) (by kernel_rfl) (by simp) ?_
          refine call_h 10 ⟨?_, ?_, fun K hK => ?_⟩
          rotate_left 1
          · (simp only [List.getElem?_toArray, List.getElem?_cons_succ, List.getElem?_cons_zero]; exact rfl)
          go_simp
          skip
          go_wp2_with fail
          refine hK.out _ _ m5 (fun hHeld => ?_)
          clear hK K
          (try simp only [Act.put, List.setIfInBounds_toArray, List.set_cons_zero, List.set_cons_succ])
          refine wpAnyH_done (by kernel_rfl) ?_ _
          clear hHeld
          go_wp2
          go_roundw
          case rel => exact ⟨k + 1, setSec cur m (tear (q + 1) (secN cur m) b), by go_num, by omega, by have := HCUR.out; first | exact this | (rw [setSec_length HCL.out (by first | exact HB64.out | exact HTL.out)]; exact this), HN5, HST, HL6⟩
          case measure => simp [intOf]; omega
      · have hp0 : p = 0 := by rw [← hpk, pickAt_none (by omega)]
        subst hp0
        have HSAME : Hid (crashGo s.W picks (kn.drop (k + 1)) (k + 1) cur = A) := Lib.hid (by
          have := HST.out
          rw [show tear 0 (secN cur m) b = secN cur m from if_pos rfl, setSec_same HCL.out] at this
          exact this)
        clear hpk
        go_wp2
        go_roundw
        case rel => exact ⟨k + 1, cur, by go_num, by omega, by have := HCUR.out; first | exact this | (rw [setSec_length HCL.out (by first | exact HB64.out | exact HTL.out)]; exact this), HO, HSAME, HLr⟩
        case measure => simp [intOf]; omega
    · have hke : k = kn.length := by omega
      subst hke
      have hcA : cur = A := by
        have := HAr.out
        rw [List.drop_length] at this
        exact this
      subst hcA
      have c4 : wr.cell? ⟨R, 4, none⟩ = some (.bool s.off) := by rw [hDr.head.cell]; rfl
      have f4 := hDr.head.free 4
      have hl4 : Left [R] wr (wr.setCell ⟨R, 4, none⟩ (.bool true)) := (Left.refl _ _).setCell (Or.inl (by simp)) _
      have hRg : g ∉ [R] := by simp only [List.mem_singleton]; exact fun e => hgF (e ▸ HD.out.blk.1)
      have hE : ∃ v, (Value.slice (some ⟨g, 0, none⟩) n gc) = v ∧ (wr.setCell ⟨R, 4, none⟩ (.bool true)).ownsRow w.heap.size 5 1 v s.K.length (u8s (crashK s.W picks s.K)) ∧ DkG (wr.setCell ⟨R, 4, none⟩ (.bool true)) base R F { s with off := true } ∧ Left F w (wr.setCell ⟨R, 4, none⟩ (.bool true)) := by
        refine ⟨_, rfl, ?_, ⟨M, _, _, _, _, hDr.head_ hl4 ⟨rfl, rfl, rfl⟩ (by simpa using hDr.head.put 4 (.bool true)) (fun _ h0 => by cases h0)⟩, ?_⟩
        · rw [HN.out, HAA.out]
          exact own_leftB HO.out hl4 (fun k hk e => by
            simp only [List.mem_singleton] at hk
            subst hk
            exact hRg (by simp only [List.mem_singleton]; exact Option.some.inj e))
        · refine ((HL.out.mono (T := F) (by simp)).trans HLr.out (fun x hx => .inr ?_)).trans (hl4.mono (T := F) (by simpa using HD.out.blk.1)) (fun x hx => .inl hx)
          simp only [List.mem_singleton] at hx
          omega
      have HE := Lib.hid hE
      clear hE hl4 hDr HAr
      go_wp2
      go_ret
      obtain ⟨v, e1, e2, e3, e4⟩ := HE.out
      subst e1
      exact ⟨_, rfl, e2, e3, e4⟩
end
end Go.Proofs.Ytcgdlmlolmfinaa
