/- Parts of my evaluator, one behind the other: KxMore KxWrite KxApp KxApp2 KxMap KxRest KxIter KxOp. -/
import Derived.Test.YtknnaeejkmlnbaaGreatDoorKxNew
import Derived.Laws.Append
/- The evaluator's operations: pieces of slices, conversions, lengths, lookups. -/
namespace Go.Proofs.YtknnaeejkmlnbaaGreatDoor.Kx
section
variable {P : Program} {B0 : Nat} {g : G} {h : H} {w : World}

theorem sliceBound_ok (w : World) (k : IntKind) (i y : Nat) (code : BoundsCode) (hi : i ≤ y) : (Instr.sliceBound (.int k i) y code).run P w = .ok i w := by
  have h1 : (0 : Int) ≤ (i : Int) ∧ (i : Int) ≤ (y : Int) := by omega
  simp [Instr.sliceBound, Go.asIntOf, h1]
theorem optNat_some {d n : Nat} {o : Option AV} (e : optNat d o = some n) : (o = none ∧ n = d) ∨ ∃ k, o = some (.int k n) := by
  cases o with
  | none => injection e with e; exact .inl ⟨rfl, e.symm⟩
  | some v => obtain ⟨k, rfl⟩ := intNat_some e; exact .inr ⟨k, rfl⟩
inductive OR (g : G) : Option AV → Option Value → Prop where
  | none : OR g none none
  | some (v : AV) (v' : Value) (h : VR g v v') : OR g (some v) (some v')
theorem boundsX (len cap l u : Nat) (hlu : l ≤ u) (huc : u ≤ cap) (w : World) : (Instr.sliceBounds true len cap (some (.int .i64 l)) (some (.int .i64 u)) none).run P w = .ok (l, u, cap) w := by
  simp [Instr.sliceBounds, sliceBound_ok w .i64 u cap _ huc, sliceBound_ok w .i64 l u _ hlu, Result.andThen]
theorem xzPair_some {lo hi mx : Option AV} {p : Xi × Xi} (e : xzPair lo hi mx = some p) : lo = some (.xi p.1) ∧ hi = some (.xi p.2) ∧ mx = none := by
  unfold xzPair at e
  cases mx with
  | some _ => cases e
  | none =>
    rw [oc_none] at e
    cases lo with
    | none => cases e
    | some x =>
      rw [oc_some] at e
      cases hi with
      | none => cases e
      | some y =>
        rw [oc_some] at e
        cases h1 : asXi x with
        | none => rw [h1] at e; cases e
        | some z =>
          rw [h1, oc_some] at e
          cases h2 : asXi y with
          | none => rw [h2] at e; cases e
          | some z' =>
            rw [h2, oc_some] at e
            injection e with e
            subst e
            exact ⟨by rw [asXi_some h1], by rw [asXi_some h2], rfl⟩
/-- The bounds of a slice expression without a third. -/
theorem bounds2 (isS : Bool) (len cap l u : Nat) {lo hi : Option AV} {lov hiv : Option Value} (h1 : OR g lo lov) (h2 : OR g hi hiv) (e1 : optNat 0 lo = some l) (e2 : optNat len hi = some u) (hlu : l ≤ u) (huc : u ≤ cap) (w : World) :
    (Instr.sliceBounds isS len cap lov hiv none).run P w = .ok (l, u, cap) w := by
  rcases optNat_some e2 with ⟨rfl, rfl⟩ | ⟨k2, rfl⟩
  · cases h2
    rcases optNat_some e1 with ⟨rfl, rfl⟩ | ⟨k1, rfl⟩
    · cases h1
      simp [Instr.sliceBounds]
    · cases h1 with | some _ _ h1 =>
      cases h1
      simp [Instr.sliceBounds, sliceBound_ok w k1 l u _ hlu, Result.andThen]
  · cases h2 with | some _ _ h2 =>
    cases h2
    rcases optNat_some e1 with ⟨rfl, rfl⟩ | ⟨k1, rfl⟩
    · cases h1
      cases isS <;> simp [Instr.sliceBounds, sliceBound_ok w k2 u cap _ huc, Result.andThen]
    · cases h1 with | some _ _ h1 =>
      cases h1
      cases isS <;> simp [Instr.sliceBounds, Sem.run_bind, sliceBound_ok w k2 u cap _ huc, sliceBound_ok w k1 l u _ hlu, Result.andThen]
theorem bounds3 (len cap l u m : Nat) {lo hi : Option AV} {lov hiv : Option Value} (h1 : OR g lo lov) (k3 : IntKind) (h2 : OR g hi hiv) (hh : hi ≠ none) (e1 : optNat 0 lo = some l) (e2 : optNat len hi = some u) (hlu : l ≤ u) (hum : u ≤ m) (hmc : m ≤ cap) (w : World) :
    (Instr.sliceBounds true len cap lov hiv (some (.int k3 m))).run P w = .ok (l, u, m) w := by
  rcases optNat_some e2 with ⟨rfl, rfl⟩ | ⟨k2, rfl⟩
  · exact absurd rfl hh
  · cases h2 with | some _ _ h2 =>
    cases h2
    rcases optNat_some e1 with ⟨rfl, rfl⟩ | ⟨k1, rfl⟩
    · cases h1
      simp [Instr.sliceBounds, Sem.run_bind, sliceBound_ok w k3 m cap _ hmc, sliceBound_ok w k2 u m _ hum, Result.andThen]
    · cases h1 with | some _ _ h1 =>
      cases h1
      simp [Instr.sliceBounds, Sem.run_bind, sliceBound_ok w k3 m cap _ hmc, sliceBound_ok w k2 u m _ hum, sliceBound_ok w k1 l u _ hlu, Result.andThen]
theorem isZ_true {o : Option Nat} (e : isZ o = true) : o = some 0 := by
  cases o with
  | none => cases e
  | some n => have := Nat.eq_of_beq_eq_true (show Nat.beq n 0 = true from e); subst this; rfl
theorem byteL_take (l : List UInt8) (n : Nat) : byteL (l.take n) = (byteL l).take n := by rw [byteL_eq, byteL_eq, List.map_take]
theorem byteL_drop (l : List UInt8) (n : Nat) : byteL (l.drop n) = (byteL l).drop n := by rw [byteL_eq, byteL_eq, List.map_drop]
theorem slice_good (hr : HR B0 g h w) (t : TypeId) (x : AV) (xv : Value) (hx : VR g x xv) (lo hi mx : Option AV) (lov hiv mxv : Option Value) (h1 : OR g lo lov) (h2 : OR g hi hiv) (h3 : OR g mx mxv) :
    VG P B0 g h w (Instr.sliceAt t xv lov hiv mxv) (xSlice (mkTI P) h x lo hi mx (mkTI P t)) := by
  unfold xSlice
  cases ht : mkTI P t with
  | none => trivial
  | some ti =>
    have hT := mkTI_some ht
    simp only [oc_some]
    cases hk : ti.kind
    case str =>
      show VG P B0 g h w _ (bi (isNone mx) (oc .no (fun l => sliceStr h l (optNat 0 lo) (optNat (len l) hi)) (asStr x)) .no)
      cases hm : isNone mx
      · trivial
      · have : mx = none := by cases mx <;> first | rfl | cases hm
        subst this
        cases h3
        rw [bi_true]
        cases hs : asStr x with
        | none => trivial
        | some l =>
          have := asStr_some hs; subst this
          obtain ⟨s, rfl, rfl⟩ := hx.str_inv
          simp only [oc_some]
          unfold sliceStr
          cases e1 : optNat 0 lo with
          | none => trivial
          | some a =>
            cases e2 : optNat (len (byteL s.data.toList)) hi with
            | none => trivial
            | some b =>
              simp only [oc_some]
              cases hab : Nat.ble a b
              · trivial
              · cases hbl : Nat.ble b (len (byteL s.data.toList))
                · trivial
                · simp only [bi_true]
                  have hab : a ≤ b := Nat.le_of_ble_eq_true hab
                  have hlen : len (byteL s.data.toList) = s.size := by rw [len_eq, byteL_length]; simp
                  rw [hlen] at hbl e2
                  have hbl : b ≤ s.size := Nat.le_of_ble_eq_true hbl
                  have hb := bounds2 (P := P) false s.size s.size a b h1 h2 e1 e2 hab hbl w
                  have hv : VR g (.str (tak (Nat.sub b a) (drp a (byteL s.data.toList)))) (.string (s.extract a b)) := by
                    have := VR.str (g := g) (s.extract a b)
                    rw [tak_eq, drp_eq]
                    show VR g (.str (List.take (b - a) _)) _
                    have e : byteL (s.extract a b).data.toList = ((byteL s.data.toList).drop a).take (b - a) := by
                      rw [← byteL_drop, ← byteL_take]
                      congr 1
                      simp [ByteArray.data_extract]
                    rw [← e]
                    exact this
                  refine VG.same hr ?_ hv
                  simp [Instr.sliceAt, Instr.slice, Sem.run_bind, run_underlying (hT.str hk), hb, Result.andThen]
    case slice e =>
      show VG P B0 g h w _ (oc .no (fun size => oc (bi (isNils x) (sliceNil h (optNat 0 lo) (optNat 0 hi) (isNone mx)) .no) (fun s => oc (sliceS h size s mx hi (optNat 0 lo) (optNat s.len hi)) (fun p => sliceX h size s p) (xzPair lo hi mx)) (asSlc x)) (szOf (mkTI P) e))
      have hu := hT.slice hk
      cases hz : szOf (mkTI P) e with
      | none => trivial
      | some sz =>
        simp only [oc_some]
        have hsz := fun w => szOf_run (P := P) hz w
        cases hs : asSlc x with
        | none =>
          simp only [oc_none]
          cases hn : isNils x
          · trivial
          · have := isNils_true hn; subst this
            cases hx
            rw [bi_true]
            unfold sliceNil
            cases z1 : isZ (optNat 0 lo)
            · trivial
            · cases z2 : isZ (optNat 0 hi)
              · trivial
              · cases z3 : isNone mx
                · trivial
                · simp only [bi_true]
                  have z1 := isZ_true z1
                  have z2 := isZ_true z2
                  have : mx = none := by cases mx <;> first | rfl | cases z3
                  subst this
                  cases h3
                  have key := bounds2 (P := P) true 0 0 0 0 h1 h2 z1 z2 (Nat.le_refl _) (Nat.le_refl _) w
                  refine VG.same hr ?_ .nils
                  simp [Instr.sliceAt, Instr.slice, Sem.run_bind, run_underlying hu, key, hsz, Result.andThen]
        | some s =>
          have := asSlc_some hs; subst this
          simp only [oc_some]
          cases hxp : xzPair lo hi mx with
          | some p =>
            simp only [oc_some]
            obtain ⟨rfl, rfl, rfl⟩ := xzPair_some hxp
            obtain ⟨z1, z2⟩ := p
            cases h3
            cases h1 with | some _ v1 h1 =>
            cases h2 with | some _ v2 h2 =>
            cases h1 with | xi _ n1 q1 q2 q3 =>
            cases h2 with | xi _ n2 r1 r2 r3 =>
            dsimp only at q1 q2 q3 r1 r2 r3
            unfold sliceX
            dsimp only
            cases y1 : Nat.beq sz 1
            · trivial
            rw [bi_true]
            cases y2 : Nat.beq z1.k z2.k
            · trivial
            rw [bi_true]
            cases y3 : ieq z1.a z2.a
            · trivial
            rw [bi_true]
            cases y4 : ileq (.ofNat 0) z1.lo
            · trivial
            rw [bi_true]
            cases y5 : ileq z2.hi (.ofNat s.len)
            · trivial
            rw [bi_true]
            cases y6 : natI (Int.sub z2.c z1.c) with
            | none => trivial
            | some d =>
              simp only [oc_some]
              cases y7 : Nat.beq d 0
              · rw [bi_false, nF_eq, nF_eq]
                have y1 := Nat.eq_of_beq_eq_true y1
                have y2 := Nat.eq_of_beq_eq_true y2
                have y3 : z1.a = z2.a := by rw [ieq_eq] at y3; simpa using y3
                have y4 : 0 ≤ z1.lo := by unfold ileq at y4; rw [ilt_eq, bi_eq] at y4; simp at y4; omega
                have y5 : z2.hi ≤ s.len := by unfold ileq at y5; rw [ilt_eq, bi_eq] at y5; simp at y5; omega
                have y7 := Nat.ne_of_beq_eq_false y7
                have y6 : z2.c - z1.c = (d : Int) := by
                  have : ∀ e : Int, natI e = some d → e = (d : Int) := by
                    intro e he
                    cases e with
                    | ofNat m =>
                      have he : some m = some d := he
                      cases he
                      rfl
                    | negSucc m => cases he
                  exact this _ y6
                subst y1
                have hd : n2 - n1 = d := by rw [q1, r1, y2, y3]; omega
                obtain ⟨l, rfl⟩ : ∃ l : Nat, n1 = l := ⟨n1.toNat, by omega⟩
                obtain ⟨u, rfl⟩ : ∃ u : Nat, n2 = u := ⟨n2.toNat, by omega⟩
                obtain rfl : u = l + d := by omega
                obtain ⟨b, o, n, cp⟩ := s
                dsimp only at hx y5 ⊢
                have hul : l + d ≤ n := by omega
                cases cp with
                | k c =>
                  cases hx with | slck _ _ _ _ B base ro hp hn hro =>
                  have hb := boundsX (P := P) n c l (l + d) (by omega) (by omega) w
                  rw [Int.natCast_add] at hb
                  have hcl : c ≠ l := by omega
                  refine VG.same hr ?_ (.xz b d (o + n) B base (ro + l * 1) (c - l) hp (by omega) (by rw [hro (by omega)]; omega) (by rw [hro (by omega)]; omega))
                  simp [Instr.sliceAt, Instr.slice, Sem.run_bind, run_underlying hu, hb, hsz, hcl, Result.andThen, add_none]
                | v s' k =>
                  cases hx with | slcv _ _ _ _ B base c _ ro hp hg ho hn hro =>
                  have hb := boundsX (P := P) n (c - k) l (l + d) (by omega) (by omega) w
                  rw [Int.natCast_add] at hb
                  have hcl : c - k ≠ l := by omega
                  refine VG.same hr ?_ (.xz b d (o + n) B base (ro + l * 1) (c - k - l) hp (by omega) (by rw [hro (by omega)]; omega) (by rw [hro (by omega)]; omega))
                  simp [Instr.sliceAt, Instr.slice, Sem.run_bind, run_underlying hu, hb, hsz, hcl, Result.andThen, add_none]
              · trivial
          | none =>
          simp only [oc_none]
          unfold sliceS
          cases e1 : optNat 0 lo with
          | none => trivial
          | some l =>
            cases e2 : optNat s.len hi with
            | none => trivial
            | some u =>
              simp only [oc_some]
              cases mx with
              | none =>
                cases h3
                simp only [oc_none]
                cases hlu : Nat.ble l u
                · trivial
                · have hlu : l ≤ u := Nat.le_of_ble_eq_true hlu
                  rw [bi_true]
                  cases hre : reach h s u sz
                  · trivial
                  · rw [bi_true]
                    obtain ⟨b, o, n, cp⟩ := s
                    dsimp only at hx e2
                    cases cp with
                    | k c =>
                      cases hx with | slck _ _ _ _ B base ro hp hn hro =>
                      have huc : u ≤ c := Nat.le_of_ble_eq_true hre
                      show VG P B0 g h w _ (nF (bi (Nat.beq c l) o (o + l * sz)) fun o' => nF (u - l) fun n => nF (c - l) fun c => .val (.slc b o' n (.k c)) h)
                      rw [nF_eq, nF_eq, nF_eq, bi_eq]
                      have hb := bounds2 (P := P) true n c l u h1 h2 e1 e2 hlu huc w
                      by_cases hcl : c = l
                      · subst hcl
                        rw [if_pos (by simp)]
                        refine VG.same hr ?_ (.slck b o (u - c) (c - c) B base ro hp (by omega) (fun hlt => by omega))
                        simp [Instr.sliceAt, Instr.slice, Sem.run_bind, run_underlying hu, hb, hsz, Result.andThen]
                      · rw [if_neg (by simp [hcl])]
                        have := VR.slck (g := g) b (o + l * sz) (u - l) (c - l) B base (ro + l * sz) hp (by omega) (fun hlt => by rw [hro (by omega)]; omega)
                        refine VG.same hr ?_ this
                        simp [Instr.sliceAt, Instr.slice, Sem.run_bind, run_underlying hu, hb, hsz, hcl, Result.andThen, add_none]
                    | v s' k =>
                      cases hx with | slcv _ _ _ _ B base c _ ro hp hg ho hn hro =>
                      have hre : bi (Nat.beq s' sz) (bi (Nat.ble u n) true (bi (Nat.beq sz 0) false (oc false (fun c => Nat.ble (o + u * sz) (len c.1)) (objCells (h.m.get b))))) false = true := hre
                      cases hss : Nat.beq s' sz
                      · rw [hss] at hre; cases hre
                      · rw [hss, bi_true] at hre
                        have hss := Nat.eq_of_beq_eq_true hss
                        subst hss
                        have huc : u ≤ c - k := by
                          cases hun : Nat.ble u n
                          · rw [hun, bi_false] at hre
                            cases hz0 : Nat.beq s' 0
                            · rw [hz0, bi_false] at hre
                              cases hob : objCells (h.m.get b) with
                              | none => rw [hob] at hre; cases hre
                              | some cc =>
                                rw [hob] at hre
                                simp only [oc_some, len_eq] at hre
                                have hle := Nat.le_of_ble_eq_true hre
                                obtain ⟨cs, fr, _, _, _, _, hgr⟩ := (hr.row hob hp).ex
                                obtain ⟨hs0, hle2, _⟩ := hgr c s' hg
                                have : (k + u) * s' ≤ c * s' := by rw [Nat.add_mul]; omega
                                have := Nat.le_of_mul_le_mul_right this hs0
                                omega
                            · rw [hz0] at hre; cases hre
                          · have := Nat.le_of_ble_eq_true hun
                            omega
                        show VG P B0 g h w _ (nF (o + l * s') fun o' => nF (u - l) fun n => nF (k + l) fun k => .val (.slc b o' n (.v s' k)) h)
                        rw [nF_eq, nF_eq, nF_eq]
                        have hb := bounds2 (P := P) true n (c - k) l u h1 h2 e1 e2 hlu huc w
                        by_cases hcl : c - k = l
                        · have hv : VR g (.slc b (o + l * s') (u - l) (.v s' (k + l))) (.slice (some ⟨B, ro, none⟩) (u - l) (c - (k + l))) := .slcv b _ (u - l) (k + l) B base c s' ro hp hg (by rw [ho, Nat.add_mul]) (by omega) (fun hlt => by omega)
                          refine VG.same hr ?_ hv
                          subst hcl
                          simp [Instr.sliceAt, Instr.slice, Sem.run_bind, run_underlying hu, hb, hsz, Result.andThen]
                          omega
                        · have hv : VR g (.slc b (o + l * s') (u - l) (.v s' (k + l))) (.slice (some ⟨B, ro + l * s', none⟩) (u - l) (c - (k + l))) := .slcv b _ (u - l) (k + l) B base c s' _ hp hg (by rw [ho, Nat.add_mul]) (by omega) (fun hlt => by rw [hro (by omega)]; omega)
                          refine VG.same hr ?_ hv
                          simp [Instr.sliceAt, Instr.slice, Sem.run_bind, run_underlying hu, hb, hsz, hcl, Result.andThen, add_none]
                          omega
              | some m =>
                cases h3 with | some _ mv h3 =>
                simp only [oc_some]
                cases hhn : isNone hi
                · have hhn : hi ≠ none := fun e => by subst e; cases hhn
                  rw [bi_false]
                  cases hm : intNat m with
                  | none => trivial
                  | some m' =>
                    obtain ⟨k3, rfl⟩ := intNat_some hm
                    cases h3
                    simp only [oc_some]
                    unfold cutM
                    cases hlu : Nat.ble l u
                    · trivial
                    · cases hum : Nat.ble u m'
                      · trivial
                      · cases hms : Nat.ble m' s.len
                        · trivial
                        · simp only [bi_true, nF_eq]
                          have hlu : l ≤ u := Nat.le_of_ble_eq_true hlu
                          have hum : u ≤ m' := Nat.le_of_ble_eq_true hum
                          have hms : m' ≤ s.len := Nat.le_of_ble_eq_true hms
                          obtain ⟨b, o, n, cp⟩ := s
                          dsimp only at hx e2 hms
                          obtain ⟨B, base, mm, ro, hp, rfl, hro⟩ := hx.slc_form
                          have hcap : n ≤ mm := by
                            cases hx with
                            | slck _ _ _ c B base ro h hn hro => exact hn
                            | slcv _ _ _ k B base c s ro h hg ho hn hro => omega
                          have hb := bounds3 (P := P) n mm l u m' h1 k3 h2 hhn e1 e2 hlu hum (by omega) w
                          dsimp only
                          rw [bi_eq]
                          by_cases hml : m' = l
                          · subst hml
                            rw [if_pos (by simp)]
                            refine VG.same hr ?_ (.slck b o (u - m') (m' - m') B base ro hp (by omega) (fun hlt => by omega))
                            simp [Instr.sliceAt, Instr.slice, Sem.run_bind, run_underlying hu, hb, hsz, Result.andThen]
                          · rw [if_neg (by simp [hml])]
                            refine VG.same hr ?_ (.slck b (o + l * sz) (u - l) (m' - l) B base (ro + l * sz) hp (by omega) (fun hlt => by rw [hro (by omega)]; omega))
                            simp [Instr.sliceAt, Instr.slice, Sem.run_bind, run_underlying hu, hb, hsz, hml, Result.andThen, add_none]
                · trivial
    case arr n e =>
      show VG P B0 g h w _ (oc .no (fun p => oc .no (fun size => sliceA h p.1 p.2 n size mx (optNat 0 lo) (optNat n hi)) (szOf (mkTI P) e)) (asPtr x))
      cases hs : asPtr x with
      | none => trivial
      | some p =>
        have := asPtr_some hs; subst this
        cases hx with | ptr b o B base hp =>
        simp only [oc_some]
        cases hz : szOf (mkTI P) e with
        | none => trivial
        | some sz =>
          have hsz := fun w => szOf_run (P := P) hz w
          simp only [oc_some]
          unfold sliceA
          cases e1 : optNat 0 lo with
          | none => trivial
          | some l =>
            cases e2 : optNat n hi with
            | none => trivial
            | some u =>
              simp only [oc_some]
              cases mx with
              | some m => trivial
              | none =>
                cases h3
                simp only [oc_none]
                cases hlu : Nat.ble l u
                · trivial
                · cases hun : Nat.ble u n
                  · trivial
                  · simp only [bi_true, nF_eq]
                    have hlu : l ≤ u := Nat.le_of_ble_eq_true hlu
                    have hun : u ≤ n := Nat.le_of_ble_eq_true hun
                    have hb := bounds2 (P := P) false n n l u h1 h2 e1 e2 hlu hun w
                    rw [bi_eq]
                    by_cases hcl : n = l
                    · subst hcl
                      rw [if_pos (by simp)]
                      refine VG.same hr ?_ (.slck p.1 p.2 (u - n) (n - n) B base _ hp (by omega) (fun _ => rfl))
                      simp [Instr.sliceAt, Sem.run_bind, run_underlying (hT.arr hk), Instr.sureAddr, hb, hsz, Result.andThen]
                    · rw [if_neg (by simp [hcl])]
                      refine VG.same hr ?_ (.slck p.1 (p.2 + l * sz) (u - l) (n - l) B base _ hp (by omega) (fun _ => rfl))
                      simp [Instr.sliceAt, Sem.run_bind, run_underlying (hT.arr hk), Instr.sureAddr, hb, hsz, hcl, Result.andThen, add_none, Nat.add_assoc]
    all_goals trivial
end
end Go.Proofs.YtknnaeejkmlnbaaGreatDoor.Kx

/- The evaluator's operations that write. -/
namespace Go.Proofs.YtknnaeejkmlnbaaGreatDoor.Kx
section
variable {P : Program} {B0 : Nat} {g : G} {h : H} {w : World}

def wset (w : World) (B : Nat) (o : Obj) : World := { w with heap := w.heap.setIfInBounds B o }
theorem wset_same (w : World) (B : Nat) (o : Obj) (hB : B < w.heap.size) : (wset w B o).heap[B]? = some o := by simp [wset, hB]
theorem wset_other (w : World) (B : Nat) (o : Obj) (B' : Nat) (hne : B' ≠ B) : (wset w B o).heap[B']? = w.heap[B']? := by
  simp [wset]
  rw [Array.getElem?_setIfInBounds_ne (fun e => hne e.symm)]
theorem wset_wset (w : World) (B : Nat) (o o' : Obj) : wset (wset w B o) B o' = wset w B o' := by
  unfold wset
  simp
theorem wset_size (w : World) (B : Nat) (o : Obj) : (wset w B o).heap.size = w.heap.size := by simp [wset]
theorem wset_self (w : World) (B : Nat) (o : Obj) (h : w.heap[B]? = some o) : wset w B o = w := by
  unfold wset
  congr 1
  apply Array.ext
  · simp
  · intro i h1 h2
    rw [Array.getElem_setIfInBounds]
    split
    · rename_i e
      subst e
      rw [Array.getElem?_eq_getElem h2] at h
      injection h with h
      exact h.symm
    · rfl
theorem setCell_wset (w : World) (B i : Nat) (cs : Array Value) (t : TypeId) (fr : Nat × Nat) (v : Value) (hb : w.heap[B]? = some (.cells cs t fr)) : w.setCell ⟨B, i, none⟩ v = wset w B (.cells (cs.setIfInBounds i v) t fr) := by
  unfold World.setCell wset
  congr 1
  apply Array.ext
  · simp
  · intro j h1 h2
    rw [Array.getElem_modify, Array.getElem_setIfInBounds]
    have hj : j < w.heap.size := by simpa using h2
    split
    · rename_i e
      subst e
      rw [Array.getElem?_eq_getElem hj] at hb
      injection hb with hb
      rw [hb]
      simp
    · rfl
theorem run_store1 (w : World) (B i : Nat) (cs : Array Value) (t : TypeId) (fr : Nat × Nat) (v : Value) (hb : w.heap[B]? = some (.cells cs t fr)) (hi : i < cs.size) (hfr : ¬ (fr.1 ≤ i ∧ i < fr.2)) (h1 : one1 v = true) :
    (store ⟨B, i, none⟩ v).run P w = .ok () (wset w B (.cells (cs.setIfInBounds i v) t fr)) := by
  have hc : w.cell? ⟨B, i, none⟩ = some cs[i] := by simp [World.cell?, hb, hi]
  have hf : w.frozen? ⟨B, i, none⟩ = false := by
    simp only [World.frozen?, hb]
    rw [Bool.and_eq_false_iff]
    rw [decide_eq_false_iff_not, decide_eq_false_iff_not]
    omega
  have hs := setCell_wset w B i cs t fr v hb
  cases v <;> first | (cases h1; done) | (simp [store, Sem.run, hc, hf, hs])
theorem run_storeRow (B ro : Nat) (t : TypeId) (fr : Nat × Nat) : ∀ (vs : List Value) (i : Nat) (cs : Array Value) (w : World), w.heap[B]? = some (.cells cs t fr) → (∀ j : Nat, ¬ (fr.1 ≤ j ∧ j < fr.2)) → ro + i + vs.length ≤ cs.size → (∀ v ∈ vs, one1 v = true) →
    (storeCells ⟨B, ro, none⟩ vs i).run P w = .ok () (wset w B (.cells (cs.toList.take (ro + i) ++ (vs ++ cs.toList.drop (ro + i + vs.length))).toArray t fr))
  | [], i, cs, w, hb, _, _, _ => by
    rw [storeCells]
    simp only [List.nil_append, List.length_nil, Nat.add_zero, List.take_append_drop]
    rw [wset_self w B _ (by simpa using hb)]
    rfl
  | v :: r, i, cs, w, hb, hfr, hl, h1 => by
    simp only [List.length_cons] at hl
    have hB : B < w.heap.size := (Array.getElem?_eq_some_iff.1 hb).1
    rw [storeCells, add_none]
    simp only [Sem.run_bind]
    rw [run_store1 w B (ro + i) cs t fr v hb (by omega) (hfr _) (h1 v (List.mem_cons_self)), Result.andThen_ok]
    rw [run_storeRow B ro t fr r (i + 1) (cs.setIfInBounds (ro + i) v) _ (wset_same w B _ hB) hfr (by simp; omega) (fun x hx => h1 x (List.mem_cons_of_mem _ hx))]
    rw [wset_wset]
    congr 4
    simp only [Array.toList_setIfInBounds, List.length_cons]
    have h2 : (cs.toList.set (ro + i) v).take (ro + (i + 1)) = cs.toList.take (ro + i) ++ [v] := by
      rw [← Nat.add_assoc, List.take_add_one, List.getElem?_set_self (by simp; omega), List.take_set_of_le (Nat.le_refl _)]
      rfl
    rw [h2, List.drop_set_of_lt (by omega), show ro + (i + 1) + r.length = ro + i + (r.length + 1) by omega]
    simp

/-- Cells put into a row of both. -/
theorem CR.put {b B base : Nat} {l : List AV} {t : TypeId} (hc : CR g b B base l t w) {o : Nat} {ys r : List AV} {ys' : List Value} (hy : VRs g ys ys') (h1 : ∀ x ∈ ys', one1 x = true) (hp : put o ys l = some r) :
    ∃ w1, (storeCells ⟨B, base + o, none⟩ ys').run P w = .ok () w1 ∧ CR g b B base r t w1 ∧ (∀ B', B' ≠ B → w1.heap[B']? = w.heap[B']?) ∧ w1.heap.size = w.heap.size ∧ w1.os = w.os ∧ w1.tape = w.tape ∧ w1.output = w.output := by
  obtain ⟨hle, hr⟩ := put_some hp
  rw [hy.length] at hle
  obtain ⟨cs, fr, e1, e2, e3, e4, e5⟩ := hc.ex
  have hB : B < w.heap.size := (Array.getElem?_eq_some_iff.1 e1).1
  have hrun := run_storeRow (P := P) B (base + o) t fr ys' 0 cs w e1 e2 (by omega) h1
  refine ⟨_, hrun, ⟨_, fr, wset_same _ _ _ hB, ?_, ?_, ?_, ?_⟩, fun B' hB' => wset_other _ _ _ _ hB', wset_size _ _ _, rfl, rfl, rfl⟩
  · exact e2
  · subst hr
    simp [hy.length]
    omega
  · intro i v hv
    subst hr
    simp only [Nat.add_zero]
    rcases Nat.lt_or_ge i o with hi | hi
    · rw [List.getElem?_append_left (by simp; omega), List.getElem?_take, if_pos hi] at hv
      obtain ⟨v', a1, a2, a3⟩ := e4 i v hv
      refine ⟨v', ?_, a2, a3⟩
      simp only [List.getElem?_toArray]
      rw [List.getElem?_append_left (by simp; omega), List.getElem?_take, if_pos (by omega)]
      simpa using a1
    · rw [List.getElem?_append_right (by simp; omega)] at hv
      have hto : (l.take o).length = o := by simp; omega
      rw [hto] at hv
      have hto' : (cs.toList.take (base + o)).length = base + o := by simp; omega
      rcases Nat.lt_or_ge (i - o) ys.length with hj | hj
      · rw [List.getElem?_append_left hj] at hv
        obtain ⟨v', a1, a2⟩ := hy.at hv
        refine ⟨v', ?_, a2, h1 v' (List.mem_of_getElem? a1)⟩
        simp only [List.getElem?_toArray]
        rw [List.getElem?_append_right (by omega), hto', show base + i - (base + o) = i - o by omega, List.getElem?_append_left (by rw [← hy.length]; exact hj)]
        exact a1
      · rw [List.getElem?_append_right hj, List.getElem?_drop] at hv
        obtain ⟨v', a1, a2, a3⟩ := e4 _ v hv
        refine ⟨v', ?_, a2, a3⟩
        simp only [List.getElem?_toArray]
        rw [List.getElem?_append_right (by omega), hto', show base + i - (base + o) = i - o by omega, List.getElem?_append_right (by rw [← hy.length]; exact hj), List.getElem?_drop]
        have ha : cs.toList[base + (o + ys.length + (i - o - ys.length))]? = some v' := by simpa using a1
        rw [← ha, hy.length]
        congr 1
        omega
  · intro c s hc
    obtain ⟨q1, q2, q3⟩ := e5 c s hc
    refine ⟨q1, ?_, ?_⟩
    · subst hr
      simp [hy.length]
      omega
    · simp
      omega

/-- A unit operation's goodness: nothing comes of it. -/
def UG (P : Program) (B0 : Nat) (g : G) (h : H) (w : World) (s : Sem Unit) : XR → Prop
  | .no => True
  | .val v h' => v = .tup [] ∧ ∃ w', s.run P w = .ok () w' ∧ ∃ g', Tr B0 g h w g' h' w'
  | .call _ _ _ => False
theorem Tr.cells (hr : HR B0 g h w) (hm : ∀ b o, h.m.get b = some o → b < h.next) {b B base : Nat} {c : List AV × TypeId} (hob : objCells (h.m.get b) = some c) (hp : g.pos b = some (B, base)) {r : List AV} {w1 : World} (hc : CR g b B base r c.2 w1)
    (hother : ∀ B', B' ≠ B → w1.heap[B']? = w.heap[B']?) (hsz : w1.heap.size = w.heap.size) (hos : w1.os = w.os) (ht : w1.tape = w.tape) (hou : w1.output = w.output) : Tr B0 g h w g (h.upd b (.cells r c.2)) w1 := by
  have hg := objCells_some hob
  refine Tr.write hr b B base ⟨_, hg, by simp⟩ (hm _ _ hg) hp _ hother hsz hos ht hou (fun l t e => ?_) (fun es c' e => by cases e)
  injection e with e1 e2
  subst e1; subst e2
  exact hc
theorem store_good (hr : HR B0 g h w) (hm : ∀ b o, h.m.get b = some o → b < h.next) (t : TypeId) (x v : AV) (xv vv : Value) (hx : VR g x xv) (hv : VR g v vv) : UG P B0 g h w (Instr.storeAt t xv vv) (xStore h v x (mkTI P t)) := by
  unfold xStore
  cases hk : okV v
  · trivial
  · rw [bi_true]
    obtain ⟨hv1, hv2⟩ := cells_inv hk hv
    cases h1 : asPtr x with
    | none => trivial
    | some p =>
      have := asPtr_some h1; subst this
      cases hx with | ptr b o B base hp =>
      simp only [oc_some]
      cases ht : mkTI P t with
      | none => trivial
      | some ti =>
        have hT := mkTI_some ht
        simp only [oc_some]
        cases hob : objCells (h.m.get p.1) with
        | none => trivial
        | some c =>
          simp only [oc_some]
          unfold st
          cases hb : Nat.beq (len (cellsOf v)) ti.size
          · trivial
          · rw [bi_true]
            have hb := Nat.eq_of_beq_eq_true hb
            rw [len_eq, hv1.length] at hb
            cases hpu : put p.2 (cellsOf v) c.1 with
            | none => trivial
            | some r =>
              obtain ⟨w1, a1, a2, a3, a4, a5, a6, a7⟩ := (hr.row hob hp).put (P := P) hv1 hv2 hpu
              refine ⟨rfl, w1, ?_, g, Tr.cells hr hm hob hp a2 a3 a4 a5 a6 a7⟩
              have hsz : vv.cells.size = ti.size := by simpa using hb
              simp [Instr.storeAt, Instr.sureAddr, storeVar, Sem.run_bind, hT.sizeOf, hsz, a1, Result.andThen]
end
end Go.Proofs.YtknnaeejkmlnbaaGreatDoor.Kx

/- The evaluator's append and copy. -/
namespace Go.Proofs.YtknnaeejkmlnbaaGreatDoor.Kx
section
variable {P : Program} {B0 : Nat} {g : G} {h : H} {w : World}

theorem lenOf_ok {x : AV} {xv : Value} (hx : VR g x xv) {n : Nat} (e : lenOf x = some n) (w : World) : (Builtin.lenOf xv).run P w = .ok n w := by
  cases hx <;> first | (cases e; done) | (injection e with e; subst e; simp [Builtin.lenOf]; done) | skip
  rename_i s
  injection e with e
  subst e
  simp [Builtin.lenOf, byteL_length]
theorem sliceCells (hr : HR B0 g h w) {b o n m : Nat} {c : Cap} {xv : Value} (hx : VR g (.slc b o m c) xv) {k size : Nat} {cs : List AV} (hn : n ≤ m) (hk : k = n * size) (e : cellsAt h b o k = some cs) :
    ∃ cs' : List Value, (∀ w', w'.heap = w.heap → (Builtin.firstCells size n xv).run P w' = .ok cs'.toArray w') ∧ VRs g cs cs' ∧ (∀ v ∈ cs', one1 v = true) ∧ cs'.length = n * size := by
  subst hk
  obtain ⟨B, base, mm, ro, hp, rfl, hro⟩ := hx.slc_form
  unfold cellsAt at e
  cases hob : objCells (h.m.get b) with
  | none => rw [hob] at e; cases e
  | some c' =>
    rw [hob] at e
    obtain ⟨cs', a1, a2, a3, _, a5⟩ := (hr.row hob hp).cells (P := P) e
    refine ⟨cs', fun w' hw' => ?_, a2, a3, a1⟩
    by_cases h0 : n * size = 0
    · rw [h0] at a1
      have : cs' = [] := List.eq_nil_of_length_eq_zero a1
      subst this
      simp [Builtin.firstCells, h0, loadCells, loadCellsFrom]
    · have hn0 : 0 < n := by rcases Nat.eq_zero_or_pos n with h1 | h1; exact absurd (by rw [h1]; simp) h0; exact h1
      obtain rfl := hro (by omega)
      simp only [Builtin.firstCells]
      rw [← a1]
      exact run_loadCells_list w' _ cs' (fun j v hj => by
        have := a5 j v hj
        unfold World.cell? at this ⊢
        rw [hw']
        exact this)
theorem firstCells_ok (hr : HR B0 g h w) {x : AV} {xv : Value} (hx : VR g x xv) {size n m : Nat} {cs : List AV} (hm : lenOf x = some m) (hn : n ≤ m) (e : firstCells x h size n = some cs) (hs : ∀ l, x = .str l → size = 1) :
    ∃ cs' : List Value, (∀ w', w'.heap = w.heap → (Builtin.firstCells size n xv).run P w' = .ok cs'.toArray w') ∧ VRs g cs cs' ∧ (∀ v ∈ cs', one1 v = true) ∧ cs'.length = n * size := by
  cases x
  case nils =>
    cases hx
    injection e with e; subst e
    injection hm with hm; subst hm
    obtain rfl : n = 0 := by omega
    exact ⟨[], fun w' _ => by simp [Builtin.firstCells], .nil, by simp, by simp⟩
  case str l =>
    have hs1 := hs _ rfl
    subst hs1
    obtain ⟨s, rfl, rfl⟩ := hx.str_inv
    injection e with e; subst e
    injection hm with hm; subst hm
    rw [len_eq, byteL_length] at hn
    refine ⟨(s.data.toList.take n).map (fun b => .int .u8 b.toNat), fun w' _ => ?_, ?_, ?_, ?_⟩
    · simp [Builtin.firstCells, ByteArray.data_extract]
      apply Array.ext'
      simp
    · have key : ∀ l : List UInt8, VRs g (u8s (byteL l)) (l.map (fun b => .int .u8 b.toNat)) := fun l => by
        induction l with
        | nil => exact .nil
        | cons a r ih => exact .cons _ _ _ _ (.int _ _) ih
      rw [tak_eq, ← byteL_take]
      exact key _
    · intro v hv
      obtain ⟨b, _, rfl⟩ := List.mem_map.1 hv
      rfl
    · simp at hn ⊢
      omega
  case slc b o len c =>
    injection hm with hm; subst hm
    exact sliceCells hr hx hn rfl e
  all_goals cases e
end
end Go.Proofs.YtknnaeejkmlnbaaGreatDoor.Kx

/- The evaluator's append. -/
namespace Go.Proofs.YtknnaeejkmlnbaaGreatDoor.Kx
section
variable {P : Program} {B0 : Nat} {g : G} {h : H} {w : World}

theorem Tr.kill (hr : HR B0 g h w) (b : Nat) {B base : Nat} (hl : live h b) (hb : b < h.next) (hp : g.pos b = some (B, base)) : Tr B0 g h w g (h.upd b .dead) w :=
  Tr.write hr b B base hl hb hp _ (fun _ _ => rfl) rfl rfl rfl rfl (fun _ _ e => by cases e) (fun _ _ e => by cases e)
/-- A block that grows in place goes on under a new number. -/
theorem Tr.move (hr : HR B0 g h w) (hm : ∀ b o, h.m.get b = some o → b < h.next) (hpn : g.pos h.next = none) (hgn : g.grow h.next = none) (b B base off : Nat) (hl : live h b) (hp : g.pos b = some (B, base)) (gr : Nat × Nat) (l : List AV) (t : TypeId) {w1 : World}
    (hc : CR (g.add h.next B (base + off) (some gr)) h.next B (base + off) l t w1) (hother : ∀ B', B' ≠ B → w1.heap[B']? = w.heap[B']?) (hsz : w1.heap.size = w.heap.size) (hos : w1.os = w.os) (ht : w1.tape = w.tape) (hou : w1.output = w.output) :
    Tr B0 g h w (g.add h.next B (base + off) (some gr)) ⟨(h.m.set b .dead).set h.next (.cells l t), Nat.succ h.next⟩ w1 := by
  have hb : b < h.next := by obtain ⟨o, ho, _⟩ := hl; exact hm b o ho
  have hle := G.add_le g h.next B (base + off) (some gr) hpn hgn
  have hget : ∀ x, ((h.m.set b .dead).set h.next (.cells l t)).get x = if h.next = x then some (.cells l t) else if b = x then some .dead else h.m.get x := fun x => by rw [get_set, get_set]
  have hposne : ∀ x, x ≠ h.next → (g.add h.next B (base + off) (some gr)).pos x = g.pos x := fun x hx => if_neg hx
  have hposeq : (g.add h.next B (base + off) (some gr)).pos h.next = some (B, base + off) := if_pos rfl
  have hlv : ∀ x, x ≠ h.next → live ⟨(h.m.set b .dead).set h.next (.cells l t), Nat.succ h.next⟩ x → x ≠ b ∧ live h x := fun x hx ⟨o, ho, hd⟩ => by
    have ho : ((h.m.set b .dead).set h.next (.cells l t)).get x = some o := ho
    rw [hget, if_neg (fun e => hx e.symm)] at ho
    by_cases e : b = x
    · rw [if_pos e] at ho; injection ho with ho; exact absurd ho.symm hd
    · rw [if_neg e] at ho; exact ⟨fun e' => e e'.symm, o, ho, hd⟩
  have hne : ∀ x X bx, x ≠ b → live h x → g.pos x = some (X, bx) → X ≠ B := fun x X bx hx hlx hpx e => by
    subst e
    exact hx (hr.inj x b X bx base hlx hl hpx hp)
  refine ⟨⟨fun x l' t' X bx h1 h2 => ?_, fun x es c X bx h1 h2 => ?_, fun x it X bx h1 h2 => ?_, fun x x' X b1 b2 h1 h2 h3 h4 => ?_, fun x X b1 h1 h2 => ?_, fun x X b1 h1 => ?_⟩, hle, fun x hx => ?_, Nat.le_succ _, by rw [hsz]; exact Nat.le_refl _, fun X _ hno => hother X (fun e => by subst e; exact hno b base hl hp), fun x o hx ho hg => ?_, fun x hx hlx => (hlv x (by omega) hlx).2, fun x hx => ?_, fun x h1 h2 => ?_, fun x X b1 h1 h2 => ?_, hos, ht, hou⟩
  · have h1 : ((h.m.set b .dead).set h.next (.cells l t)).get x = some (.cells l' t') := h1
    rw [hget] at h1
    by_cases e : h.next = x
    · subst e
      rw [if_pos rfl] at h1
      rw [hposeq] at h2
      injection h2 with h2
      injection h2 with e1 e2
      subst e1; subst e2
      injection h1 with h1
      injection h1 with e1 e2
      subst e1; subst e2
      exact hc
    · rw [if_neg e] at h1
      rw [hposne x (fun e' => e e'.symm)] at h2
      by_cases e' : b = x
      · rw [if_pos e'] at h1; cases h1
      · rw [if_neg e'] at h1
        exact (hr.cells x l' t' X bx h1 h2).mono hle (if_neg (fun e' => e e'.symm)) (hother X (hne x X bx (fun e => e' e.symm) ⟨_, h1, by simp⟩ h2))
  · have h1 : ((h.m.set b .dead).set h.next (.cells l t)).get x = some (.map es c) := h1
    rw [hget] at h1
    by_cases e : h.next = x
    · rw [if_pos e] at h1; cases h1
    · rw [if_neg e] at h1
      rw [hposne x (fun e' => e e'.symm)] at h2
      by_cases e' : b = x
      · rw [if_pos e'] at h1; cases h1
      · rw [if_neg e'] at h1
        obtain ⟨e0, es', e1, e2⟩ := hr.maps x es c X bx h1 h2
        exact ⟨e0, es', (hother X (hne x X bx (fun e => e' e.symm) ⟨_, h1, by simp⟩ h2)).trans e1, e2.mono hle⟩
  · have h1 : ((h.m.set b .dead).set h.next (.cells l t)).get x = some (.sit it) := h1
    rw [hget] at h1
    by_cases e : h.next = x
    · rw [if_pos e] at h1; cases h1
    · rw [if_neg e] at h1
      rw [hposne x (fun e' => e e'.symm)] at h2
      by_cases e' : b = x
      · rw [if_pos e'] at h1; cases h1
      · rw [if_neg e'] at h1
        obtain ⟨e0, s, e1, e2⟩ := hr.sits x it X bx h1 h2
        exact ⟨e0, s, (hother X (hne x X bx (fun e => e' e.symm) ⟨_, h1, by simp⟩ h2)).trans e1, e2.mono hle⟩
  · by_cases e : x = h.next
    · by_cases e' : x' = h.next
      · rw [e, e']
      · subst e
        rw [hposeq] at h3
        injection h3 with h3
        injection h3 with e1 e2
        subst e1
        rw [hposne x' e'] at h4
        obtain ⟨q1, q2⟩ := hlv x' e' h2
        exact absurd rfl (hne x' B b2 q1 q2 h4)
    · rw [hposne x e] at h3
      obtain ⟨q1, q2⟩ := hlv x e h1
      by_cases e' : x' = h.next
      · subst e'
        rw [hposeq] at h4
        injection h4 with h4
        injection h4 with e1 e2
        subst e1
        exact absurd rfl (hne x B b1 q1 q2 h3)
      · rw [hposne x' e'] at h4
        exact hr.inj x x' X b1 b2 q2 (hlv x' e' h2).2 h3 h4
  · by_cases e : x = h.next
    · subst e
      rw [hposeq] at h2
      injection h2 with h2
      injection h2 with e1 e2
      subst e1
      exact hr.low b B base hl hp
    · rw [hposne x e] at h2
      exact hr.low x X b1 (hlv x e h1).2 h2
  · rw [hsz]
    by_cases e : x = h.next
    · subst e
      rw [hposeq] at h1
      injection h1 with h1
      injection h1 with e1 e2
      subst e1
      exact hr.bnd b B base hp
    · rw [hposne x e] at h1
      exact hr.bnd x X b1 h1
  · have hx : x < h.next ∨ h.next + 1 ≤ x := hx
    have hne : x ≠ h.next := by omega
    exact ⟨if_neg hne, if_neg hne⟩
  · show ((h.m.set b .dead).set h.next (.cells l t)).get x = _
    rw [hget, if_neg (by omega), if_neg (fun e => by subst e; rw [hp] at hg; cases hg)]
    exact ho
  · have hx : h.next + 1 ≤ x := hx
    show ((h.m.set b .dead).set h.next (.cells l t)).get x = _
    rw [hget, if_neg (by omega), if_neg (by omega)]
  · have h2 : x < h.next + 1 := h2
    obtain rfl : x = h.next := by omega
    exact ⟨hpn, hgn⟩
  · by_cases e : x = h.next
    · subst e
      rw [hposeq] at h2
      injection h2 with h2
      injection h2 with e1 e2
      subst e1
      exact .inr ⟨b, base, hl, hp⟩
    · rw [hposne x e] at h2
      rw [h1] at h2
      cases h2

/-- What append asks of its types. -/
structure AppT (P : Program) (t xt e : TypeId) (te : TI) : Prop where
  und : P.underlying t = some (.slice e)
  xund : ∃ d, P.underlying xt = some d ∧ ∀ k, d ≠ .int k
  elem : TOk P e te
theorem append_fits {t xt e ty : TypeId} {te : TI} (hT : AppT P t xt e te) (base : Option Addr) (sLen sCap n : Nat) (xv : Value) (hlen : (Builtin.lenOf xv).run P w = .ok n w) (new : List Value) (hnew : (Builtin.firstCells te.size n xv).run P w = .ok new.toArray w) (hfit : sLen + n ≤ sCap)
    (w1 : World) (hst : ∀ a, base = some a → (storeCells (a.add (sLen * te.size)) new).run P w = .ok () w1) (hno : base = none → w1 = w) :
    (Builtin.append_ #[t, xt] ty #[.slice base sLen sCap, xv]).run P w = .ok (.slice base (sLen + n) sCap) w1 := by
  obtain ⟨d, hd, hni⟩ := hT.xund
  unfold Builtin.append_
  have hmx : ∀ k, d ≠ .int k := hni
  cases base with
  | none =>
    obtain rfl := hno rfl
    simp [run_underlying hT.und, run_underlying hd, hT.elem.sizeOf, hlen, hnew, hfit, Result.andThen]
  | some a =>
    have := hst a rfl
    simp [run_underlying hT.und, run_underlying hd, hT.elem.sizeOf, hlen, hnew, hfit, this, Result.andThen]
theorem append_grows {t xt e ty : TypeId} {te : TI} (hT : AppT P t xt e te) (base : Option Addr) (sLen sCap n : Nat) (xv : Value) (hlen : (Builtin.lenOf xv).run P w = .ok n w) (old new : List Value) (hnofit : sCap < sLen + n) (hsm : sLen + n ≤ 1048576) (hby : te.bytes ≤ 1048576)
    (hold : ∀ w', w'.heap = w.heap → (Builtin.firstCells te.size sLen (.slice base sLen sCap)).run P w' = .ok old.toArray w') (hnew : ∀ w', w'.heap = w.heap → (Builtin.firstCells te.size n xv).run P w' = .ok new.toArray w') :
    ∃ (nc : Nat) (zs : Array Value) (w1 : World), sLen + n ≤ nc ∧ zs.size = (nc - (sLen + n)) * te.size ∧ (Builtin.append_ #[t, xt] ty #[.slice base sLen sCap, xv]).run P w = .ok (.slice (some ⟨w.heap.size, 0, none⟩) (sLen + n) nc) w1 ∧
      w1.heap = w.heap.push (.cells ((old ++ new).toArray ++ zs) e) ∧ w1.os = w.os ∧ w1.tape = w.tape ∧ w1.output = w.output := by
  obtain ⟨d, hd, hni⟩ := hT.xund
  obtain ⟨i, hi, hib⟩ := hT.elem.bytes
  obtain ⟨z, hz, _, _, hzs, _⟩ := hT.elem.zero ⟨fun _ => none, fun _ => none, fun _ => 0, fun _ _ _ h => by cases h⟩
  have hne : ¬ (sLen + n ≤ sCap) := by omega
  have hb1 : ¬ ((9223372036854775807 : Int) < (sLen : Int) + (n : Int)) := by omega
  have hb2 : ¬ (281474976710656 < Builtin.nextslicecap (sLen + n) sCap * te.bytes) := by
    have h1 := nextslicecap_le hnofit
    have h2 : Builtin.nextslicecap (sLen + n) sCap * te.bytes ≤ 2097152 * 1048576 := Nat.mul_le_mul (by omega) hby
    omega
  have hq : (Question.appendCap (sLen + n) sCap e).forced = false := rfl
  have ho := hold w.drew rfl
  have hn := hnew w.drew rfl
  refine ⟨(Question.appendCap (sLen + n) sCap e).cut (w.tape w.drawn (.appendCap (sLen + n) sCap e)), Builtin.zeroCells z.cells ((Question.appendCap (sLen + n) sCap e).cut (w.tape w.drawn (.appendCap (sLen + n) sCap e)) - (sLen + n)), w.drew.alloc (.cells ((old ++ new).toArray ++ Builtin.zeroCells z.cells ((Question.appendCap (sLen + n) sCap e).cut (w.tape w.drawn (.appendCap (sLen + n) sCap e)) - (sLen + n))) e), ?_, ?_, ?_, rfl, rfl, rfl, rfl⟩
  · simp only [Question.cut]; omega
  · simp [Builtin.zeroCells, hzs]
  · unfold Builtin.append_
    have hmx : ∀ k, d ≠ .int k := hni
    simp [run_underlying hT.und, run_underlying hd, hT.elem.sizeOf, hlen, hne, run_typeInfo _ hi, hib, hq, hz, hb1, hb2, ho, hn, newRow, Result.andThen]
    congr 2
    apply Array.ext'
    simp
/-- What grows into a new block. -/
theorem grow_new (hr : HR B0 g h w) (hB : B0 ≤ w.heap.size) (hp : g.pos h.next = none) (hgr : g.grow h.next = none) (e : TypeId) (te : TI) (l : List AV) (cs : List Value) (hl : VRs g l cs) (h1 : ∀ v ∈ cs, one1 v = true) (need : Nat) (hlen : l.length = need * te.size) (hs0 : 0 < te.size)
    {s : Sem Value} (nc : Nat) (zs : Array Value) (w1 : World) (hnc : need ≤ nc) (hzs : zs.size = (nc - need) * te.size) (hs : s.run P w = .ok (.slice (some ⟨w.heap.size, 0, none⟩) need nc) w1) (hh : w1.heap = w.heap.push (.cells (cs.toArray ++ zs) e)) (hos : w1.os = w.os) (ht : w1.tape = w.tape) (hou : w1.output = w.output) :
    VG P B0 g h w s (kNew h (.cells l e) fun b => .slc b 0 need (.v te.size 0)) := by
  have hcl : cs.length = need * te.size := by rw [← hl.length, hlen]
  have hsz : (cs.toArray ++ zs).size = nc * te.size := by
    simp [hcl, hzs]
    rw [← Nat.add_mul]
    congr 1
    omega
  refine new_good hr hB hp hgr l e _ (some (nc, te.size)) _ w1 (cs.toArray ++ zs) (0, 0) hs hh hos ht hou (fun i => by simp) (by rw [hsz, hlen]; exact Nat.mul_le_mul_right _ hnc) (fun i v hi => ?_) (fun c s' e => ?_) ?_
  · obtain ⟨v', e, hv⟩ := hl.at hi
    refine ⟨v', ?_, hv, h1 v' (List.mem_of_getElem? e)⟩
    have := (List.getElem?_eq_some_iff.1 e).1
    rw [Array.getElem?_append_left (by simpa using this)]
    simpa using e
  · injection e with e
    injection e with e1 e2
    subst e1; subst e2
    exact ⟨hs0, by rw [hlen]; exact Nat.mul_le_mul_right _ hnc, by rw [hsz]; exact Nat.le_refl _⟩
  · have := VR.slcv (g := g.add h.next w.heap.size 0 (some (nc, te.size))) h.next 0 need 0 w.heap.size 0 nc te.size 0 (if_pos rfl) (if_pos rfl) (by simp) (by omega) (fun _ => rfl)
    simpa using this

theorem append_good (hr : HR B0 g h w) (hB : B0 ≤ w.heap.size) (hm : ∀ b o, h.m.get b = some o → b < h.next) (hp : g.pos h.next = none) (hgr : g.grow h.next = none) (t xt ty : TypeId) (s x : AV) (sv xv : Value) (hs : VR g s sv) (hx : VR g x xv) :
    VG P B0 g h w (Builtin.append_ #[t, xt] ty #[sv, xv]) (bi (notInt (mkTI P xt)) (xAppend (mkTI P) h s x (elemT (mkTI P t))) .no) := by
  cases hni : notInt (mkTI P xt)
  · trivial
  · rw [bi_true]
    unfold xAppend
    cases ht : mkTI P t with
    | none => trivial
    | some ti =>
      have hTt := mkTI_some ht
      cases hk : elemK ti.kind with
      | none => show VG P B0 g h w _ (oc .no _ (elemK ti.kind)); rw [hk]; trivial
      | some e =>
        show VG P B0 g h w _ (oc .no _ (elemK ti.kind))
        rw [hk]
        have hu := hTt.slice (elemK_some hk)
        simp only [oc_some]
        cases hte : mkTI P e with
        | none => trivial
        | some te =>
          have hTe := mkTI_some hte
          simp only [oc_some]
          have hxu : ∃ d, P.underlying xt = some d ∧ ∀ k, d ≠ .int k := by
            unfold notInt at hni
            cases hxt : mkTI P xt with
            | none => rw [hxt] at hni; cases hni
            | some xi =>
              rw [hxt] at hni
              obtain ⟨d, hd, hkd⟩ := (mkTI_some hxt).und
              refine ⟨d, hd, fun k e => ?_⟩
              subst e
              simp only [oc_some, hkd] at hni
              cases hni
          have hT : AppT P t xt e te := ⟨hu, hxu, hTe⟩
          cases hl : lenOf x with
          | none => trivial
          | some n =>
            simp only [oc_some]
            cases hso : strOk x te.size
            · trivial
            · rw [bi_true]
              have hstr : ∀ l, x = .str l → te.size = 1 := fun l e => by
                subst e
                exact Nat.eq_of_beq_eq_true hso
              cases hf : firstCells x h te.size n with
              | none => trivial
              | some new =>
                simp only [oc_some]
                have hlen := lenOf_ok (P := P) hx hl w
                obtain ⟨new', hnewW, n2, n3, n4⟩ := firstCells_ok (P := P) hr hx hl (Nat.le_refl _) hf hstr
                have n1 := hnewW w rfl
                unfold app1
                cases hss : asSlc s with
                | none =>
                  simp only [oc_none]
                  cases hn : isNils s
                  · trivial
                  · have := isNils_true hn; subst this
                    cases hs
                    rw [bi_true]
                    cases hn0 : Nat.beq n 0
                    · rw [bi_false]
                      have hn0 := Nat.ne_of_beq_eq_false hn0
                      unfold kGrow
                      cases h1 : Nat.ble n 1048576
                      · trivial
                      · cases h2 : Nat.ble te.bytes 1048576
                        · trivial
                        · cases h3 : Nat.beq te.size 0
                          · simp only [bi_true, bi_false]
                            have h1 := Nat.le_of_ble_eq_true h1
                            have h2 := Nat.le_of_ble_eq_true h2
                            have h3 := Nat.ne_of_beq_eq_false h3
                            obtain ⟨nc, zs, w1, a1, a2, a3, a4, a5, a6, a7⟩ := append_grows (w := w) (ty := ty) hT none 0 0 n xv hlen [] new' (by omega) (by omega) h2 (fun w' _ => by simp [Builtin.firstCells]) hnewW
                            simp only [Nat.zero_add, List.nil_append] at a1 a2 a3 a4
                            exact grow_new hr hB hp hgr e te new new' n2 n3 n (by rw [n2.length, n4]) (by omega) nc zs w1 a1 a2 a3 a4 a5 a6 a7
                          · trivial
                    · rw [bi_true]
                      have hn0 := Nat.eq_of_beq_eq_true hn0
                      subst hn0
                      have := append_fits (w := w) (ty := ty) hT none 0 0 0 xv hlen new' n1 (Nat.le_refl _) w (fun a e => by cases e) (fun _ => rfl)
                      exact VG.same hr this .nils
                | some sl =>
                  have := asSlc_some hss; subst this
                  simp only [oc_some]
                  obtain ⟨b, o, len, cp⟩ := sl
                  dsimp only at hs ⊢
                  cases hob : objCells (h.m.get b) with
                  | none => trivial
                  | some c =>
                    simp only [oc_some]
                    have hrow := fun B base (hp : g.pos b = some (B, base)) => hr.row hob hp
                    unfold app2
                    dsimp only
                    cases hfit : bi (Nat.ble (Nat.add o (Nat.mul (Nat.add len n) te.size)) (Kx.len c.1)) (capOk (Nat.add len n) te.size cp) false
                    · rw [bi_false]
                      cases hsb : sub c.1 o (Nat.mul len te.size) with
                      | none => trivial
                      | some old =>
                        simp only [oc_some, nF_eq]
                        have hca : cellsAt h b o (len * te.size) = some old := by unfold cellsAt; rw [hob]; exact hsb
                        obtain ⟨old', o1, o2, o3, o4⟩ := sliceCells (P := P) hr hs (Nat.le_refl _) rfl hca
                        have hvs : VRs g (app old new) (old' ++ new') := by rw [app_eq]; exact o2.append n2
                        have hv1 : ∀ v ∈ old' ++ new', one1 v = true := fun v hv => by
                          rcases List.mem_append.1 hv with hv | hv
                          · exact o3 v hv
                          · exact n3 v hv
                        have hvl : (app old new).length = (len + n) * te.size := by rw [hvs.length, List.length_append, o4, n4, Nat.add_mul]
                        have hdl : live h b := ⟨_, objCells_some hob, by simp⟩
                        have hbn := hm _ _ (objCells_some hob)
                        cases hs with
                        | slck _ _ _ cc B base ro hpb hn hro =>
                          show VG P B0 g h w _ (bi (Nat.ble (len + n) cc) .no (kGrow h e te (len + n) (app old new)))
                          cases hnc : Nat.ble (len + n) cc
                          · rw [bi_false]
                            have hnc : cc < len + n := by
                              rcases Nat.lt_or_ge cc (len + n) with h1 | h1
                              · exact h1
                              · rw [Nat.ble_eq_true_of_le h1] at hnc; cases hnc
                            unfold kGrow
                            cases h1 : Nat.ble (len + n) 1048576
                            · trivial
                            · cases h2 : Nat.ble te.bytes 1048576
                              · trivial
                              · cases h3 : Nat.beq te.size 0
                                · simp only [bi_true, bi_false]
                                  have h1 := Nat.le_of_ble_eq_true h1
                                  have h2 := Nat.le_of_ble_eq_true h2
                                  have h3 := Nat.ne_of_beq_eq_false h3
                                  obtain ⟨nc, zs, w1, a1, a2, a3, a4, a5, a6, a7⟩ := append_grows (w := w) (ty := ty) hT (some ⟨B, ro, none⟩) len cc n xv hlen old' new' hnc h1 h2 o1 hnewW
                                  exact grow_new hr hB hp hgr e te _ _ hvs hv1 (len + n) hvl (by omega) nc zs w1 a1 a2 a3 a4 a5 a6 a7
                                · trivial
                          · trivial
                        | slcv _ _ _ k B base cc s ro hpb hg ho hn hro =>
                          show VG P B0 g h w _ (bi (Nat.beq c.2 e) (bi (Nat.beq s te.size) (kGrow (h.upd b .dead) e te (len + n) (app old new)) .no) .no)
                          cases hte2 : Nat.beq c.2 e
                          · trivial
                          have hte2 : c.2 = e := Nat.eq_of_beq_eq_true hte2
                          rw [bi_true]
                          cases hse : Nat.beq s te.size
                          · trivial
                          · have hse := Nat.eq_of_beq_eq_true hse
                            subst hse
                            rw [bi_true]
                            unfold kGrow
                            cases h1 : Nat.ble (len + n) 1048576
                            · trivial
                            · cases h2 : Nat.ble te.bytes 1048576
                              · trivial
                              · cases h3 : Nat.beq te.size 0
                                · simp only [bi_true, bi_false]
                                  have h1 := Nat.le_of_ble_eq_true h1
                                  have h2 := Nat.le_of_ble_eq_true h2
                                  have h3 := Nat.ne_of_beq_eq_false h3
                                  by_cases hreal : len + n ≤ cc - k
                                  · obtain ⟨cs, fr, e1, e2, e3, e4, e5⟩ := (hrow B base hpb).ex
                                    obtain ⟨hs0, hle2, hle3⟩ := e5 cc te.size hg
                                    have hBl : B < w.heap.size := (Array.getElem?_eq_some_iff.1 e1).1
                                    obtain ⟨od, d1, d2, d3, _, d5⟩ := (hrow B base hpb).cells (P := P) hsb
                                    have hvs2 : VRs g (app old new) (od ++ new') := by rw [app_eq]; exact d2.append n2
                                    have hv2 : ∀ v ∈ od ++ new', one1 v = true := fun v hv => by
                                      rcases List.mem_append.1 hv with hv | hv
                                      · exact d3 v hv
                                      · exact n3 v hv
                                    have d1 : od.length = len * te.size := d1
                                    have hk : o = k * te.size := ho
                                    have hall : o + (len + n) * te.size ≤ cc * te.size := by
                                      rw [hk, ← Nat.add_mul]
                                      exact Nat.mul_le_mul_right _ (by omega)
                                    have hmul : (len + n) * te.size = len * te.size + n * te.size := Nat.add_mul _ _ _
                                    have hst := run_storeRow (P := P) B (base + o + len * te.size) c.2 fr new' 0 cs w e1 e2 (by omega) n3
                                    have hrun := append_fits (w := w) (ty := ty) hT (some ⟨B, ro, none⟩) len (cc - k) n xv hlen new' n1 hreal _ (fun a e => by
                                      injection e with e
                                      subst e
                                      rw [add_none]
                                      by_cases hc0 : k < cc
                                      · rw [hro hc0]; exact hst
                                      · obtain rfl : n = 0 := by omega
                                        have : new' = [] := List.eq_nil_of_length_eq_zero (by rw [n4]; simp)
                                        subst this
                                        exact hst) (fun e => by cases e)
                                    unfold kNew
                                    rw [nF_eq]
                                    refine ⟨_, _, g.add h.next B (base + o) (some (cc - k, te.size)), hrun, ?_, Tr.move hr hm hp hgr b B base o hdl hpb _ _ _ ⟨_, fr, wset_same _ _ _ hBl |>.trans (by rw [hte2]), ?_, ?_, ?_, ?_⟩ (fun B' hB' => wset_other _ _ _ _ hB') (wset_size _ _ _) rfl rfl rfl⟩
                                    · have := VR.slcv (g := g.add h.next B (base + o) (some (cc - k, te.size))) h.next 0 (len + n) 0 B (base + o) (cc - k) te.size ro (if_pos rfl) (if_pos rfl) (by simp) (by omega) (fun hlt => by rw [hro (by omega)]; rfl)
                                      rw [Nat.sub_zero] at this
                                      exact this
                                    · exact e2
                                    · simp only [hvl]
                                      simp
                                      omega
                                    · intro i v hv
                                      obtain ⟨v', q1, q2⟩ := hvs2.at hv
                                      refine ⟨v', ?_, q2.mono (G.add_le g _ _ _ _ hp hgr), hv2 v' (List.mem_of_getElem? q1)⟩
                                      have hi := (List.getElem?_eq_some_iff.1 q1).1
                                      rw [List.length_append, d1, n4] at hi
                                      simp only [Nat.add_zero, List.getElem?_toArray]
                                      have hto : (cs.toList.take (base + o + len * te.size)).length = base + o + len * te.size := by simp; omega
                                      rcases Nat.lt_or_ge i (len * te.size) with h5 | h5
                                      · rw [List.getElem?_append_left (by omega), List.getElem?_take, if_pos (by omega)]
                                        rw [List.getElem?_append_left (by omega)] at q1
                                        have := d5 i v' q1
                                        rw [add_none] at this
                                        simp [World.cell?, e1] at this
                                        simpa using this
                                      · rw [List.getElem?_append_right (by omega), hto, show base + o + i - (base + o + len * te.size) = i - len * te.size by omega, List.getElem?_append_left (by omega)]
                                        rw [List.getElem?_append_right (by omega), d1] at q1
                                        exact q1
                                    · intro c' s' hcs
                                      have : (some (cc - k, te.size) : Option (Nat × Nat)) = some (c', s') := by rw [← hcs]; exact (if_pos rfl).symm
                                      injection this with this
                                      injection this with e1 e2
                                      subst e1; subst e2
                                      refine ⟨hs0, by rw [hvl]; exact Nat.mul_le_mul_right _ hreal, ?_⟩
                                      have : (cc - k) * te.size + k * te.size = cc * te.size := by rw [← Nat.add_mul]; congr 1; omega
                                      simp
                                      omega
                                  · have t1 := Tr.kill hr b hdl hbn hpb
                                    obtain ⟨nc, zs, w1, a1, a2, a3, a4, a5, a6, a7⟩ := append_grows (w := w) (ty := ty) hT (some ⟨B, ro, none⟩) len (cc - k) n xv hlen old' new' (by omega) h1 h2 o1 hnewW
                                    have := grow_new (h := h.upd b .dead) t1.hr hB hp hgr e te _ _ hvs hv1 (len + n) hvl (by omega) nc zs w1 a1 a2 a3 a4 a5 a6 a7
                                    unfold kNew at this ⊢
                                    rw [nF_eq] at this ⊢
                                    obtain ⟨v', w', g', q1, q2, q3⟩ := this
                                    exact ⟨v', w', g', q1, q2, t1.trans q3⟩
                                · trivial
                    · rw [bi_true, nF_eq]
                      have hf1 : o + (len + n) * te.size ≤ c.1.length ∧ capOk (len + n) te.size cp = true := by
                        rw [bi_eq] at hfit
                        split at hfit
                        · rename_i hb
                          have := Nat.le_of_ble_eq_true hb
                          rw [len_eq] at this
                          exact ⟨this, hfit⟩
                        · cases hfit
                      obtain ⟨hf1, hf2⟩ := hf1
                      cases hpu : put (Nat.add o (Nat.mul len te.size)) new c.1 with
                      | none => trivial
                      | some r =>
                        have hpu : put (o + len * te.size) new c.1 = some r := hpu
                        unfold kUpd
                        simp only [oc_some]
                        cases hs with
                        | slck _ _ _ cc B base ro hpb hn hro =>
                          have hfc : len + n ≤ cc := Nat.le_of_ble_eq_true hf2
                          obtain ⟨w1, a1, a2, a3, a4, a5, a6, a7⟩ := (hrow B base hpb).put (P := P) n2 n3 hpu
                          have hrun := append_fits (w := w) (ty := ty) hT (some ⟨B, ro, none⟩) len cc n xv hlen new' n1 hfc w1 (fun a e => by
                            injection e with e
                            subst e
                            rw [add_none]
                            by_cases hc0 : 0 < cc
                            · rw [hro hc0, Nat.add_assoc]; exact a1
                            · obtain rfl : n = 0 := by omega
                              have : new' = [] := List.eq_nil_of_length_eq_zero (by rw [n4]; simp)
                              subst this
                              exact a1) (fun e => by cases e)
                          exact ⟨_, w1, g, hrun, .slck b o (len + n) cc B base ro hpb hfc hro, Tr.cells hr hm hob hpb a2 a3 a4 a5 a6 a7⟩
                        | slcv _ _ _ k B base cc s ro hpb hg ho hn hro =>
                          have hsz : s = te.size := Nat.eq_of_beq_eq_true hf2
                          subst hsz
                          obtain ⟨cs, fr, _, _, _, _, hgr'⟩ := (hrow B base hpb).ex
                          obtain ⟨hs0, hle2, _⟩ := hgr' cc te.size hg
                          have hfc : len + n ≤ cc - k := by
                            have : (k + (len + n)) * te.size ≤ cc * te.size := by rw [Nat.add_mul]; omega
                            have := Nat.le_of_mul_le_mul_right this hs0
                            omega
                          obtain ⟨w1, a1, a2, a3, a4, a5, a6, a7⟩ := (hrow B base hpb).put (P := P) n2 n3 hpu
                          have hrun := append_fits (w := w) (ty := ty) hT (some ⟨B, ro, none⟩) len (cc - k) n xv hlen new' n1 hfc w1 (fun a e => by
                            injection e with e
                            subst e
                            rw [add_none]
                            by_cases hc0 : k < cc
                            · rw [hro hc0, Nat.add_assoc]; exact a1
                            · obtain rfl : n = 0 := by omega
                              have : new' = [] := List.eq_nil_of_length_eq_zero (by rw [n4]; simp)
                              subst this
                              exact a1) (fun e => by cases e)
                          exact ⟨_, w1, g, hrun, .slcv b o (len + n) k B base cc te.size ro hpb hg ho (by omega) hro, Tr.cells hr hm hob hpb a2 a3 a4 a5 a6 a7⟩
end
end Go.Proofs.YtknnaeejkmlnbaaGreatDoor.Kx

/- The evaluator's maps. -/
namespace Go.Proofs.YtknnaeejkmlnbaaGreatDoor.Kx
section
variable {P : Program} {B0 : Nat} {g : G} {h : H} {w : World}

theorem ba_beq (a b : ByteArray) : (a == b) = (byteL a.data.toList == byteL b.data.toList) := by
  rw [byteL_beq]
  cases a with | mk x =>
  cases b with | mk y =>
  have : ((ByteArray.mk x) == (ByteArray.mk y)) = (x == y) := rfl
  rw [this]
  simp
theorem keyEq_ok {d : TypeDesc} {x y : AV} {xv yv : Value} (hx : VR g x xv) (hy : VR g y yv) {b : Bool} (e : keyEq (kOf d) x y = some b) : Instr.sameNow d xv yv = some b := by
  cases d
  case int k =>
    replace e : keyI x y = some b := e
    unfold keyI at e
    cases h1 : asInt x with
    | none => rw [h1] at e; cases e
    | some p =>
      cases h2 : asInt y with
      | none => rw [h1, h2] at e; cases e
      | some q =>
        rw [h1, h2] at e
        simp only [oc_some] at e
        have := asInt_some h1; subst this
        have := asInt_some h2; subst this
        cases hx; cases hy
        cases hk : Nat.beq (ikN p.1) (ikN q.1)
        · rw [hk] at e; cases e
        · rw [hk, bi_true] at e
          injection e with e
          rw [ieq_eq] at e
          simp [Instr.sameNow, ikN_inj hk, e]
  case string =>
    replace e : keyS x y = some b := e
    unfold keyS at e
    cases h1 : asStr x with
    | none => rw [h1] at e; cases e
    | some p =>
      cases h2 : asStr y with
      | none => rw [h1, h2] at e; cases e
      | some q =>
        rw [h1, h2] at e
        simp only [oc_some] at e
        have := asStr_some h1; subst this
        have := asStr_some h2; subst this
        obtain ⟨s, rfl, rfl⟩ := hx.str_inv
        obtain ⟨s', rfl, rfl⟩ := hy.str_inv
        injection e with e
        rw [lbeq_eq] at e
        simp only [Instr.sameNow]
        rw [ba_beq, e]
  case bool =>
    replace e : eqB x y = some b := e
    obtain ⟨p, q, rfl, rfl, rfl⟩ := eqB_some e
    cases hx; cases hy
    rfl
  all_goals cases e
theorem sameNow_eq {d : TypeDesc} {a b : Value} (h : Instr.sameNow d a b = some true) : b = a ∧ Instr.sameBits 10000 a a = true := by
  cases d <;> cases a <;> cases b <;> first | (cases h; done) | skip
  · rename_i x y
    have : x = y := by simpa [Instr.sameNow] using h
    subst this
    exact ⟨rfl, by simp [Instr.sameBits]⟩
  · rename_i k0 k x k' y
    unfold Instr.sameNow at h
    simp only at h
    split at h
    · rename_i hk
      have : x = y := by simpa using h
      subst this; subst hk
      exact ⟨rfl, by simp [Instr.sameBits]⟩
    · cases h
  · rename_i x y
    have hxy : (x == y) = true := by simpa [Instr.sameNow] using h
    rw [ba_beq] at hxy
    have : x = y := by
      have h2 : byteL x.data.toList = byteL y.data.toList := by simpa using hxy
      have h3 : (x.data.toList == y.data.toList) = true := by rw [← byteL_beq]; simpa using h2
      cases x; cases y
      simpa using h3
    subst this
    exact ⟨rfl, by show (x == x) = true; rw [ba_beq]; simp⟩
/-- What is found. -/
inductive FR (g : G) (xv : Value) (es : List (AV × AV × Nat)) (es' : List MapEntry) : Option (Nat × AV × Nat) → Option (Nat × Value) → Prop where
  | none : FR g xv es es' none none
  | some (i : Nat) (v : AV) (n : Nat) (v' : Value) (e : MapEntry) (hv : VR g v v') (he : es'[i]? = some e) (hb : e.born = n) (hev : e.val = v') (hk : e.key = xv) (hsb : Instr.sameBits 10000 xv xv = true) : FR g xv es es' (some (i, v, n)) (some (i, v'))
theorem keyEqM_ok {d : TypeDesc} {x y : AV} {xv yv : Value} (hx : VR g x xv) (hy : VR g y yv) {b : Bool} (e : keyEqM (kOf d) x y = some b) : Instr.sameNow d xv yv = some b := by
  unfold keyEqM at e
  cases hz : asXi x with
  | none => rw [hz, oc_none] at e; exact keyEq_ok hx hy e
  | some z =>
    rw [hz, oc_some] at e
    have := asXi_some hz; subst this
    cases hi : isIntK (kOf d)
    · rw [hi] at e; cases e
    rw [hi, bi_true] at e
    cases d <;> first | (cases hi; done) | skip
    unfold keyXi at e
    cases h2 : asInt y with
    | none => rw [h2] at e; cases e
    | some q =>
      rw [h2, oc_some] at e
      have := asInt_some h2; subst this
      cases hx with | xi _ n _ hl hh =>
      cases hy
      cases hk : Nat.beq (ikN q.1) 3
      · rw [hk] at e; cases e
      rw [hk, bi_true, ilt_eq, ilt_eq] at e
      have hk : q.1 = .i64 := ikN_inj (k' := .i64) hk
      have hne : n ≠ q.2 ∧ b = false := by
        cases e1 : decide (q.2 < z.lo)
        · rw [e1, bi_false] at e
          cases e2 : decide (z.hi < q.2)
          · rw [e2] at e; cases e
          · rw [e2, bi_true] at e
            injection e with e
            simp at e2
            exact ⟨by omega, e.symm⟩
        · rw [e1, bi_true] at e
          injection e with e
          simp at e1
          exact ⟨by omega, e.symm⟩
      have h3 : (n == q.2) = false := by simpa using hne.1
      simp [Instr.sameNow, hk, hne.2, hne.1]
theorem findL_ok {d : TypeDesc} {x : AV} {xv : Value} (hx : VR g x xv) {es0 : List (AV × AV × Nat)} {es0' : List MapEntry} {es : List (AV × AV × Nat)} {es' : List MapEntry} (he : ER g es es') :
    ∀ (i : Nat), (∀ j e, es'[j]? = some e → es0'[i + j]? = some e) → ∀ {r}, findL (kOf d) x es i = some r → ∃ r', Instr.findNow d xv es' i = some r' ∧ FR g xv es0 es0' r r' := by
  induction he with
  | nil => intro i _ r hr; injection hr with hr; subst hr; exact ⟨none, rfl, .none⟩
  | cons k v n k' v' l l' hk hv _ ih =>
    intro i hat r hr
    have hr : oc none (fun b => bi b (some (some (i, v, n))) (findL (kOf d) x l (i + 1))) (keyEqM (kOf d) x k) = some r := hr
    cases hq : keyEqM (kOf d) x k with
    | none => rw [hq] at hr; cases hr
    | some b =>
      rw [hq] at hr
      have hs := keyEqM_ok hx hk hq
      cases b
      · simp only [oc_some, bi_false] at hr
        obtain ⟨r', a1, a2⟩ := ih (i + 1) (fun j e hj => by have := hat (j + 1) e (by simpa using hj); rwa [show i + (j + 1) = i + 1 + j by omega] at this) hr
        exact ⟨r', by simp [Instr.findNow, hs, a1], a2⟩
      · simp only [oc_some, bi_true] at hr
        injection hr with hr
        subst hr
        have := hat 0 ⟨k', v', n⟩ rfl
        exact ⟨some (i, v'), by simp [Instr.findNow, hs], .some i v n v' ⟨k', v', n⟩ hv (by simpa using this) rfl rfl (sameNow_eq hs).1 (sameNow_eq hs).2⟩
theorem checkKey_ok {kt : TypeId} {d : TypeDesc} (hu : P.underlying kt = some d) (hk : keyKind (kOf d) = true) (emp : Bool) (xv : Value) (w : World) : (Instr.checkKey emp 10000 kt xv).run P w = .ok () w := by
  show (Instr.checkKey emp (9999 + 1) kt xv).run P w = .ok () w
  rw [Instr.checkKey]
  cases d <;> first | (cases hk; done) | simp [run_underlying hu, Result.andThen]
theorem findK_ok {kt : TypeId} {x : AV} {xv : Value} (hx : VR g x xv) {es : List (AV × AV × Nat)} {es' : List MapEntry} (he : ER g es es') {r : Option (Nat × AV × Nat)} (e : findK (mkTI P kt) x es = some r) :
    ∃ r', (∀ w, (Instr.findKey kt xv es').run P w = .ok r' w) ∧ FR g xv es es' r r' ∧ ∀ emp w, (Instr.checkKey emp 10000 kt xv).run P w = .ok () w := by
  unfold findK at e
  cases ht : mkTI P kt with
  | none => rw [ht] at e; cases e
  | some ti =>
    rw [ht] at e
    obtain ⟨d, hd, hk⟩ := (mkTI_some ht).und
    simp only [oc_some, hk] at e
    cases hkk : keyKind (kOf d)
    · rw [hkk] at e; cases e
    · rw [hkk, bi_true] at e
      obtain ⟨r', a1, a2⟩ := findL_ok (es0 := es) (es0' := es') hx he 0 (fun j e h => by simpa using h) e
      exact ⟨r', fun w => by simp [Instr.findKey, run_underlying hd, a1, Result.andThen], a2, fun emp w => checkKey_ok hd hkk emp xv w⟩
theorem mapT_some {t : TypeId} {q : TypeId × TypeId} (e : mapT (mkTI P t) = some q) : P.underlying t = some (.map q.1 q.2) := by
  unfold mapT at e
  cases ht : mkTI P t with
  | none => rw [ht] at e; cases e
  | some ti =>
    rw [ht] at e
    exact (mkTI_some ht).map (mapK_some e)
theorem lkRes_ok {xv : Value} (hr : HR B0 g h w) {te : TI} {e : TypeId} (hTe : TOk P e te) (ok : Bool) {es : List (AV × AV × Nat)} {es' : List MapEntry} {r : Option (Nat × AV × Nat)} {r' : Option (Nat × Value)} (hf : FR g xv es es' r r') {s : Sem Value}
    (hs1 : r' = none → ∀ z, (∀ w, (zeroValue e).run P w = .ok z w) → s.run P w = .ok (if ok then .tuple #[z, .bool false] else z) w)
    (hs2 : ∀ i v', r' = some (i, v') → s.run P w = .ok (if ok then .tuple #[v', .bool true] else v') w) : VG P B0 g h w s (lkRes h ok te r) := by
  obtain ⟨z, hz, hzv⟩ := hTe.zero1 g
  cases hf with
  | none =>
    have := hs1 rfl z hz
    cases ok
    · exact VG.same hr this hzv
    · exact VG.same hr (v' := .tuple #[z, .bool false]) this (.tup _ [z, .bool false] (.cons _ _ _ _ hzv (.cons _ _ _ _ (.bool _) .nil)))
  | some i v n v' e hv he hb hev hkk hsb =>
    have := hs2 i v' rfl
    cases ok
    · exact VG.same hr this hv
    · exact VG.same hr (v' := .tuple #[v', .bool true]) this (.tup _ [v', .bool true] (.cons _ _ _ _ hv (.cons _ _ _ _ (.bool _) .nil)))
theorem lookup_good (hr : HR B0 g h w) (t : TypeId) (ok : Bool) (m k : AV) (mv kv : Value) (hm : VR g m mv) (hk : VR g k kv) : VG P B0 g h w (Instr.lookup t mv kv ok) (xLookup (mkTI P) h ok m k (mapT (mkTI P t))) := by
  unfold xLookup
  cases hq : mapT (mkTI P t) with
  | none => trivial
  | some q =>
    have hu := mapT_some hq
    simp only [oc_some]
    cases hte : mkTI P q.2 with
    | none => trivial
    | some te =>
      have hTe := mkTI_some hte
      simp only [oc_some]
      unfold lk1
      cases h1 : asMap m with
      | none =>
        simp only [oc_none]
        cases hn : isNilm m
        · trivial
        · have := isNilm_true hn; subst this
          cases hm
          rw [bi_true]
          cases hf : findK (mkTI P q.1) k [] with
          | none => trivial
          | some r =>
            obtain ⟨r', a1, a2, a3⟩ := findK_ok (P := P) hk (.nil : ER g [] []) hf
            simp only [oc_some]
            refine lkRes_ok hr hTe ok a2 (fun e z hz => ?_) (fun i v' e => ?_)
            · subst e; cases ok <;> simp [Instr.lookup, run_underlying hu, a3, a1, hz, Result.andThen]
            · subst e; cases ok <;> simp [Instr.lookup, run_underlying hu, a3, a1, Result.andThen]
      | some b =>
        have := asMap_some h1; subst this
        cases hm with | map _ B hp =>
        simp only [oc_some]
        cases hob : objMap (h.m.get b) with
        | none => trivial
        | some mp =>
          simp only [oc_some]
          cases hf : findK (mkTI P q.1) k mp.es with
          | none => trivial
          | some r =>
            obtain ⟨_, es', e1, e2⟩ := hr.maps b mp.es mp.clock B 0 (objMap_some hob) hp
            obtain ⟨r', a1, a2, a3⟩ := findK_ok (P := P) hk e2 hf
            simp only [oc_some]
            have hg : (getObj B).run P w = .ok (.map es' mp.clock) w := by simp [getObj, Sem.run, e1]
            refine lkRes_ok hr hTe ok a2 (fun e z hz => ?_) (fun i v' e => ?_)
            · subst e; cases ok <;> simp [Instr.lookup, run_underlying hu, hg, a3, a1, hz, Result.andThen]
            · subst e; cases ok <;> simp [Instr.lookup, run_underlying hu, hg, a3, a1, Result.andThen]

/-! Entries written. -/
theorem ER.append {es es2 : List (AV × AV × Nat)} {es' es2' : List MapEntry} (h : ER g es es') (h2 : ER g es2 es2') : ER g (es ++ es2) (es' ++ es2') := by
  induction h with
  | nil => exact h2
  | cons k v n k' v' l l' hk hv _ ih => exact .cons k v n k' v' _ _ hk hv ih
theorem run_setObj (w : World) (B : Nat) (es es2 : Array MapEntry) (c c2 : Nat) (hb : w.heap[B]? = some (.map es c)) : (setObj B (.map es2 c2)).run P w = .ok () (wset w B (.map es2 c2)) := by
  simp [setObj, Sem.run, hb, wset]
theorem run_getMap (w : World) (B : Nat) (es : Array MapEntry) (c : Nat) (hb : w.heap[B]? = some (.map es c)) : (getObj B).run P w = .ok (.map es c) w := by
  simp [getObj, Sem.run, hb]
theorem Tr.map (hr : HR B0 g h w) (hm : ∀ b o, h.m.get b = some o → b < h.next) {b B : Nat} {mp : Mp} (hob : objMap (h.m.get b) = some mp) (hp : g.pos b = some (B, 0)) (es : List (AV × AV × Nat)) (es' : Array MapEntry) (c : Nat) (he : ER g es es'.toList) :
    Tr B0 g h w g (h.upd b (.map es c)) (wset w B (.map es' c)) := by
  have hg := objMap_some hob
  obtain ⟨_, es0, e1, _⟩ := hr.maps b mp.es mp.clock B 0 hg hp
  have hB : B < w.heap.size := (Array.getElem?_eq_some_iff.1 e1).1
  refine Tr.write hr b B 0 ⟨_, hg, by simp⟩ (hm _ _ hg) hp _ (fun B' hB' => wset_other _ _ _ _ hB') (wset_size _ _ _) rfl rfl rfl (fun l t e => by cases e) (fun es1 c1 e => ?_)
  injection e with e1 e2
  subst e1; subst e2
  exact ⟨rfl, es', wset_same _ _ _ hB, he⟩
theorem setAt_ok {v : AV} {vv : Value} (hv : VR g v vv) {es : List (AV × AV × Nat)} {es' : List MapEntry} (h : ER g es es') : ∀ i, ER g (setAt v es i) (es'.modify i fun e => { e with val := vv }) := by
  induction h with
  | nil => intro i; cases i <;> exact .nil
  | cons k v0 n k' v0' l l' hk hv0 hs ih =>
    intro i
    show ER g (bi (Nat.beq i 0) ((k, v, n) :: l) ((k, v0, n) :: setAt v l (i - 1))) _
    cases i with
    | zero => exact .cons k v n k' vv l l' hk hv hs
    | succ i => exact .cons k v0 n k' v0' _ _ hk hv0 (ih i)
theorem delAt_ok {es : List (AV × AV × Nat)} {es' : List MapEntry} (h : ER g es es') : ∀ i, ER g (delAt es i) (es'.eraseIdx i) := by
  induction h with
  | nil => intro i; cases i <;> exact .nil
  | cons k v0 n k' v0' l l' hk hv0 hs ih =>
    intro i
    show ER g (bi (Nat.beq i 0) l ((k, v0, n) :: delAt l (i - 1))) _
    cases i with
    | zero => exact hs
    | succ i => exact .cons k v0 n k' v0' _ _ hk hv0 (ih i)
theorem bornAt_ok {es : List (AV × AV × Nat)} {es' : List MapEntry} (h : ER g es es') (n : Nat) : ∀ i j, bornAt n es i = some j → ∃ m, j = i + m ∧ es'.findIdx? (fun e => (e.born : Int) == (n : Int)) = some m := by
  induction h with
  | nil => intro i j e; cases e
  | cons k v0 b k' v0' l l' hk hv0 hs ih =>
    intro i j e
    have e : bi (Nat.beq b n) (some i) (bornAt n l (i + 1)) = some j := e
    cases hb : Nat.beq b n
    · rw [hb, bi_false] at e
      obtain ⟨m, e1, e2⟩ := ih (i + 1) j e
      have hne : ((b : Int) == (n : Int)) = false := by
        have := Nat.ne_of_beq_eq_false hb
        simp
        omega
      exact ⟨m + 1, by omega, by rw [List.findIdx?_cons]; simp only [hne]; rw [e2]; rfl⟩
    · rw [hb, bi_true] at e
      injection e with e
      have := Nat.eq_of_beq_eq_true hb
      subst this
      exact ⟨0, by omega, by rw [List.findIdx?_cons]; simp⟩
theorem entryStore_good (hr : HR B0 g h w) (hm : ∀ b o, h.m.get b = some o → b < h.next) (t : TypeId) (m s v : AV) (mv sv vv : Value) (hmv : VR g m mv) (hs : VR g s sv) (hv : VR g v vv) : UG P B0 g h w (Instr.entryStore t mv sv vv) (xEntryStore h v m (intNat s)) := by
  unfold xEntryStore
  cases h1 : asMap m with
  | none => trivial
  | some b =>
    have := asMap_some h1; subst this
    cases hmv with | map _ B hp =>
    simp only [oc_some]
    cases hob : objMap (h.m.get b) with
    | none => trivial
    | some mp =>
      simp only [oc_some]
      cases h2 : intNat s with
      | none => trivial
      | some n =>
        obtain ⟨k, rfl⟩ := intNat_some h2
        cases hs
        simp only [oc_some]
        cases hb : bornAt n mp.es 0 with
        | none => trivial
        | some i =>
          obtain ⟨_, es', e1, e2⟩ := hr.maps b mp.es mp.clock B 0 (objMap_some hob) hp
          obtain ⟨j, hj, hfi⟩ := bornAt_ok e2 n 0 i hb
          have hij : i = j := by omega
          subst hij
          have hfi' : es'.findIdx? (fun e => (e.born : Int) == (n : Int)) = some i := by obtain ⟨l⟩ := es'; simpa using hfi
          refine ⟨rfl, wset w B (.map (es'.modify i fun e => { e with val := vv }) mp.clock), ?_, g, Tr.map hr hm hob hp _ _ _ (by rw [Array.toList_modify]; exact setAt_ok hv e2 i)⟩
          simp [Instr.entryStore, run_getMap w B es' mp.clock e1, Go.asInt, Go.asIntOf, hfi', run_setObj w B es' _ mp.clock _ e1, Result.andThen]

theorem modify_key (es : Array MapEntry) (i : Nat) (e : MapEntry) (he : es[i]? = some e) : (es.modify i fun x => { x with key := e.key }) = es := by
  apply Array.ext
  · simp
  · intro j h1 h2
    rw [Array.getElem_modify]
    split
    · rename_i hj
      subst hj
      rw [Array.getElem?_eq_getElem h2] at he
      injection he with he
      rw [he]
    · rfl
theorem delete_good (hr : HR B0 g h w) (hm : ∀ b o, h.m.get b = some o → b < h.next) (t ty kt0 : TypeId) (m k : AV) (mv kv : Value) (hmv : VR g m mv) (hk : VR g k kv) : VG P B0 g h w (Builtin.delete_ #[t, kt0] ty #[mv, kv]) (xDelete (mkTI P) h k m (mapT (mkTI P t))) := by
  unfold xDelete
  cases hq : mapT (mkTI P t) with
  | none => trivial
  | some q =>
    have hu := mapT_some hq
    simp only [oc_some]
    cases h1 : asMap m with
    | none => trivial
    | some b =>
      have := asMap_some h1; subst this
      cases hmv with | map _ B hp =>
      simp only [oc_some]
      cases hob : objMap (h.m.get b) with
      | none => trivial
      | some mp =>
        simp only [oc_some]
        cases hf : findK (mkTI P q.1) k mp.es with
        | none => trivial
        | some r =>
          obtain ⟨_, es', e1, e2⟩ := hr.maps b mp.es mp.clock B 0 (objMap_some hob) hp
          obtain ⟨r', a1, a2, a3⟩ := findK_ok (P := P) hk e2 hf
          simp only [oc_some]
          cases a2 with
          | none =>
            refine VG.same hr (v' := .tuple #[]) ?_ (.tup _ [] .nil)
            have := run_setObj w B es' es' mp.clock mp.clock e1 (P := P)
            rw [wset_self w B _ e1] at this
            simp [Builtin.delete_, run_underlying hu, run_getMap w B es' mp.clock e1, a3, a1, this, Result.andThen]
          | some i v n v' e hv he hb hev hkk hsb =>
            refine ⟨.tuple #[], wset w B (.map (es'.eraseIdxIfInBounds i) mp.clock), g, ?_, .tup _ [] .nil, Tr.map hr hm hob hp _ _ _ ?_⟩
            · simp [Builtin.delete_, run_underlying hu, run_getMap w B es' mp.clock e1, a3, a1, run_setObj w B es' _ mp.clock _ e1, Result.andThen]
            · have := delAt_ok e2 i
              have hi : i < es'.size := by have := (List.getElem?_eq_some_iff.1 he).1; simpa using this
              have e : (es'.eraseIdxIfInBounds i).toList = es'.toList.eraseIdx i := by simp [Array.eraseIdxIfInBounds, hi]
              rw [e]
              exact this
theorem mapEntry_good (hr : HR B0 g h w) (hm : ∀ b o, h.m.get b = some o → b < h.next) (t : TypeId) (m k : AV) (mv kv : Value) (hmv : VR g m mv) (hk : VR g k kv) : VG P B0 g h w (Instr.mapEntry t mv kv) (xMapEntry (mkTI P) h m k (mapT (mkTI P t))) := by
  unfold xMapEntry
  cases hq : mapT (mkTI P t) with
  | none => trivial
  | some q =>
    have hu := mapT_some hq
    simp only [oc_some]
    cases hte : mkTI P q.2 with
    | none => trivial
    | some te =>
      have hTe := mkTI_some hte
      obtain ⟨z, hz, hzv⟩ := hTe.zero1 g
      simp only [oc_some]
      unfold me1
      cases h1 : asMap m with
      | none => trivial
      | some b =>
        have := asMap_some h1; subst this
        cases hmv with | map _ B hp =>
        simp only [oc_some]
        cases hob : objMap (h.m.get b) with
        | none => trivial
        | some mp =>
          simp only [oc_some]
          cases hf : findK (mkTI P q.1) k mp.es with
          | none => trivial
          | some r =>
            obtain ⟨_, es', e1, e2⟩ := hr.maps b mp.es mp.clock B 0 (objMap_some hob) hp
            obtain ⟨r', a1, a2, a3⟩ := findK_ok (P := P) hk e2 hf
            simp only [oc_some]
            cases a2 with
            | none =>
              refine ⟨.tuple #[z, goInt mp.clock], wset w B (.map (es'.push { key := kv, val := z, born := mp.clock }) (mp.clock + 1)), g, ?_, .tup _ [z, goInt mp.clock] (.cons _ _ _ _ hzv (.cons _ _ _ _ (.int _ _) .nil)), Tr.map hr hm hob hp _ _ _ ?_⟩
              · simp [Instr.mapEntry, run_underlying hu, run_getMap w B es' mp.clock e1, a3, a1, hz, run_setObj w B es' _ mp.clock _ e1, Result.andThen]
              · rw [app_eq, Array.toList_push]
                exact e2.append (.cons _ _ _ _ _ _ _ hk hzv .nil)
            | some i v n v' e hv he hb hev hkk hsb =>
              refine VG.same hr (v' := .tuple #[v', goInt n]) ?_ (.tup _ [v', goInt n] (.cons _ _ _ _ hv (.cons _ _ _ _ (.int _ _) .nil)))
              have he' : es'[i]? = some e := by simpa using he
              have hmod := modify_key es' i e he'
              rw [hkk] at hmod
              have := run_setObj w B es' es' mp.clock mp.clock e1 (P := P)
              rw [wset_self w B _ e1] at this
              simp [Instr.mapEntry, run_underlying hu, run_getMap w B es' mp.clock e1, a3, a1, he', hkk, Instr.keyThatStays, hsb, hmod, this, hb, Result.andThen]
theorem mapUpdate_good (hr : HR B0 g h w) (hm : ∀ b o, h.m.get b = some o → b < h.next) (t : TypeId) (m k v : AV) (mv kv vv : Value) (hmv : VR g m mv) (hk : VR g k kv) (hvv : VR g v vv) : UG P B0 g h w (Instr.mapUpdate t mv kv vv) (xMapUpdate (mkTI P) h k v m (mapT (mkTI P t))) := by
  unfold xMapUpdate
  cases hq : mapT (mkTI P t) with
  | none => trivial
  | some q =>
    have hu := mapT_some hq
    simp only [oc_some]
    cases h1 : asMap m with
    | none => trivial
    | some b =>
      have := asMap_some h1; subst this
      cases hmv with | map _ B hp =>
      simp only [oc_some]
      cases hob : objMap (h.m.get b) with
      | none => trivial
      | some mp =>
        simp only [oc_some]
        cases hf : findK (mkTI P q.1) k mp.es with
        | none => trivial
        | some r =>
          obtain ⟨_, es', e1, e2⟩ := hr.maps b mp.es mp.clock B 0 (objMap_some hob) hp
          obtain ⟨r', a1, a2, a3⟩ := findK_ok (P := P) hk e2 hf
          simp only [oc_some]
          cases a2 with
          | none =>
            refine ⟨rfl, wset w B (.map (es'.push { key := kv, val := vv, born := mp.clock }) (mp.clock + 1)), ?_, g, Tr.map hr hm hob hp _ _ _ ?_⟩
            · simp [Instr.mapUpdate, run_underlying hu, run_getMap w B es' mp.clock e1, a3, a1, run_setObj w B es' _ mp.clock _ e1, Result.andThen]
            · rw [app_eq, Array.toList_push]
              exact e2.append (.cons _ _ _ _ _ _ _ hk hvv .nil)
          | some i v0 n v' e hv he hb hev hkk hsb =>
            have he' : es'[i]? = some e := by simpa using he
            have hmod : (es'.modify i fun x => { x with key := kv, val := vv }) = es'.modify i fun x => { x with val := vv } := by
              apply Array.ext
              · simp
              · intro j h1 h2
                rw [Array.getElem_modify, Array.getElem_modify]
                split
                · rename_i hj
                  subst hj
                  have hj : i < es'.size := by simpa using h1
                  rw [Array.getElem?_eq_getElem hj] at he'
                  injection he' with he'
                  rw [he', ← hkk]
                · rfl
            refine ⟨rfl, wset w B (.map (es'.modify i fun x => { x with val := vv }) mp.clock), ?_, g, Tr.map hr hm hob hp _ _ _ (by rw [Array.toList_modify]; exact setAt_ok hvv e2 i)⟩
            simp [Instr.mapUpdate, run_underlying hu, run_getMap w B es' mp.clock e1, a3, a1, he', hkk, Instr.keyThatStays, hsb, hmod, run_setObj w B es' _ mp.clock _ e1, Result.andThen]
end
end Go.Proofs.YtknnaeejkmlnbaaGreatDoor.Kx

/- The rest of the evaluator's operations; all of them. -/
namespace Go.Proofs.YtknnaeejkmlnbaaGreatDoor.Kx
section
variable {P : Program} {B0 : Nat} {g : G} {h : H} {w : World}

theorem len_good (hr : HR B0 g h w) (t ty : TypeId) (x : AV) (xv : Value) (hx : VR g x xv) : VG P B0 g h w (Builtin.len_ #[t] ty #[xv]) (xLen x h (mkTI P t)) := by
  unfold xLen
  cases ht : mkTI P t with
  | none => trivial
  | some ti =>
    have hT := mkTI_some ht
    simp only [oc_some]
    cases hk : ti.kind
    case str =>
      show VG P B0 g h w _ (oc .no (fun l => kInt (.ofNat (len l)) h .i64) (asStr x))
      cases h1 : asStr x with
      | none => trivial
      | some l =>
        have := asStr_some h1; subst this
        obtain ⟨s, rfl, rfl⟩ := hx.str_inv
        simp only [oc_some]
        rw [kInt_eq]
        refine VG.same hr ?_ (.int _ _)
        simp [Builtin.len_, run_underlying (hT.str hk), goInt, byteL_length]
    case slice e =>
      have hu := hT.slice hk
      show VG P B0 g h w _ (lenS x h)
      cases x <;> try trivial
      case nils =>
        cases hx
        show VG P B0 g h w _ (kInt (.ofNat 0) h .i64)
        rw [kInt_eq]
        exact VG.same hr (by simp [Builtin.len_, run_underlying hu, goInt]) (.int _ _)
      case slc b o n c =>
        obtain ⟨B, base, m, ro, hp, rfl, _⟩ := hx.slc_form
        show VG P B0 g h w _ (kInt (.ofNat n) h .i64)
        rw [kInt_eq]
        exact VG.same hr (by simp [Builtin.len_, run_underlying hu, goInt]) (.int _ _)
      case xz b n L =>
        cases hx with | xz _ _ _ B base ro c hp hn h1 h2 =>
        show VG P B0 g h w _ (kInt (.ofNat n) h .i64)
        rw [kInt_eq]
        exact VG.same hr (by simp [Builtin.len_, run_underlying hu, goInt]) (.int _ _)
      case xslc k0 ge =>
        generalize hxx : AV.xslc k0 ge = y at hx
        cases hx <;> cases hxx
        rename_i a n c hle he
        show VG P B0 g h w _ (bi ge (.val (.xnat k0) h) (kInt (.ofNat k0) h .i64))
        cases ge
        · rw [bi_false, kInt_eq, he rfl]
          exact VG.same hr (by simp [Builtin.len_, run_underlying hu, goInt]) (.int _ _)
        · exact VG.same hr (v' := .int .i64 (n : Int)) (by simp [Builtin.len_, run_underlying hu, goInt]) (.xnat k0 n hle)
    case map k e =>
      have hu := hT.map hk
      show VG P B0 g h w _ (lenM x h)
      cases x <;> try trivial
      case nilm =>
        cases hx
        show VG P B0 g h w _ (kInt (.ofNat 0) h .i64)
        rw [kInt_eq]
        exact VG.same hr (by simp [Builtin.len_, run_underlying hu, goInt]) (.int _ _)
      case map b =>
        cases hx with | map _ B hp =>
        show VG P B0 g h w _ (oc .no (fun m => kInt (.ofNat (len m.es)) h .i64) (objMap (h.m.get b)))
        cases hob : objMap (h.m.get b) with
        | none => trivial
        | some mp =>
          simp only [oc_some]
          obtain ⟨_, es', e1, e2⟩ := hr.maps b mp.es mp.clock B 0 (objMap_some hob) hp
          rw [kInt_eq, len_eq]
          have hlen : mp.es.length = es'.size := by
            have : ∀ {l : List (AV × AV × Nat)} {l' : List MapEntry}, ER g l l' → l.length = l'.length := fun h => by
              induction h with
              | nil => rfl
              | cons _ _ _ _ _ _ _ _ _ _ ih => simp [ih]
            rw [this e2]; simp
          exact VG.same hr (by simp [Builtin.len_, run_underlying hu, run_getMap w B es' mp.clock e1, goInt, hlen]) (.int _ _)
    case arr n e =>
      show VG P B0 g h w _ (kInt (.ofNat n) h .i64)
      rw [kInt_eq]
      exact VG.same hr (by simp [Builtin.len_, run_underlying (hT.arr hk), goInt]) (.int _ _)
    all_goals trivial
theorem copy_good (hr : HR B0 g h w) (hm : ∀ b o, h.m.get b = some o → b < h.next) (t xt ty : TypeId) (d s : AV) (dv sv : Value) (hd : VR g d dv) (hs : VR g s sv) :
    VG P B0 g h w (Builtin.copy_ #[t, xt] ty #[dv, sv]) (xCopy h d s (oc none (szOf (mkTI P)) (elemT (mkTI P t)))) := by
  unfold xCopy
  cases ht : mkTI P t with
  | none => trivial
  | some ti =>
    have hTt := mkTI_some ht
    cases hk : elemK ti.kind with
    | none => show VG P B0 g h w _ (oc .no _ (oc none _ (elemK ti.kind))); rw [hk]; trivial
    | some e =>
      show VG P B0 g h w _ (oc .no _ (oc none (szOf (mkTI P)) (elemK ti.kind)))
      rw [hk]
      have hu := hTt.slice (elemK_some hk)
      simp only [oc_some]
      cases hz : szOf (mkTI P) e with
      | none => trivial
      | some size =>
        have hsz := fun w => szOf_run (P := P) hz w
        simp only [oc_some]
        cases hl : lenOf s with
        | none => trivial
        | some n =>
          simp only [oc_some]
          cases hl2 : lenOf d with
          | none => trivial
          | some m =>
            simp only [oc_some, nF_eq]
            cases hso : strOk s size
            · trivial
            · rw [bi_true]
              have hstr : ∀ l, s = .str l → size = 1 := fun l e => by
                subst e
                exact Nat.eq_of_beq_eq_true hso
              cases hf : firstCells s h size (Nat.min n m) with
              | none => trivial
              | some cs =>
                simp only [oc_some]
                have hlen := lenOf_ok (P := P) hs hl w
                obtain ⟨cs', c1, c2, c3, c4⟩ := firstCells_ok (P := P) hr hs hl (Nat.min_le_left _ _) hf hstr
                have c1 := c1 w rfl
                unfold copy1
                cases h1 : asSlc d with
                | none =>
                  simp only [oc_none]
                  cases hn : isNils d
                  · trivial
                  · have := isNils_true hn; subst this
                    cases hd
                    injection hl2 with hl2
                    subst hl2
                    rw [bi_true]
                    rw [Nat.min_zero] at c1
                    refine VG.same hr (v' := .int .i64 0) ?_ (.int _ _)
                    simp [Builtin.copy_, run_underlying hu, hlen, hsz, c1, goInt, Result.andThen]
                | some sl =>
                  have := asSlc_some h1; subst this
                  obtain ⟨b, o, len, cp⟩ := sl
                  dsimp only at hd hl2 ⊢
                  injection hl2 with hl2
                  subst hl2
                  simp only [oc_some]
                  cases hob : objCells (h.m.get b) with
                  | none => trivial
                  | some c =>
                    simp only [oc_some]
                    unfold kUpd
                    cases hpu : put o cs c.1 with
                    | none => trivial
                    | some r =>
                      simp only [oc_some]
                      obtain ⟨B, base, mm, ro, hp, rfl, hro⟩ := hd.slc_form
                      obtain ⟨w1, a1, a2, a3, a4, a5, a6, a7⟩ := (hr.row hob hp).put (P := P) c2 c3 hpu
                      refine ⟨.int .i64 (Nat.min n len : Nat), w1, g, ?_, .int _ _, Tr.cells hr hm hob hp a2 a3 a4 a5 a6 a7⟩
                      have hst : (storeCells ⟨B, ro, none⟩ cs').run P w = .ok () w1 := by
                        by_cases hl0 : 0 < len
                        · rw [hro hl0]; exact a1
                        · have : cs' = [] := List.eq_nil_of_length_eq_zero (by
                            have hmz : min n len = 0 := by omega
                            rw [c4, hmz]; simp)
                          subst this
                          exact a1
                      simp [Builtin.copy_, run_underlying hu, hlen, hsz, c1, hst, goInt, Result.andThen]
theorem max_good (hr : HR B0 g h w) (ts : Array TypeId) (ty : TypeId) (x y : AV) (xv yv : Value) (hx : VR g x xv) (hy : VR g y yv) : VG P B0 g h w (Builtin.max_ ts ty #[xv, yv]) (xMax h x y) := by
  unfold xMax
  cases h1 : asInt x with
  | none => trivial
  | some p =>
    have := asInt_some h1; subst this
    cases hx
    simp only [oc_some]
    cases h2 : asInt y with
    | none => trivial
    | some q =>
      have := asInt_some h2; subst this
      cases hy
      simp only [oc_some]
      rw [kInt_eq, ilt_eq, bi_eq]
      refine VG.same hr ?_ (.int _ _)
      simp [Builtin.max_, Builtin.max2]
theorem min_good (hr : HR B0 g h w) (ts : Array TypeId) (ty : TypeId) (x y : AV) (xv yv : Value) (hx : VR g x xv) (hy : VR g y yv) : VG P B0 g h w (Builtin.min_ ts ty #[xv, yv]) (xMin h x y) := by
  unfold xMin
  cases h1 : asInt x with
  | none =>
    simp only [oc_none]
    cases h2 : asXnat x with
    | none => trivial
    | some n =>
      have := asXnat_some h2; subst this
      generalize hxx : AV.xnat n = xx at hx
      cases hx <;> cases hxx
      rename_i n' hle
      simp only [oc_some]
      unfold minX
      cases h3 : asInt y with
      | none => trivial
      | some q =>
        have := asInt_some h3; subst this
        cases hy
        simp only [oc_some]
        cases hk : Nat.beq (ikN q.1) 3
        · trivial
        · have hk : q.1 = .i64 := ikN_inj (k' := .i64) hk
          rw [bi_true]
          cases hz : ilt (.ofNat n) q.2
          · rw [ilt_eq] at hz
            have hz : ¬ ((n : Int) < q.2) := by simpa using hz
            rw [hk]
            refine VG.same hr ?_ (.int _ _)
            have hn : ¬ ((n' : Int) < q.2) := by omega
            by_cases e : q.2 = n'
            · simp [Builtin.min_, Builtin.min2, e]
            · have h3 : q.2 < (n' : Int) := by omega
              simp [Builtin.min_, Builtin.min2, h3]
          · trivial
  | some p =>
    have := asInt_some h1; subst this
    cases hx
    simp only [oc_some]
    cases h2 : asInt y with
    | none => trivial
    | some q =>
      have := asInt_some h2; subst this
      cases hy
      simp only [oc_some]
      rw [kInt_eq, ilt_eq, bi_eq]
      refine VG.same hr ?_ (.int _ _)
      simp [Builtin.min_, Builtin.min2]

/-! Conversions. -/
theorem u8T_ok {e : TypeId} (h : u8T (mkTI P e) = true) : P.underlying e = some (.int .u8) := by
  unfold u8T at h
  cases ht : mkTI P e with
  | none => rw [ht] at h; cases h
  | some ti =>
    rw [ht] at h
    simp only [oc_some] at h
    cases hk : ti.kind <;> rw [hk] at h <;> first | (cases h; done) | skip
    rename_i k
    have hk8 : k = .u8 := ikN_inj (k' := .u8) h
    subst hk8
    exact (mkTI_some ht).int hk
theorem srcU8_ok {t : TypeId} {si : TI} (hT : TOk P t si) (h : srcU8 (mkTI P) (some si) = true) : ∃ e, P.underlying t = some (.slice e) ∧ P.underlying e = some (.int .u8) := by
  have h : oc false (fun e => u8T (mkTI P e)) (elemK si.kind) = true := h
  cases hk : elemK si.kind with
  | none => rw [hk] at h; cases h
  | some e =>
    rw [hk] at h
    exact ⟨e, hT.slice (elemK_some hk), u8T_ok h⟩
theorem push_data (bs : List UInt8) (acc : ByteArray) : (bs.foldl ByteArray.push acc).data.toList = acc.data.toList ++ bs := by
  induction bs generalizing acc with
  | nil => simp
  | cons b r ih => rw [List.foldl_cons, ih]; simp [ByteArray.push]
theorem byteN_some {v : AV} {n : Nat} (h : byteN v = some n) : v = .int .u8 n ∧ n < 256 := by
  cases v <;> first | (exact absurd h (by intro e; cases e)) | skip
  rename_i k z
  have h : bi (Nat.beq (ikN k) 4) (oc none (fun n => bi (Nat.blt n 256) (some n) none) (natI z)) none = some n := h
  cases hk : Nat.beq (ikN k) 4
  · rw [hk] at h; cases h
  · rw [hk, bi_true] at h
    have hk8 : k = .u8 := ikN_inj (k' := .u8) hk
    subst hk8
    cases z with
    | negSucc m => cases h
    | ofNat m =>
      have h : bi (Nat.blt m 256) (some m) none = some n := h
      cases hb : Nat.blt m 256
      · rw [hb] at h; cases h
      · rw [hb, bi_true] at h
        injection h with h
        subst h
        exact ⟨rfl, by simpa [Nat.blt_eq] using hb⟩
theorem strBytes_ok {cs : List AV} {l : List Nat} (h : strBytes cs = some l) {cs' : List Value} (hv : VRs g cs cs') :
    ∃ bs : List UInt8, byteL bs = l ∧ ∀ (F : Value → ByteArray → Sem (ForInStep ByteArray)), (∀ n s, F (.int .u8 n) s = pure (ForInStep.yield (s.push (UInt8.ofNat n.toNat)))) → ∀ (acc : ByteArray) (w : World), (forIn cs' acc F).run P w = .ok (bs.foldl ByteArray.push acc) w := by
  induction cs generalizing l cs' with
  | nil =>
    cases hv
    injection h with h
    subst h
    exact ⟨[], rfl, fun F hF acc w => rfl⟩
  | cons a r ih =>
    cases hv with | cons _ a' _ r' ha hs =>
    have h : oc none (fun n => oc none (fun l => some (n :: l)) (strBytes r)) (byteN a) = some l := h
    cases hb : byteN a with
    | none => rw [hb] at h; cases h
    | some n =>
      cases hr : strBytes r with
      | none => rw [hb, hr] at h; cases h
      | some l' =>
        rw [hb, hr] at h
        simp only [oc_some] at h
        injection h with h
        subst h
        obtain ⟨rfl, hn⟩ := byteN_some hb
        cases ha
        obtain ⟨bs, e1, e2⟩ := ih hr hs
        refine ⟨UInt8.ofNat n :: bs, ?_, fun F hF acc w => ?_⟩
        · show (UInt8.ofNat n).toNat :: byteL bs = _
          rw [e1]
          congr 1
          simp
          omega
        · rw [List.forIn_cons, hF]
          simp only [pure_bind, List.foldl_cons]
          exact e2 F hF _ w
theorem convert_good (hr : HR B0 g h w) (src dst : TypeId) (x : AV) (xv : Value) (hx : VR g x xv) : VG P B0 g h w (convert src dst xv) (bi (isSome (mkTI P src)) (xConvert (mkTI P) h x (mkTI P src) (mkTI P dst)) .no) := by
  cases hsrc : mkTI P src with
  | none => trivial
  | some si =>
    obtain ⟨sd, hsd, hsk⟩ := (mkTI_some hsrc).und
    show VG P B0 g h w _ (xConvert (mkTI P) h x (some si) (mkTI P dst))
    unfold xConvert
    cases hdst : mkTI P dst with
    | none => trivial
    | some di =>
      have hT := mkTI_some hdst
      simp only [oc_some]
      cases hk : di.kind
      case int k =>
        show VG P B0 g h w _ (oc (cvR h k x) (fun p => kW h k p.2) (asInt x))
        cases h1 : asInt x with
        | none =>
          simp only [oc_none]
          unfold cvR
          cases h2 : asXres x with
          | none => trivial
          | some r =>
            have := asXres_some h2; subst this
            simp only [oc_some]
            cases e1 : Nat.beq r.k 0
            · trivial
            rw [bi_true]
            cases e2 : Nat.beq (ikN k) 7
            · trivial
            rw [bi_true]
            have e1 := Nat.eq_of_beq_eq_true e1
            have e2 : k = .u64 := ikN_inj (k' := .u64) e2
            subst e2
            obtain ⟨k, m, r'⟩ := r
            dsimp only at hx e1 ⊢
            subst e1
            cases hx with | xres0 _ _ n _ hn =>
            refine VG.same hr (v' := .int .u64 (n % 18446744073709551616)) ?_ (.xres2 m r' _ (by omega) hn)
            simp [convert, run_underlying hsd, run_underlying (hT.int hk), Conv.intToInt, IntKind.wrap_u64]
        | some p =>
          have := asInt_some h1; subst this
          cases hx
          simp only [oc_some]
          rw [kW_eq]
          refine VG.same hr ?_ (.int _ _)
          simp [convert, run_underlying hsd, run_underlying (hT.int hk), Conv.intToInt]
      case str =>
        have hu := hT.str hk
        show VG P B0 g h w _ (oc (bi (srcU8 (mkTI P) (some si)) (oc (bi (isNils x) (.val (.str []) h) .no) (cvBytes h) (asSlc x)) .no) (fun l => .val (.str l) h) (asStr x))
        cases h1 : asStr x with
        | some l =>
          have := asStr_some h1; subst this
          obtain ⟨s, rfl, rfl⟩ := hx.str_inv
          simp only [oc_some]
          refine VG.same hr ?_ (.str s)
          simp [convert, run_underlying hsd, run_underlying hu]
        | none =>
          simp only [oc_none]
          cases hs8 : srcU8 (mkTI P) (some si)
          · trivial
          · rw [bi_true]
            obtain ⟨e, hse, hue⟩ := srcU8_ok (mkTI_some hsrc) hs8
            cases h2 : asSlc x with
            | none =>
              simp only [oc_none]
              cases hn : isNils x
              · trivial
              · have := isNils_true hn; subst this
                cases hx
                rw [bi_true]
                refine VG.same hr ?_ (.str .empty)
                simp [convert, run_underlying hse, run_underlying hu, run_underlying hue, Conv.bytesToString]
            | some sl =>
              have := asSlc_some h2; subst this
              simp only [oc_some]
              unfold cvBytes
              cases hca : cellsAt h sl.b sl.o sl.len with
              | none => trivial
              | some cs =>
                simp only [oc_some]
                cases hsb : strBytes cs with
                | none => trivial
                | some l =>
                  simp only [oc_some]
                  obtain ⟨cs', c1, c2, c3, c4⟩ := sliceCells (P := P) hr hx (n := sl.len) (size := 1) (Nat.le_refl _) (by simp) hca
                  obtain ⟨bs, hs1, hs2⟩ := strBytes_ok (P := P) hsb c2
                  have hv : VR g (.str l) (.string (bs.foldl ByteArray.push .empty)) := by
                    rw [← hs1]
                    have := VR.str (g := g) (bs.foldl ByteArray.push .empty)
                    rw [push_data] at this
                    exact this
                  refine VG.same hr ?_ hv
                  obtain ⟨B, base, m, ro, hpp, rfl, hro⟩ := hx.slc_form
                  have c1 := c1 w rfl
                  simp only [Builtin.firstCells, Nat.mul_one] at c1
                  simp [convert, run_underlying hse, run_underlying hu, run_underlying hue, Conv.bytesToString, c1, Result.andThen]
                  rw [hs2 _ (fun n s => rfl) .empty w]
      all_goals trivial
end
end Go.Proofs.YtknnaeejkmlnbaaGreatDoor.Kx

/- The evaluator's operations: clear; range over a string. -/
namespace Go.Proofs.YtknnaeejkmlnbaaGreatDoor.Kx
section
variable {P : Program} {B0 : Nat} {g : G} {h : H} {w : World}

theorem clear_good (hr : HR B0 g h w) (hm : ∀ b o, h.m.get b = some o → b < h.next) (t ty : TypeId) (x : AV) (xv : Value) (hx : VR g x xv) : VG P B0 g h w (Builtin.clear_ #[t] ty #[xv]) (xClear (mkTI P) h x (mkTI P t)) := by
  unfold xClear
  cases ht : mkTI P t with
  | none => trivial
  | some ti =>
    have hT := mkTI_some ht
    simp only [oc_some]
    cases hk : ti.kind <;> try trivial
    case slice e =>
      have hu := hT.slice hk
      show VG P B0 g h w _ (oc (bi (isNils x) (.val (.tup []) h) .no) (fun s => oc .no (fun te => clrS h te s) (mkTI P e)) (asSlc x))
      cases h1 : asSlc x with
      | none =>
        simp only [oc_none]
        cases hn : isNils x
        · trivial
        · have := isNils_true hn; subst this
          cases hx
          rw [bi_true]
          exact VG.same hr (v' := .tuple #[]) (by simp [Builtin.clear_, run_underlying hu, Result.andThen]) (.tup [] [] .nil)
      | some sl =>
        have := asSlc_some h1; subst this
        obtain ⟨b, o, n, cp⟩ := sl
        dsimp only at hx ⊢
        simp only [oc_some]
        cases he : mkTI P e with
        | none => trivial
        | some te =>
          simp only [oc_some]
          unfold clrS
          dsimp only
          cases hob : objCells (h.m.get b) with
          | none => trivial
          | some c =>
            simp only [oc_some]
            unfold kUpd
            cases hpu : put o (repl te.zero n) c.1 with
            | none => trivial
            | some r =>
              simp only [oc_some]
              obtain ⟨z, hz, hv, hone, _, _⟩ := (mkTI_some he).zero g
              obtain ⟨B, base, mm, ro, hp, rfl, hro⟩ := hx.slc_form
              obtain ⟨c2, c3⟩ := zeros_VRs hv hone n
              obtain ⟨w1, a1, a2, a3, a4, a5, a6, a7⟩ := (hr.row hob hp).put (P := P) c2 c3 hpu
              refine ⟨.tuple #[], w1, g, ?_, .tup [] [] .nil, Tr.cells hr hm hob hp a2 a3 a4 a5 a6 a7⟩
              cases n with
              | zero =>
                have e0 : ((Array.range (0 * z.cells.size)).map (z.cells[· % z.cells.size]!)).toList = [] := by simp
                rw [e0] at a1
                have : w1 = w := by
                  have a1 : (Result.ok () w : Result Unit) = .ok () w1 := a1
                  injection a1 with _ a1
                  exact a1.symm
                subst this
                simp [Builtin.clear_, run_underlying hu, Result.andThen]
              | succ n =>
                rw [← hro (by omega)] at a1
                have a1 := a1
                simp only [Array.toList_map, Array.toList_range] at a1
                simp [Builtin.clear_, run_underlying hu, Result.andThen, hz, Builtin.zeroCells, a1]
    case map k e =>
      have hu := hT.map hk
      show VG P B0 g h w _ (oc (bi (isNilm x) (.val (.tup []) h) .no) (clrM h) (asMap x))
      cases h1 : asMap x with
      | none =>
        simp only [oc_none]
        cases hn : isNilm x
        · trivial
        · rw [bi_true]
          have : x = .nilm := by cases x <;> first | rfl | cases hn
          subst this
          cases hx
          exact VG.same hr (v' := .tuple #[]) (by simp [Builtin.clear_, run_underlying hu, Result.andThen]) (.tup [] [] .nil)
      | some b =>
        have : x = .map b := by cases x <;> first | (injection h1 with h1; subst h1; rfl) | cases h1
        subst this
        cases hx with | map _ B hp =>
        simp only [oc_some]
        unfold clrM
        cases hob : objMap (h.m.get b) with
        | none => trivial
        | some mp =>
          simp only [oc_some]
          obtain ⟨_, es', e1, e2⟩ := hr.maps b mp.es mp.clock B 0 (objMap_some hob) hp
          refine ⟨.tuple #[], _, g, ?_, .tup [] [] .nil, Tr.map hr hm hob hp [] #[] mp.clock .nil⟩
          simp [Builtin.clear_, run_underlying hu, Result.andThen, run_getMap w B es' mp.clock e1, run_setObj w B es' #[] mp.clock mp.clock e1]
theorem range_good (hr : HR B0 g h w) (hB : B0 ≤ w.heap.size) (hp : g.pos h.next = none) (hgr : g.grow h.next = none) (t : TypeId) (x : AV) (xv : Value) (hx : VR g x xv) : VG P B0 g h w (Instr.range t xv) (xRange h x (mkTI P t)) := by
  unfold xRange
  cases ht : mkTI P t with
  | none => trivial
  | some ti =>
    have hT := mkTI_some ht
    simp only [oc_some]
    cases hks : ti.kind <;> try trivial
    case str =>
      show VG P B0 g h w _ (oc .no (fun l => kNew h (.sit (.s l (nat_lit 0))) fun n => .ptr n 0) (asStr x))
      cases h1 : asStr x with
      | none => trivial
      | some l =>
        have := asStr_some h1; subst this
        obtain ⟨s, rfl, rfl⟩ := hx.str_inv
        simp only [oc_some]
        unfold kNew
        rw [nF_eq]
        refine ⟨.pointer (some ⟨w.heap.size, 0, none⟩), w.alloc (.stringIter s 0), _, ?_, .ptr _ 0 _ 0 (posNew hp none), Tr.alloc hr hB hp hgr _ (.stringIter s 0) none rfl rfl rfl rfl (fun _ _ e => by cases e) (fun _ _ e => by cases e) (fun it e => ?_)⟩
        · simp [Instr.range, run_underlying (hT.str hks), Result.andThen]
        · injection e with e1
          subst e1
          exact .s _ _ s rfl
    case map k e =>
      show VG P B0 g h w _ (oc .no (fun b => oc .no (fun m => kNew h (.sit (.m b m.clock [] m.clock)) fun n => .ptr n 0) (objMap (h.m.get b))) (asMap x))
      cases h1 : asMap x with
      | none => trivial
      | some b =>
        have : x = .map b := by cases x <;> first | (injection h1 with h1; subst h1; rfl) | cases h1
        subst this
        cases hx with | map _ B hpb =>
        simp only [oc_some]
        cases hob : objMap (h.m.get b) with
        | none => trivial
        | some mp =>
          simp only [oc_some]
          obtain ⟨_, es', e1, e2⟩ := hr.maps b mp.es mp.clock B 0 (objMap_some hob) hpb
          have hget : (getObj B).run P w = .ok (.map es' mp.clock) w := by simp [getObj, Sem.run, e1]
          unfold kNew
          rw [nF_eq]
          refine ⟨.pointer (some ⟨w.heap.size, 0, none⟩), w.alloc (.mapIter (some B) mp.clock #[] mp.clock), _, ?_, .ptr _ 0 _ 0 (posNew hp none), Tr.alloc hr hB hp hgr _ (.mapIter (some B) mp.clock #[] mp.clock) none rfl rfl rfl rfl (fun _ _ e => by cases e) (fun _ _ e => by cases e) (fun it e => ?_)⟩
          · simp [Instr.range, run_underlying (hT.map hks), Result.andThen, hget]
          · injection e with e1
            subst e1
            exact .m b B _ [] _ ((G.add_le g h.next w.heap.size 0 none hp hgr).pos _ _ hpb)
theorem objSit_some {o : Option AObj} {s : It} (h : objSit o = some s) : o = some (.sit s) := by
  cases o with
  | none => cases h
  | some o => cases o <;> first | (injection h with h; subst h; rfl) | cases h
theorem byteL_at {l : List UInt8} {i n : Nat} (h : (byteL l)[i]? = some n) : ∃ c, l[i]? = some c ∧ n = c.toNat := by
  induction l generalizing i with
  | nil => cases h
  | cons c r ih =>
    cases i with
    | zero => replace h : some c.toNat = some n := h; injection h with h; exact ⟨c, rfl, h.symm⟩
    | succ i => exact ih (i := i) h
theorem memN_eq (n : Nat) : ∀ l : List Nat, memN n l = l.contains n
  | [] => rfl
  | x :: r => by
    show bi (Nat.beq x n) true (memN n r) = _
    rw [memN_eq n r, List.contains_cons]
    by_cases e : x = n
    · subst e; simp [bi_true]
    · have h1 : Nat.beq x n = false := by cases h : Nat.beq x n <;> first | rfl | exact absurd (Nat.eq_of_beq_eq_true h) e
      have h2 : (n == x) = false := by simpa using fun e' : n = x => e e'.symm
      rw [h1, bi_false, h2, Bool.false_or]
theorem nilN_eq (l : List Nat) : nilN l = l.isEmpty := by cases l <;> rfl
theorem next_good (hr : HR B0 g h w) (hm : ∀ b o, h.m.get b = some o → b < h.next) (ty : TypeId) (x : AV) (xv : Value) (hx : VR g x xv) (isS : Bool) : VG P B0 g h w (Instr.next xv isS ty) (xNext h x isS) := by
  unfold xNext
  cases h1 : asPtr x with
  | none => trivial
  | some p =>
    obtain ⟨b, o⟩ := p
    have := asPtr_some h1; subst this
    simp only [oc_some]
    cases ho : Nat.beq o 0
    · trivial
    have := Nat.eq_of_beq_eq_true ho; subst this
    simp only [bi_true]
    cases hob : objSit (h.m.get b) with
    | none => trivial
    | some s =>
      simp only [oc_some]
      have hg := objSit_some hob
      cases hx with | ptr _ _ B base hp =>
      obtain ⟨rfl, ob, e1, e2⟩ := hr.sits b s B base hg hp
      have hB : B < w.heap.size := (Array.getElem?_eq_some_iff.1 e1).1
      have over : ∀ k, (Instr.next (.pointer (some ⟨B, 0 + 0, none⟩)) isS ty).run P w = .ok (.tuple #[.bool false]) w → VG P B0 g h w (Instr.next (.pointer (some ⟨B, 0 + 0, none⟩)) isS ty) (.val (.tup [.bool false]) k) ∨ k ≠ h := fun k hk => by
        by_cases e : k = h
        · subst e
          exact .inl (VG.same hr (v' := .tuple #[.bool false]) hk (.tup _ [.bool false] (.cons _ _ _ _ (.bool _) .nil)))
        · exact .inr e
      cases e2 with
      | s l pos str e2 =>
        show VG P B0 g h w _ (bi isS (nx1 h b ⟨l, pos⟩) .no)
        cases isS
        · trivial
        rw [bi_true]
        unfold nx1
        rw [idx_eq]
        dsimp only
        have hlen : l.length = str.size := by rw [e2, byteL_length]; simp
        have hget : (getObj B).run P w = .ok (.stringIter str pos) w := by simp [getObj, Sem.run, e1]
        cases hi : l[pos]? with
        | none =>
          have hge : ¬ pos < str.size := by
            have := List.getElem?_eq_none_iff.1 hi
            omega
          simp only [oc_none]
          refine VG.same hr (v' := .tuple #[.bool false]) ?_ (.tup _ [.bool false] (.cons _ _ _ _ (.bool _) .nil))
          simp [Instr.next, hget, hge, Result.andThen]
        | some c =>
          simp only [oc_some]
          cases hc : Nat.blt c 128
          · trivial
          · rw [bi_true, nF_eq]
            have hc : c < 128 := by simpa [Nat.blt_eq] using hc
            have hlt : pos < str.size := by
              have := (List.getElem?_eq_some_iff.1 hi).1
              omega
            obtain ⟨c8, e3, e4⟩ := byteL_at (by rw [← e2]; exact hi)
            have hdec : Utf8.decode str pos = (c, 1) := by
              have hb : (str.get! (pos + 0)).toNat = c := by
                rw [e4]
                have : str.get! (pos + 0) = c8 := by
                  have h3 : str.data[pos]? = some c8 := by simpa using e3
                  show str.data[pos + 0]! = c8
                  rw [Nat.add_zero, Array.getElem!_eq_getD, Array.getD_eq_getD_getElem?, h3]
                  rfl
                rw [this]
              unfold Utf8.decode
              simp only [hb]
              rw [if_pos (by omega)]
            have hset : (setObj B (.stringIter str (pos + 1))).run P w = .ok () (wset w B (.stringIter str (pos + 1))) := by simp [setObj, Sem.run, e1, wset]
            refine ⟨.tuple #[.bool true, goInt pos, .int .i32 c], wset w B (.stringIter str (pos + 1)), g, ?_, .tup _ [.bool true, goInt pos, .int .i32 c] (.cons _ _ _ _ (.bool _) (.cons _ _ _ _ (.int _ _) (.cons _ _ _ _ (.int _ _) .nil))), ?_⟩
            · simp [Instr.next, hget, hlt, hdec, hset, Result.andThen]
            · refine Tr.write hr b B 0 ⟨_, hg, by simp⟩ (hm _ _ hg) hp _ (fun B' hB' => wset_other _ _ _ _ hB') (wset_size _ _ _) rfl rfl rfl (fun _ _ e => by cases e) (fun _ _ e => by cases e) (fun it e => ?_)
              injection e with e5
              subst e5
              exact ⟨rfl, _, wset_same _ _ _ hB, .s _ _ str e2⟩
      | b m M t hpm => trivial
      | m mb M since seen last hpm =>
        show VG P B0 g h w _ (bi isS .no (oc .no (nxM h b mb since seen last) (objMap (h.m.get mb))))
        cases isS
        case true => trivial
        rw [bi_false]
        cases hom : objMap (h.m.get mb) with
        | none => trivial
        | some mp =>
          simp only [oc_some]
          obtain ⟨_, es', m1, m2⟩ := hr.maps mb mp.es mp.clock M 0 (objMap_some hom) hpm
          have hget : (getObj B).run P w = .ok (.mapIter (some M) since seen.toArray last) w := by simp [getObj, Sem.run, e1]
          have hgetM : (getObj M).run P w = .ok (.map es' mp.clock) w := by simp [getObj, Sem.run, m1]
          obtain ⟨es, clock⟩ := mp
          dsimp only at m1 m2 hgetM ⊢
          cases es with
          | nil =>
            have : es' = #[] := by cases hl : es'.toList with
              | nil => exact Array.toList_eq_nil_iff.1 hl
              | cons _ _ => rw [hl] at m2; cases m2
            subst this
            show VG P B0 g h w _ (.val (.tup [.bool false]) h)
            refine VG.same hr (v' := .tuple #[.bool false]) ?_ (.tup _ [.bool false] (.cons _ _ _ _ (.bool _) .nil))
            simp [Instr.next, hget, hgetM, Result.andThen, choose, Sem.run, Question.forced]
          | cons e r =>
            cases r with
            | cons _ _ => trivial
            | nil =>
              obtain ⟨k, v, n⟩ := e
              show VG P B0 g h w _ (nxE h b mb since seen last clock (k, v, n))
              unfold nxE
              dsimp only
              obtain ⟨k', v', hes, hk, hv⟩ : ∃ k' v', es' = #[⟨k', v', n⟩] ∧ VR g k k' ∧ VR g v v' := by
                generalize hl : es'.toList = l at m2
                cases m2 with
                | cons _ _ _ k' v' _ l' hk hv hs =>
                  cases hs
                  exact ⟨k', v', by have := congrArg List.toArray hl; simpa using this, hk, hv⟩
              subst hes
              rw [memN_eq, nilN_eq]
              cases hs : seen.contains n
              · rw [bi_false]
                cases hq : bi seen.isEmpty true (Nat.blt n last)
                · trivial
                rw [bi_true]
                cases hn : Nat.blt n since
                · trivial
                rw [bi_true]
                have hs' : n ∉ seen := by simpa using hs
                have hn' : n < since := by simpa [Nat.blt_eq] using hn
                have hn2 : ¬ since ≤ n := by omega
                have hf : ¬ (¬ seen = [] ∧ last ≤ n) := by
                  cases he : seen.isEmpty
                  · rw [he, bi_false] at hq
                    have : n < last := by simpa [Nat.blt_eq] using hq
                    omega
                  · intro h
                    exact h.1 (by simpa using he)
                have hset : (setObj B (.mapIter (some M) since (seen ++ [n]).toArray clock)).run P w = .ok () (wset w B (.mapIter (some M) since (seen ++ [n]).toArray clock)) := by simp [setObj, Sem.run, e1, wset]
                refine ⟨.tuple #[.bool true, k', v'], wset w B (.mapIter (some M) since (seen ++ [n]).toArray clock), g, ?_, .tup _ [.bool true, k', v'] (.cons _ _ _ _ (.bool _) (.cons _ _ _ _ hk (.cons _ _ _ _ hv .nil))), ?_⟩
                · simp [Instr.next, hget, hgetM, hf, hs', hn', hn2, hset, Result.andThen, choose, Sem.run, Question.forced]
                · refine Tr.write hr b B 0 ⟨_, hg, by simp⟩ (hm _ _ hg) hp _ (fun B' hB' => wset_other _ _ _ _ hB') (wset_size _ _ _) rfl rfl rfl (fun _ _ e => by cases e) (fun _ _ e => by cases e) (fun it e => ?_)
                  injection e with e5
                  subst e5
                  refine ⟨rfl, _, wset_same _ _ _ hB, ?_⟩
                  have := IR.m (g := g) mb M since (app seen [n]) clock hpm
                  rw [app_eq] at this ⊢
                  simpa using this
              · rw [bi_true]
                cases hn : Nat.blt n last
                · trivial
                · rw [bi_true]
                  have hn' : n < last := by simpa [Nat.blt_eq] using hn
                  have hs' : n ∈ seen := by simpa using hs
                  have hf : ¬ (¬ seen = [] ∧ last ≤ n) := by omega
                  refine VG.same hr (v' := .tuple #[.bool false]) ?_ (.tup _ [.bool false] (.cons _ _ _ _ (.bool _) .nil))
                  simp [Instr.next, hget, hgetM, hf, hs', Result.andThen, choose, Sem.run, Question.forced]

theorem lastN_eq : ∀ l : List Nat, lastN l = l.getLast?
  | [] => rfl
  | [x] => rfl
  | x :: y :: r => by
    show oc (some x) (fun y => some y) (lastN (y :: r)) = _
    rw [lastN_eq (y :: r), List.getLast?_cons_cons, List.getLast?_cons]
    rfl
theorem findE_ER {n : Nat} : ∀ {es : List (AV × AV × Nat)} {es' : List MapEntry} {e : AV × AV}, findE n es = some e → ER g es es' → ∃ e', es'.find? (fun x => x.born == n) = some e' ∧ VR g e.1 e'.key ∧ VR g e.2 e'.val
  | [], _, _, h, _ => by cases h
  | x :: r, _, e, h, hr => by
    cases hr with | cons k v m k' v' _ l' hk hv hs =>
    replace h : bi (Nat.beq m n) (some (k, v)) (findE n r) = some e := h
    cases hb : Nat.beq m n
    · rw [hb, bi_false] at h
      obtain ⟨e', h1, h2⟩ := findE_ER h hs
      have hne : (m == n) = false := by simpa using Nat.ne_of_beq_eq_false hb
      exact ⟨e', by rw [List.find?_cons]; simp only [hne]; exact h1, h2⟩
    · rw [hb, bi_true] at h
      injection h with h
      subst h
      have hne : (m == n) = true := by simpa using Nat.eq_of_beq_eq_true hb
      exact ⟨⟨k', v', m⟩, by rw [List.find?_cons]; simp only [hne], hk, hv⟩
theorem entry_good (hr : HR B0 g h w) (x : AV) (xv : Value) (hx : VR g x xv) : VG P B0 g h w (Instr.entry xv) (xEntry h x) := by
  unfold xEntry
  cases h1 : asPtr x with
  | none => trivial
  | some p =>
    obtain ⟨b, o⟩ := p
    have := asPtr_some h1; subst this
    simp only [oc_some]
    cases ho : Nat.beq o 0
    · trivial
    have := Nat.eq_of_beq_eq_true ho; subst this
    simp only [bi_true]
    cases hob : objSit (h.m.get b) with
    | none => trivial
    | some s =>
      simp only [oc_some]
      have hg := objSit_some hob
      cases hx with | ptr _ _ B base hp =>
      obtain ⟨rfl, ob, e1, e2⟩ := hr.sits b s B base hg hp
      cases e2 with
      | s l pos str e2 => trivial
      | b m M t hpm => trivial
      | m mb M since seen last hpm =>
        show VG P B0 g h w _ (oc .no (fun n => oc .no (enM h last n) (objMap (h.m.get mb))) (lastN seen))
        cases hl : lastN seen with
        | none => trivial
        | some n =>
          simp only [oc_some]
          cases hom : objMap (h.m.get mb) with
          | none => trivial
          | some mp =>
            simp only [oc_some]
            obtain ⟨_, es', m1, m2⟩ := hr.maps mb mp.es mp.clock M 0 (objMap_some hom) hpm
            unfold enM
            cases hc : Nat.beq mp.clock last
            · trivial
            have hc := Nat.eq_of_beq_eq_true hc
            rw [bi_true]
            cases hf : findE n mp.es with
            | none => trivial
            | some e =>
              simp only [oc_some]
              obtain ⟨e', f1, f2, f3⟩ := findE_ER hf m2
              have hget : (getObj B).run P w = .ok (.mapIter (some M) since seen.toArray last) w := by simp [getObj, Sem.run, e1]
              have hgetM : (getObj M).run P w = .ok (.map es' mp.clock) w := by simp [getObj, Sem.run, m1]
              have hback : seen.toArray.back? = some n := by rw [← hl, lastN_eq]; simp
              have hfind : es'.find? (fun x => x.born == n) = some e' := by rw [← f1]; simp
              refine VG.same hr (v' := .tuple #[e'.key, e'.val]) ?_ (.tup _ [e'.key, e'.val] (.cons _ _ _ _ f2 (.cons _ _ _ _ f3 .nil)))
              simp [Instr.entry, hget, hgetM, hback, hfind, hc, Result.andThen]

end
end Go.Proofs.YtknnaeejkmlnbaaGreatDoor.Kx

/- All operations of the evaluator. -/
namespace Go.Proofs.YtknnaeejkmlnbaaGreatDoor.Kx
section
variable {P : Program} {B0 : Nat} {g : G} {h : H} {w : World}

/-- An operation's goodness. -/
def OG (P : Program) (B0 : Nat) (g : G) (h : H) (w : World) (s : Sem Next) : XR → Prop
  | .no => True
  | .val v h' => ∃ n w' g' v', s.run P w = .ok n w' ∧ (n = .value v' ∨ (n = .skip ∧ v' = undef)) ∧ VR g' v v' ∧ Tr B0 g h w g' h' w'
  | .call f args h' => h' = h ∧ ∃ args' : List Value, VRs g args args' ∧ s.run P w = (callFunc f args'.toArray).run P w
theorem OG.of_VG {s : Sem Value} {r : XR} (hv0 : VG P B0 g h w s r) : OG P B0 g h w (do pure (.value (← s))) r := by
  cases r with
  | no => trivial
  | val v h' =>
    obtain ⟨v', w', g', e, hv, ht⟩ := hv0
    exact ⟨.value v', w', g', v', by simp [e, Result.andThen], .inl rfl, hv, ht⟩
  | call _ _ _ => exact hv0.elim
theorem OG.of_UG {s : Sem Unit} {r : XR} (hv0 : UG P B0 g h w s r) : OG P B0 g h w (do s; pure .skip) r := by
  cases r with
  | no => trivial
  | val v h' =>
    obtain ⟨rfl, w', e, g', ht⟩ := hv0
    exact ⟨.skip, w', g', undef, by simp [e, Result.andThen], .inr ⟨rfl, rfl⟩, .tup [] [] .nil, ht⟩
  | call _ _ _ => exact hv0.elim
theorem hd2_cases {α : Type} (k : α → α → XR) (l : List α) : hd2 k l = .no ∨ ∃ x y, l = [x, y] ∧ hd2 k l = k x y := by
  cases l with
  | nil => exact .inl rfl
  | cons x r => cases r with
    | nil => exact .inl rfl
    | cons y s => cases s with
      | nil => exact .inr ⟨x, y, rfl, rfl⟩
      | cons _ _ => exact .inl rfl
theorem hd1_cases {α : Type} (k : α → XR) (l : List α) : hd1 k l = .no ∨ ∃ x, l = [x] ∧ hd1 k l = k x := by
  cases l with
  | nil => exact .inl rfl
  | cons x r => cases r with
    | nil => exact .inr ⟨x, rfl, rfl⟩
    | cons _ _ => exact .inl rfl
theorem evL_VRs {a : Tm} {ρ : Operand → Value} : ∀ (l : List Operand), (∀ x ∈ l, VR g (ev x a) (ρ x)) → VRs g (evL l a) (l.map ρ)
  | [], _ => .nil
  | x :: r, h => .cons _ _ _ _ (h x (List.mem_cons_self)) (evL_VRs r (fun y hy => h y (List.mem_cons_of_mem _ hy)))
theorem prs_PRs {a : Tm} {ρ : Operand → Value} : ∀ (l : List (Nat × Operand)), (∀ p ∈ l, VR g (ev p.2 a) (ρ p.2)) → PRs g (prs l a) (l.map fun p => (p.1, ρ p.2))
  | [], _ => .nil
  | (i, x) :: r, h => .cons _ _ _ _ _ (h (i, x) (List.mem_cons_self)) (prs_PRs r (fun y hy => h y (List.mem_cons_of_mem _ hy)))
theorem evO_OR {a : Tm} {ρ : Operand → Value} (o : Option Operand) (h : ∀ x, o = some x → VR g (ev x a) (ρ x)) : OR g (evO o a) (o.map ρ) := by
  cases o with
  | none => exact .none
  | some x => exact .some _ _ (h x rfl)
theorem builtin_good (hr : HR B0 g h w) (hB : B0 ≤ w.heap.size) (hm : ∀ b o, h.m.get b = some o → b < h.next) (hp : g.pos h.next = none) (hgr : g.grow h.next = none) (b : Builtin) (ts : Array TypeId) (ty : TypeId) (cs : Array Bool) (l : List AV) (l' : List Value) (hl : VRs g l l') :
    OG P B0 g h w (builtin b ts ty cs l'.toArray) (xBuiltin b (mkTI P) h ts.toList l) := by
  cases b <;> try trivial
  case len =>
    show OG P B0 g h w _ (hd1 (fun x => hd1 (fun t => xLen x h (mkTI P t)) ts.toList) l)
    rcases hd1_cases (fun x => hd1 (fun t => xLen x h (mkTI P t)) ts.toList) l with e | ⟨x, rfl, e⟩
    · rw [e]; trivial
    · rw [e]
      rcases hd1_cases (fun t => xLen x h (mkTI P t)) ts.toList with e | ⟨t, ht, e⟩
      · rw [e]; trivial
      · rw [e]
        cases hl with | cons _ xv _ _ hx hs =>
        cases hs
        have : ts = #[t] := by cases ts; simp at ht; rw [ht]
        subst this
        exact OG.of_VG (len_good hr t ty x xv hx)
  case append =>
    show OG P B0 g h w _ (hd2 (fun s x => hd2 (fun t u => bi (notInt (mkTI P u)) (xAppend (mkTI P) h s x (elemT (mkTI P t))) .no) ts.toList) l)
    rcases hd2_cases (fun s x => hd2 (fun t u => bi (notInt (mkTI P u)) (xAppend (mkTI P) h s x (elemT (mkTI P t))) .no) ts.toList) l with e | ⟨s, x, rfl, e⟩
    · rw [e]; trivial
    · rw [e]
      rcases hd2_cases (fun t u => bi (notInt (mkTI P u)) (xAppend (mkTI P) h s x (elemT (mkTI P t))) .no) ts.toList with e | ⟨t, u, ht, e⟩
      · rw [e]; trivial
      · rw [e]
        cases hl with | cons _ sv _ _ hs hl =>
        cases hl with | cons _ xv _ _ hx hl =>
        cases hl
        have : ts = #[t, u] := by cases ts; simp at ht; rw [ht]
        subst this
        exact OG.of_VG (append_good hr hB hm hp hgr t u ty s x sv xv hs hx)
  case copy =>
    show OG P B0 g h w _ (hd2 (fun d s => hd2 (fun t _ => xCopy h d s (oc none (szOf (mkTI P)) (elemT (mkTI P t)))) ts.toList) l)
    rcases hd2_cases (fun d s => hd2 (fun t _ => xCopy h d s (oc none (szOf (mkTI P)) (elemT (mkTI P t)))) ts.toList) l with e | ⟨d, s, rfl, e⟩
    · rw [e]; trivial
    · rw [e]
      rcases hd2_cases (fun t _ => xCopy h d s (oc none (szOf (mkTI P)) (elemT (mkTI P t)))) ts.toList with e | ⟨t, u, ht, e⟩
      · rw [e]; trivial
      · rw [e]
        cases hl with | cons _ dv _ _ hd hl =>
        cases hl with | cons _ sv _ _ hs hl =>
        cases hl
        have : ts = #[t, u] := by cases ts; simp at ht; rw [ht]
        subst this
        exact OG.of_VG (copy_good hr hm t u ty d s dv sv hd hs)
  case delete =>
    show OG P B0 g h w _ (hd2 (fun m k => hd2 (fun t _ => xDelete (mkTI P) h k m (mapT (mkTI P t))) ts.toList) l)
    rcases hd2_cases (fun m k => hd2 (fun t _ => xDelete (mkTI P) h k m (mapT (mkTI P t))) ts.toList) l with e | ⟨m, k, rfl, e⟩
    · rw [e]; trivial
    · rw [e]
      rcases hd2_cases (fun t _ => xDelete (mkTI P) h k m (mapT (mkTI P t))) ts.toList with e | ⟨t, u, ht, e⟩
      · rw [e]; trivial
      · rw [e]
        cases hl with | cons _ mv _ _ hmv hl =>
        cases hl with | cons _ kv _ _ hk hl =>
        cases hl
        have : ts = #[t, u] := by cases ts; simp at ht; rw [ht]
        subst this
        exact OG.of_VG (delete_good hr hm t ty u m k mv kv hmv hk)
  case clear =>
    show OG P B0 g h w _ (hd1 (fun x => hd1 (fun t => xClear (mkTI P) h x (mkTI P t)) ts.toList) l)
    rcases hd1_cases (fun x => hd1 (fun t => xClear (mkTI P) h x (mkTI P t)) ts.toList) l with e | ⟨x, rfl, e⟩
    · rw [e]; trivial
    · rw [e]
      rcases hd1_cases (fun t => xClear (mkTI P) h x (mkTI P t)) ts.toList with e | ⟨t, ht, e⟩
      · rw [e]; trivial
      · rw [e]
        cases hl with | cons _ xv _ _ hx hl =>
        cases hl
        have : ts = #[t] := by cases ts; simp at ht; rw [ht]
        subst this
        exact OG.of_VG (clear_good hr hm t ty x xv hx)
  case max =>
    show OG P B0 g h w _ (hd2 (xMax h) l)
    rcases hd2_cases (xMax h) l with e | ⟨x, y, rfl, e⟩
    · rw [e]; trivial
    · rw [e]
      cases hl with | cons _ xv _ _ hx hl =>
      cases hl with | cons _ yv _ _ hy hl =>
      cases hl
      exact OG.of_VG (max_good hr ts ty x y xv yv hx hy)
  case min =>
    show OG P B0 g h w _ (hd2 (xMin h) l)
    rcases hd2_cases (xMin h) l with e | ⟨x, y, rfl, e⟩
    · rw [e]; trivial
    · rw [e]
      cases hl with | cons _ xv _ _ hx hl =>
      cases hl with | cons _ yv _ _ hy hl =>
      cases hl
      exact OG.of_VG (min_good hr ts ty x y xv yv hx hy)

theorem isFunc_some {f : Fn} (h : isFunc f = true) : ∃ i, f = .func i := by cases f <;> first | exact ⟨_, rfl⟩ | cases h
theorem nilCheck_good (hr : HR B0 g h w) (x : AV) (xv : Value) (hx : VR g x xv) {ρ : Operand → Value} {o : Oper} {y : Operand} (ho : o.op = .nilCheck y) (hy : ρ y = xv) : OG P B0 g h w (execOp ρ o) (xNilCheck h x) := by
  unfold xNilCheck
  cases hn : notNil x
  · trivial
  · rw [bi_true]
    have hval : (execOp ρ o).run P w = .ok (.value xv) w := by
      unfold execOp
      simp only [ho, hy]
      cases hx <;> first | (cases hn; done) | rfl | skip
      rename_i f a b a' b' h1 h2
      obtain ⟨i, rfl⟩ := isFunc_some hn
      rfl
    exact ⟨.value xv, w, g, xv, hval, .inl rfl, hx, .refl hr⟩
theorem fnId_some {f : Fn} {i : FuncId} (h : fnId f = some i) : f = .func i := by cases f <;> first | (injection h with h; subst h; rfl) | cases h
set_option maxHeartbeats 1000000 in
theorem xop_good (hr : HR B0 g h w) (hB : B0 ≤ w.heap.size) (hm : ∀ b o, h.m.get b = some o → b < h.next) (hp : g.pos h.next = none) (hgr : g.grow h.next = none) (o : Oper) (a : Tm) (ρ : Operand → Value) (he : ∀ x ∈ o.op.operands, VR g (ev x a) (ρ x)) :
    OG P B0 g h w (execOp ρ o) (xop o.op (mkTI P) a h) := by
  cases ho : o.op <;> rw [ho] at he <;> try trivial
  case move x =>
    have h1 := he x (by simp [Op.operands])
    exact ⟨.value (ρ x), w, g, ρ x, by simp [execOp, ho], .inl rfl, h1, .refl hr⟩
  case assign x =>
    have h1 := he x (by simp [Op.operands])
    exact ⟨.value (ρ x), w, g, ρ x, by simp [execOp, ho], .inl rfl, h1, .refl hr⟩
  case pick c x y =>
    have hc := he c (by simp [Op.operands])
    have hx := he x (by simp [Op.operands])
    have hy := he y (by simp [Op.operands])
    show OG P B0 g h w _ (oc .no (fun b => .val (bi b (ev x a) (ev y a)) h) (asBool (ev c a)))
    generalize ev c a = ca at hc
    generalize hcv : ρ c = cv at hc
    cases h1 : asBool ca with
    | none => trivial
    | some b =>
      have := asBool_some h1; subst this
      cases hc
      cases b
      · exact ⟨.value (ρ y), w, g, ρ y, by simp [execOp, ho, hcv, Go.asBool], .inl rfl, hy, .refl hr⟩
      · exact ⟨.value (ρ x), w, g, ρ x, by simp [execOp, ho, hcv, Go.asBool], .inl rfl, hx, .refl hr⟩
  case alloc e => simp only [execOp, ho]; exact OG.of_VG (alloc_good hr hB hp hgr e)
  case box e x => simp only [execOp, ho]; exact OG.of_VG (box_good hr hB hp hgr e _ _ (he x (by simp [Op.operands])))
  case build t ps =>
    simp only [execOp, ho]
    refine OG.of_VG (build_good hr t _ _ ?_)
    rw [Array.toList_map]
    exact prs_PRs _ (fun p hp => he p.2 (by simp [Op.operands]; exact ⟨p.1, by simpa using hp⟩))
  case buildSlice t n ps =>
    simp only [execOp, ho]
    refine OG.of_VG (buildSlice_good hr hB hp hgr t n _ _ ?_)
    rw [Array.toList_map]
    exact prs_PRs _ (fun p hp => he p.2 (by simp [Op.operands]; exact ⟨p.1, by simpa using hp⟩))
  case insert t m k v => simp only [execOp, ho]; exact OG.of_UG (mapUpdate_good hr hm t _ _ _ _ _ _ (he m (by simp [Op.operands])) (he k (by simp [Op.operands])) (he v (by simp [Op.operands])))
  case load t x => simp only [execOp, ho]; exact OG.of_VG (load_good hr t _ _ (he x (by simp [Op.operands])))
  case store t x y => simp only [execOp, ho]; exact OG.of_UG (store_good hr hm t _ _ _ _ (he x (by simp [Op.operands])) (he y (by simp [Op.operands])))
  case nilCheck x => exact nilCheck_good hr _ _ (he x (by simp [Op.operands])) ho rfl
  case binOp op t x y u => simp only [execOp, ho]; exact OG.of_VG (binop_good hr op t _ _ _ _ _ _ (he x (by simp [Op.operands])) (he y (by simp [Op.operands])))
  case unOp op t x => simp only [execOp, ho]; exact OG.of_VG (unop_good hr op _ _ (he x (by simp [Op.operands])))
  case convert s d x => simp only [execOp, ho]; exact OG.of_VG (convert_good hr s d _ _ (he x (by simp [Op.operands])))
  case makeFunc f x y =>
    have h1 : VRs g (evL x.toList a) (x.toList.map ρ) := evL_VRs _ (fun z hz => he z (by simp [Op.operands]; left; simpa using hz))
    have h2 : VRs g (evL y.toList a) (y.toList.map ρ) := evL_VRs _ (fun z hz => he z (by simp [Op.operands]; right; simpa using hz))
    refine ⟨.value (.func f (x.map ρ) (y.map ρ)), w, g, _, by simp [execOp, ho, Instr.makeFunc], .inl rfl, ?_, .refl hr⟩
    have := VR.fn (g := g) f _ _ _ _ h1 h2
    have e1 : (x.toList.map ρ).toArray = x.map ρ := Array.ext' (by simp)
    have e2 : (y.toList.map ρ).toArray = y.map ρ := Array.ext' (by simp)
    rw [e1, e2] at this
    exact this
  case makeMap t r =>
    cases r with
    | some x => trivial
    | none =>
      unfold execOp
      rw [ho]
      exact OG.of_VG (makeMap_good hr hB hp hgr t)
  case makeSlice t l c => simp only [execOp, ho]; exact OG.of_VG (makeSlice_good hr hB hp hgr t _ _ _ _ (he l (by simp [Op.operands])) (he c (by simp [Op.operands])))
  case slice t x lo hi mx =>
    simp only [execOp, ho]
    exact OG.of_VG (slice_good hr t _ _ (he x (by simp [Op.operands])) _ _ _ _ _ _ (evO_OR lo (fun y hy => he y (by subst hy; simp [Op.operands]))) (evO_OR hi (fun y hy => he y (by subst hy; simp [Op.operands]))) (evO_OR mx (fun y hy => he y (by subst hy; simp [Op.operands]))))
  case fieldAddr t x f => simp only [execOp, ho]; exact OG.of_VG (fieldAddr_good hr t f _ _ (he x (by simp [Op.operands])))
  case field t x f => simp only [execOp, ho]; exact OG.of_VG (field_good hr t f _ _ (he x (by simp [Op.operands])))
  case indexAddr t x i => simp only [execOp, ho]; exact OG.of_VG (indexAddr_good hr t _ _ _ _ (he x (by simp [Op.operands])) (he i (by simp [Op.operands])))
  case index t x i => simp only [execOp, ho]; exact OG.of_VG (index_good hr t _ _ _ _ (he x (by simp [Op.operands])) (he i (by simp [Op.operands])))
  case lookup t x i ok => simp only [execOp, ho]; exact OG.of_VG (lookup_good hr t ok _ _ _ _ (he x (by simp [Op.operands])) (he i (by simp [Op.operands])))
  case mapUpdate t m k v => simp only [execOp, ho]; exact OG.of_UG (mapUpdate_good hr hm t _ _ _ _ _ _ (he m (by simp [Op.operands])) (he k (by simp [Op.operands])) (he v (by simp [Op.operands])))
  case mapEntry t m k => simp only [execOp, ho]; exact OG.of_VG (mapEntry_good hr hm t _ _ _ _ (he m (by simp [Op.operands])) (he k (by simp [Op.operands])))
  case entryStore t m s v => simp only [execOp, ho]; exact OG.of_UG (entryStore_good hr hm t _ _ _ _ _ _ (he m (by simp [Op.operands])) (he s (by simp [Op.operands])) (he v (by simp [Op.operands])))
  case range t x => simp only [execOp, ho]; exact OG.of_VG (range_good hr hB hp hgr t _ _ (he x (by simp [Op.operands])))
  case next x s => simp only [execOp, ho]; exact OG.of_VG (next_good hr hm o.type _ _ (he x (by simp [Op.operands])) s)
  case entry x => simp only [execOp, ho]; exact OG.of_VG (entry_good hr _ _ (he x (by simp [Op.operands])))
  case extract x i => simp only [execOp, ho]; exact OG.of_VG (extract_good hr _ _ (he x (by simp [Op.operands])) i)
  case call c =>
    obtain ⟨callee, args, ts⟩ := c
    have hargs : VRs g (evL args.toList a) (args.toList.map ρ) := evL_VRs _ (fun x hx => he x (by simp [Op.operands, Call.operands]; right; simpa using hx))
    cases callee with
    | invoke r m => trivial
    | builtin b =>
      have := builtin_good (P := P) hr hB hm hp hgr b ts o.type (args.map fun | .const _ => true | _ => false) _ _ hargs
      have e : execOp ρ o = builtin b ts o.type (args.map fun | .const _ => true | _ => false) (args.toList.map ρ).toArray := by
        simp only [execOp, ho, resolve, invoke]
        have : (args.toList.map ρ).toArray = args.map ρ := Array.ext' (by simp)
        rw [this]
        rfl
      rw [e]
      exact this
    | value f =>
      have hf := he f (by simp [Op.operands, Call.operands])
      show OG P B0 g h w _ (callV (ev f a) (evL args.toList a) h)
      generalize hfe : ev f a = fa at hf
      generalize hfv : ρ f = fv at hf
      cases hf <;> try trivial
      rename_i ff xs ys xs' ys' h1 h2
      show OG P B0 g h w _ (oc .no (fun f => .call f (app xs (app (evL args.toList a) ys)) h) (fnId ff))
      cases hid : fnId ff with
      | none => trivial
      | some i =>
        have := fnId_some hid; subst this
        refine ⟨rfl, xs' ++ (args.toList.map ρ ++ ys'), ?_, ?_⟩
        · rw [app_eq, app_eq]
          exact h1.append (hargs.append h2)
        · have e : (xs' ++ (List.map ρ args.toList ++ ys')).toArray = xs'.toArray ++ (Array.map ρ args ++ ys'.toArray) := Array.ext' (by simp)
          rw [e]
          simp only [execOp, ho, resolve, hfv, Deferred.ofValue, invoke]
          simp
theorem callFunc_enter {f : FuncId} {fn : Func} (hf : P.funcs[f]? = some fn) (hn : (fn.name == "runtime.NumGoroutine") = false) (hb : fn.body.isSome = true) (args : Array Value) (w : World) : (callFunc f args).run P w = .ok (.enter f args) w := by
  have hn' : ¬ fn.name = "runtime.NumGoroutine" := by simpa using hn
  have hb' : ¬ fn.body = none := by intro e; rw [e] at hb; cases hb
  simp [callFunc, hf, hn', hb', Result.andThen]
end
end Go.Proofs.YtknnaeejkmlnbaaGreatDoor.Kx
