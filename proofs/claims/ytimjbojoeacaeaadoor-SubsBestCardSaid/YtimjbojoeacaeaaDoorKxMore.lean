/- The evaluator's operations: pieces of slices, conversions, lengths, lookups. -/
import Derived.Test.YtimjbojoeacaeaaDoorKxNew
namespace Go.Proofs.YtimjbojoeacaeaaDoor.Kx
section
variable {P : Program} {B0 : Nat} {g : G} {h : H} {w : World}

theorem pick_good (hr : HR B0 g h w) (c x y : AV) (cv xv yv : Value) (hc : VR g c cv) (hx : VR g x xv) (hy : VR g y yv) : VG P B0 g h w (do pure (if ← Go.asBool cv then xv else yv)) (xPick h c x y) := by
  unfold xPick
  cases h1 : asBool c with
  | none => trivial
  | some b =>
    have := asBool_some h1; subst this
    cases hc
    simp only [oc_some]
    cases b
    · exact VG.same hr (by simp [Go.asBool]) hy
    · exact VG.same hr (by simp [Go.asBool]) hx
theorem sliceBound_ok (w : World) (k : IntKind) (i y : Nat) (code : BoundsCode) (hi : i ≤ y) : (Instr.sliceBound (.int k i) y code).run P w = .ok i w := by
  have h1 : (0 : Int) ≤ (i : Int) ∧ (i : Int) ≤ (y : Int) := by omega
  simp [Instr.sliceBound, Go.asIntOf, h1]
theorem optNat_some {d n : Nat} {o : Option AV} (e : optNat d o = some n) : (o = none ∧ n = d) ∨ ∃ k, o = some (.int k n) := by
  cases o with
  | none => injection e with e; exact .inl ⟨rfl, e.symm⟩
  | some v => obtain ⟨k, rfl⟩ := intNat_some e; exact .inr ⟨k, rfl⟩
inductive OR (g : G) : Option AV → Option Value → Prop where
  | none : OR g none none
  | some (v : AV) (v' : Value) (h : VR g v v') : OR g (some v) (some v')
theorem boundsX (len cap l u : Nat) (hlu : l ≤ u) (huc : u ≤ cap) (w : World) : (Instr.sliceBounds true len cap (some (.int .i64 l)) (some (.int .i64 u)) none).run P w = .ok (l, u, cap) w := by
  simp [Instr.sliceBounds, sliceBound_ok w .i64 u cap _ huc, sliceBound_ok w .i64 l u _ hlu, Result.andThen]
theorem xzPair_some {lo hi mx : Option AV} {p : Xi × Xi} (e : xzPair lo hi mx = some p) : lo = some (.xi p.1) ∧ hi = some (.xi p.2) ∧ mx = none := by
  unfold xzPair at e
  cases mx with
  | some _ => cases e
  | none =>
    rw [oc_none] at e
    cases lo with
    | none => cases e
    | some x =>
      rw [oc_some] at e
      cases hi with
      | none => cases e
      | some y =>
        rw [oc_some] at e
        cases h1 : asXi x with
        | none => rw [h1] at e; cases e
        | some z =>
          rw [h1, oc_some] at e
          cases h2 : asXi y with
          | none => rw [h2] at e; cases e
          | some z' =>
            rw [h2, oc_some] at e
            injection e with e
            subst e
            exact ⟨by rw [asXi_some h1], by rw [asXi_some h2], rfl⟩
/-- The bounds of a slice expression without a third. -/
theorem bounds2 (isS : Bool) (len cap l u : Nat) {lo hi : Option AV} {lov hiv : Option Value} (h1 : OR g lo lov) (h2 : OR g hi hiv) (e1 : optNat 0 lo = some l) (e2 : optNat len hi = some u) (hlu : l ≤ u) (huc : u ≤ cap) (w : World) :
    (Instr.sliceBounds isS len cap lov hiv none).run P w = .ok (l, u, cap) w := by
  rcases optNat_some e2 with ⟨rfl, rfl⟩ | ⟨k2, rfl⟩
  · cases h2
    rcases optNat_some e1 with ⟨rfl, rfl⟩ | ⟨k1, rfl⟩
    · cases h1
      simp [Instr.sliceBounds]
    · cases h1 with | some _ _ h1 =>
      cases h1
      simp [Instr.sliceBounds, sliceBound_ok w k1 l u _ hlu, Result.andThen]
  · cases h2 with | some _ _ h2 =>
    cases h2
    rcases optNat_some e1 with ⟨rfl, rfl⟩ | ⟨k1, rfl⟩
    · cases h1
      cases isS <;> simp [Instr.sliceBounds, sliceBound_ok w k2 u cap _ huc, Result.andThen]
    · cases h1 with | some _ _ h1 =>
      cases h1
      cases isS <;> simp [Instr.sliceBounds, Sem.run_bind, sliceBound_ok w k2 u cap _ huc, sliceBound_ok w k1 l u _ hlu, Result.andThen]
theorem bounds3 (len cap l u m : Nat) {lo hi : Option AV} {lov hiv : Option Value} (h1 : OR g lo lov) (k3 : IntKind) (h2 : OR g hi hiv) (hh : hi ≠ none) (e1 : optNat 0 lo = some l) (e2 : optNat len hi = some u) (hlu : l ≤ u) (hum : u ≤ m) (hmc : m ≤ cap) (w : World) :
    (Instr.sliceBounds true len cap lov hiv (some (.int k3 m))).run P w = .ok (l, u, m) w := by
  rcases optNat_some e2 with ⟨rfl, rfl⟩ | ⟨k2, rfl⟩
  · exact absurd rfl hh
  · cases h2 with | some _ _ h2 =>
    cases h2
    rcases optNat_some e1 with ⟨rfl, rfl⟩ | ⟨k1, rfl⟩
    · cases h1
      simp [Instr.sliceBounds, Sem.run_bind, sliceBound_ok w k3 m cap _ hmc, sliceBound_ok w k2 u m _ hum, Result.andThen]
    · cases h1 with | some _ _ h1 =>
      cases h1
      simp [Instr.sliceBounds, Sem.run_bind, sliceBound_ok w k3 m cap _ hmc, sliceBound_ok w k2 u m _ hum, sliceBound_ok w k1 l u _ hlu, Result.andThen]
theorem isZ_true {o : Option Nat} (e : isZ o = true) : o = some 0 := by
  cases o with
  | none => cases e
  | some n => have := Nat.eq_of_beq_eq_true (show Nat.beq n 0 = true from e); subst this; rfl
theorem byteL_take (l : List UInt8) (n : Nat) : byteL (l.take n) = (byteL l).take n := by rw [byteL_eq, byteL_eq, List.map_take]
theorem byteL_drop (l : List UInt8) (n : Nat) : byteL (l.drop n) = (byteL l).drop n := by rw [byteL_eq, byteL_eq, List.map_drop]
theorem slice_good (hr : HR B0 g h w) (t : TypeId) (x : AV) (xv : Value) (hx : VR g x xv) (lo hi mx : Option AV) (lov hiv mxv : Option Value) (h1 : OR g lo lov) (h2 : OR g hi hiv) (h3 : OR g mx mxv) :
    VG P B0 g h w (Instr.sliceAt t xv lov hiv mxv) (xSlice (mkTI P) h x lo hi mx (mkTI P t)) := by
  unfold xSlice
  cases ht : mkTI P t with
  | none => trivial
  | some ti =>
    have hT := mkTI_some ht
    simp only [oc_some]
    cases hk : ti.kind
    case str =>
      show VG P B0 g h w _ (bi (isNone mx) (oc .no (fun l => sliceStr h l (optNat 0 lo) (optNat (len l) hi)) (asStr x)) .no)
      cases hm : isNone mx
      · trivial
      · have : mx = none := by cases mx <;> first | rfl | cases hm
        subst this
        cases h3
        rw [bi_true]
        cases hs : asStr x with
        | none => trivial
        | some l =>
          have := asStr_some hs; subst this
          obtain ⟨s, rfl, rfl⟩ := hx.str_inv
          simp only [oc_some]
          unfold sliceStr
          cases e1 : optNat 0 lo with
          | none => trivial
          | some a =>
            cases e2 : optNat (len (byteL s.data.toList)) hi with
            | none => trivial
            | some b =>
              simp only [oc_some]
              cases hab : Nat.ble a b
              · trivial
              · cases hbl : Nat.ble b (len (byteL s.data.toList))
                · trivial
                · simp only [bi_true]
                  have hab : a ≤ b := Nat.le_of_ble_eq_true hab
                  have hlen : len (byteL s.data.toList) = s.size := by rw [len_eq, byteL_length]; simp
                  rw [hlen] at hbl e2
                  have hbl : b ≤ s.size := Nat.le_of_ble_eq_true hbl
                  have hb := bounds2 (P := P) false s.size s.size a b h1 h2 e1 e2 hab hbl w
                  have hv : VR g (.str (tak (Nat.sub b a) (drp a (byteL s.data.toList)))) (.string (s.extract a b)) := by
                    have := VR.str (g := g) (s.extract a b)
                    rw [tak_eq, drp_eq]
                    show VR g (.str (List.take (b - a) _)) _
                    have e : byteL (s.extract a b).data.toList = ((byteL s.data.toList).drop a).take (b - a) := by
                      rw [← byteL_drop, ← byteL_take]
                      congr 1
                      simp [ByteArray.data_extract]
                    rw [← e]
                    exact this
                  refine VG.same hr ?_ hv
                  simp [Instr.sliceAt, Instr.slice, Sem.run_bind, run_underlying (hT.str hk), hb, Result.andThen]
    case slice e =>
      show VG P B0 g h w _ (oc .no (fun size => oc (bi (isNils x) (sliceNil h (optNat 0 lo) (optNat 0 hi) (isNone mx)) .no) (fun s => oc (sliceS h size s mx hi (optNat 0 lo) (optNat s.len hi)) (fun p => sliceX h size s p) (xzPair lo hi mx)) (asSlc x)) (szOf (mkTI P) e))
      have hu := hT.slice hk
      cases hz : szOf (mkTI P) e with
      | none => trivial
      | some sz =>
        simp only [oc_some]
        have hsz := fun w => szOf_run (P := P) hz w
        cases hs : asSlc x with
        | none =>
          simp only [oc_none]
          cases hn : isNils x
          · trivial
          · have := isNils_true hn; subst this
            cases hx
            rw [bi_true]
            unfold sliceNil
            cases z1 : isZ (optNat 0 lo)
            · trivial
            · cases z2 : isZ (optNat 0 hi)
              · trivial
              · cases z3 : isNone mx
                · trivial
                · simp only [bi_true]
                  have z1 := isZ_true z1
                  have z2 := isZ_true z2
                  have : mx = none := by cases mx <;> first | rfl | cases z3
                  subst this
                  cases h3
                  have key := bounds2 (P := P) true 0 0 0 0 h1 h2 z1 z2 (Nat.le_refl _) (Nat.le_refl _) w
                  refine VG.same hr ?_ .nils
                  simp [Instr.sliceAt, Instr.slice, Sem.run_bind, run_underlying hu, key, hsz, Result.andThen]
        | some s =>
          have := asSlc_some hs; subst this
          simp only [oc_some]
          cases hxp : xzPair lo hi mx with
          | some p =>
            simp only [oc_some]
            obtain ⟨rfl, rfl, rfl⟩ := xzPair_some hxp
            obtain ⟨z1, z2⟩ := p
            cases h3
            cases h1 with | some _ v1 h1 =>
            cases h2 with | some _ v2 h2 =>
            cases h1 with | xi _ n1 q1 q2 q3 =>
            cases h2 with | xi _ n2 r1 r2 r3 =>
            dsimp only at q1 q2 q3 r1 r2 r3
            unfold sliceX
            dsimp only
            cases y1 : Nat.beq sz 1
            · trivial
            rw [bi_true]
            cases y2 : Nat.beq z1.k z2.k
            · trivial
            rw [bi_true]
            cases y3 : ieq z1.a z2.a
            · trivial
            rw [bi_true]
            cases y4 : ileq (.ofNat 0) z1.lo
            · trivial
            rw [bi_true]
            cases y5 : ileq z2.hi (.ofNat s.len)
            · trivial
            rw [bi_true]
            cases y6 : natI (Int.sub z2.c z1.c) with
            | none => trivial
            | some d =>
              simp only [oc_some]
              cases y7 : Nat.beq d 0
              · rw [bi_false, nF_eq, nF_eq]
                have y1 := Nat.eq_of_beq_eq_true y1
                have y2 := Nat.eq_of_beq_eq_true y2
                have y3 : z1.a = z2.a := by rw [ieq_eq] at y3; simpa using y3
                have y4 : 0 ≤ z1.lo := by unfold ileq at y4; rw [ilt_eq, bi_eq] at y4; simp at y4; omega
                have y5 : z2.hi ≤ s.len := by unfold ileq at y5; rw [ilt_eq, bi_eq] at y5; simp at y5; omega
                have y7 := Nat.ne_of_beq_eq_false y7
                have y6 : z2.c - z1.c = (d : Int) := by
                  have : ∀ e : Int, natI e = some d → e = (d : Int) := by
                    intro e he
                    cases e with
                    | ofNat m =>
                      have he : some m = some d := he
                      cases he
                      rfl
                    | negSucc m => cases he
                  exact this _ y6
                subst y1
                have hd : n2 - n1 = d := by rw [q1, r1, y2, y3]; omega
                obtain ⟨l, rfl⟩ : ∃ l : Nat, n1 = l := ⟨n1.toNat, by omega⟩
                obtain ⟨u, rfl⟩ : ∃ u : Nat, n2 = u := ⟨n2.toNat, by omega⟩
                obtain rfl : u = l + d := by omega
                obtain ⟨b, o, n, cp⟩ := s
                dsimp only at hx y5 ⊢
                have hul : l + d ≤ n := by omega
                cases cp with
                | k c =>
                  cases hx with | slck _ _ _ _ B base ro hp hn hro =>
                  have hb := boundsX (P := P) n c l (l + d) (by omega) (by omega) w
                  rw [Int.natCast_add] at hb
                  have hcl : c ≠ l := by omega
                  refine VG.same hr ?_ (.xz b d (o + n) B base (ro + l * 1) (c - l) hp (by omega) (by rw [hro (by omega)]; omega) (by rw [hro (by omega)]; omega))
                  simp [Instr.sliceAt, Instr.slice, Sem.run_bind, run_underlying hu, hb, hsz, hcl, Result.andThen, add_none]
                | v s' k =>
                  cases hx with | slcv _ _ _ _ B base c _ ro hp hg ho hn hro =>
                  have hb := boundsX (P := P) n (c - k) l (l + d) (by omega) (by omega) w
                  rw [Int.natCast_add] at hb
                  have hcl : c - k ≠ l := by omega
                  refine VG.same hr ?_ (.xz b d (o + n) B base (ro + l * 1) (c - k - l) hp (by omega) (by rw [hro (by omega)]; omega) (by rw [hro (by omega)]; omega))
                  simp [Instr.sliceAt, Instr.slice, Sem.run_bind, run_underlying hu, hb, hsz, hcl, Result.andThen, add_none]
              · trivial
          | none =>
          simp only [oc_none]
          unfold sliceS
          cases e1 : optNat 0 lo with
          | none => trivial
          | some l =>
            cases e2 : optNat s.len hi with
            | none => trivial
            | some u =>
              simp only [oc_some]
              cases mx with
              | none =>
                cases h3
                simp only [oc_none]
                cases hlu : Nat.ble l u
                · trivial
                · have hlu : l ≤ u := Nat.le_of_ble_eq_true hlu
                  rw [bi_true]
                  cases hre : reach h s u sz
                  · trivial
                  · rw [bi_true]
                    obtain ⟨b, o, n, cp⟩ := s
                    dsimp only at hx e2
                    cases cp with
                    | k c =>
                      cases hx with | slck _ _ _ _ B base ro hp hn hro =>
                      have huc : u ≤ c := Nat.le_of_ble_eq_true hre
                      show VG P B0 g h w _ (nF (bi (Nat.beq c l) o (o + l * sz)) fun o' => nF (u - l) fun n => nF (c - l) fun c => .val (.slc b o' n (.k c)) h)
                      rw [nF_eq, nF_eq, nF_eq, bi_eq]
                      have hb := bounds2 (P := P) true n c l u h1 h2 e1 e2 hlu huc w
                      by_cases hcl : c = l
                      · subst hcl
                        rw [if_pos (by simp)]
                        refine VG.same hr ?_ (.slck b o (u - c) (c - c) B base ro hp (by omega) (fun hlt => by omega))
                        simp [Instr.sliceAt, Instr.slice, Sem.run_bind, run_underlying hu, hb, hsz, Result.andThen]
                      · rw [if_neg (by simp [hcl])]
                        have := VR.slck (g := g) b (o + l * sz) (u - l) (c - l) B base (ro + l * sz) hp (by omega) (fun hlt => by rw [hro (by omega)]; omega)
                        refine VG.same hr ?_ this
                        simp [Instr.sliceAt, Instr.slice, Sem.run_bind, run_underlying hu, hb, hsz, hcl, Result.andThen, add_none]
                    | v s' k =>
                      cases hx with | slcv _ _ _ _ B base c _ ro hp hg ho hn hro =>
                      have hre : bi (Nat.beq s' sz) (bi (Nat.ble u n) true (bi (Nat.beq sz 0) false (oc false (fun c => Nat.ble (o + u * sz) (len c.1)) (objCells (h.m.get b))))) false = true := hre
                      cases hss : Nat.beq s' sz
                      · rw [hss] at hre; cases hre
                      · rw [hss, bi_true] at hre
                        have hss := Nat.eq_of_beq_eq_true hss
                        subst hss
                        have huc : u ≤ c - k := by
                          cases hun : Nat.ble u n
                          · rw [hun, bi_false] at hre
                            cases hz0 : Nat.beq s' 0
                            · rw [hz0, bi_false] at hre
                              cases hob : objCells (h.m.get b) with
                              | none => rw [hob] at hre; cases hre
                              | some cc =>
                                rw [hob] at hre
                                simp only [oc_some, len_eq] at hre
                                have hle := Nat.le_of_ble_eq_true hre
                                obtain ⟨cs, fr, _, _, _, _, hgr⟩ := (hr.row hob hp).ex
                                obtain ⟨hs0, hle2, _⟩ := hgr c s' hg
                                have : (k + u) * s' ≤ c * s' := by rw [Nat.add_mul]; omega
                                have := Nat.le_of_mul_le_mul_right this hs0
                                omega
                            · rw [hz0] at hre; cases hre
                          · have := Nat.le_of_ble_eq_true hun
                            omega
                        show VG P B0 g h w _ (nF (o + l * s') fun o' => nF (u - l) fun n => nF (k + l) fun k => .val (.slc b o' n (.v s' k)) h)
                        rw [nF_eq, nF_eq, nF_eq]
                        have hb := bounds2 (P := P) true n (c - k) l u h1 h2 e1 e2 hlu huc w
                        by_cases hcl : c - k = l
                        · have hv : VR g (.slc b (o + l * s') (u - l) (.v s' (k + l))) (.slice (some ⟨B, ro, none⟩) (u - l) (c - (k + l))) := .slcv b _ (u - l) (k + l) B base c s' ro hp hg (by rw [ho, Nat.add_mul]) (by omega) (fun hlt => by omega)
                          refine VG.same hr ?_ hv
                          subst hcl
                          simp [Instr.sliceAt, Instr.slice, Sem.run_bind, run_underlying hu, hb, hsz, Result.andThen]
                          omega
                        · have hv : VR g (.slc b (o + l * s') (u - l) (.v s' (k + l))) (.slice (some ⟨B, ro + l * s', none⟩) (u - l) (c - (k + l))) := .slcv b _ (u - l) (k + l) B base c s' _ hp hg (by rw [ho, Nat.add_mul]) (by omega) (fun hlt => by rw [hro (by omega)]; omega)
                          refine VG.same hr ?_ hv
                          simp [Instr.sliceAt, Instr.slice, Sem.run_bind, run_underlying hu, hb, hsz, hcl, Result.andThen, add_none]
                          omega
              | some m =>
                cases h3 with | some _ mv h3 =>
                simp only [oc_some]
                cases hhn : isNone hi
                · have hhn : hi ≠ none := fun e => by subst e; cases hhn
                  rw [bi_false]
                  cases hm : intNat m with
                  | none => trivial
                  | some m' =>
                    obtain ⟨k3, rfl⟩ := intNat_some hm
                    cases h3
                    simp only [oc_some]
                    unfold cutM
                    cases hlu : Nat.ble l u
                    · trivial
                    · cases hum : Nat.ble u m'
                      · trivial
                      · cases hms : Nat.ble m' s.len
                        · trivial
                        · simp only [bi_true, nF_eq]
                          have hlu : l ≤ u := Nat.le_of_ble_eq_true hlu
                          have hum : u ≤ m' := Nat.le_of_ble_eq_true hum
                          have hms : m' ≤ s.len := Nat.le_of_ble_eq_true hms
                          obtain ⟨b, o, n, cp⟩ := s
                          dsimp only at hx e2 hms
                          obtain ⟨B, base, mm, ro, hp, rfl, hro⟩ := hx.slc_form
                          have hcap : n ≤ mm := by
                            cases hx with
                            | slck _ _ _ c B base ro h hn hro => exact hn
                            | slcv _ _ _ k B base c s ro h hg ho hn hro => omega
                          have hb := bounds3 (P := P) n mm l u m' h1 k3 h2 hhn e1 e2 hlu hum (by omega) w
                          dsimp only
                          rw [bi_eq]
                          by_cases hml : m' = l
                          · subst hml
                            rw [if_pos (by simp)]
                            refine VG.same hr ?_ (.slck b o (u - m') (m' - m') B base ro hp (by omega) (fun hlt => by omega))
                            simp [Instr.sliceAt, Instr.slice, Sem.run_bind, run_underlying hu, hb, hsz, Result.andThen]
                          · rw [if_neg (by simp [hml])]
                            refine VG.same hr ?_ (.slck b (o + l * sz) (u - l) (m' - l) B base (ro + l * sz) hp (by omega) (fun hlt => by rw [hro (by omega)]; omega))
                            simp [Instr.sliceAt, Instr.slice, Sem.run_bind, run_underlying hu, hb, hsz, hml, Result.andThen, add_none]
                · trivial
    case arr n e =>
      show VG P B0 g h w _ (oc .no (fun p => oc .no (fun size => sliceA h p.1 p.2 n size mx (optNat 0 lo) (optNat n hi)) (szOf (mkTI P) e)) (asPtr x))
      cases hs : asPtr x with
      | none => trivial
      | some p =>
        have := asPtr_some hs; subst this
        cases hx with | ptr b o B base hp =>
        simp only [oc_some]
        cases hz : szOf (mkTI P) e with
        | none => trivial
        | some sz =>
          have hsz := fun w => szOf_run (P := P) hz w
          simp only [oc_some]
          unfold sliceA
          cases e1 : optNat 0 lo with
          | none => trivial
          | some l =>
            cases e2 : optNat n hi with
            | none => trivial
            | some u =>
              simp only [oc_some]
              cases mx with
              | some m => trivial
              | none =>
                cases h3
                simp only [oc_none]
                cases hlu : Nat.ble l u
                · trivial
                · cases hun : Nat.ble u n
                  · trivial
                  · simp only [bi_true, nF_eq]
                    have hlu : l ≤ u := Nat.le_of_ble_eq_true hlu
                    have hun : u ≤ n := Nat.le_of_ble_eq_true hun
                    have hb := bounds2 (P := P) false n n l u h1 h2 e1 e2 hlu hun w
                    rw [bi_eq]
                    by_cases hcl : n = l
                    · subst hcl
                      rw [if_pos (by simp)]
                      refine VG.same hr ?_ (.slck p.1 p.2 (u - n) (n - n) B base _ hp (by omega) (fun _ => rfl))
                      simp [Instr.sliceAt, Sem.run_bind, run_underlying (hT.arr hk), Instr.sureAddr, hb, hsz, Result.andThen]
                    · rw [if_neg (by simp [hcl])]
                      refine VG.same hr ?_ (.slck p.1 (p.2 + l * sz) (u - l) (n - l) B base _ hp (by omega) (fun _ => rfl))
                      simp [Instr.sliceAt, Sem.run_bind, run_underlying (hT.arr hk), Instr.sureAddr, hb, hsz, hcl, Result.andThen, add_none, Nat.add_assoc]
    all_goals trivial
end
end Go.Proofs.YtimjbojoeacaeaaDoor.Kx
