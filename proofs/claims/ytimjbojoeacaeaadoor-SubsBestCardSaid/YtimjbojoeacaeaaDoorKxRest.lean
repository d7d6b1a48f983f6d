/- The rest of the evaluator's operations; all of them. -/
import Derived.Test.YtimjbojoeacaeaaDoorKxMap
namespace Go.Proofs.YtimjbojoeacaeaaDoor.Kx
section
variable {P : Program} {B0 : Nat} {g : G} {h : H} {w : World}

theorem len_good (hr : HR B0 g h w) (t ty : TypeId) (x : AV) (xv : Value) (hx : VR g x xv) : VG P B0 g h w (Builtin.len_ #[t] ty #[xv]) (xLen x h (mkTI P t)) := by
  unfold xLen
  cases ht : mkTI P t with
  | none => trivial
  | some ti =>
    have hT := mkTI_some ht
    simp only [oc_some]
    cases hk : ti.kind
    case str =>
      show VG P B0 g h w _ (oc .no (fun l => kInt (.ofNat (len l)) h .i64) (asStr x))
      cases h1 : asStr x with
      | none => trivial
      | some l =>
        have := asStr_some h1; subst this
        obtain ⟨s, rfl, rfl⟩ := hx.str_inv
        simp only [oc_some]
        rw [kInt_eq]
        refine VG.same hr ?_ (.int _ _)
        simp [Builtin.len_, run_underlying (hT.str hk), goInt, byteL_length]
    case slice e =>
      have hu := hT.slice hk
      show VG P B0 g h w _ (lenS x h)
      cases x <;> try trivial
      case nils =>
        cases hx
        show VG P B0 g h w _ (kInt (.ofNat 0) h .i64)
        rw [kInt_eq]
        exact VG.same hr (by simp [Builtin.len_, run_underlying hu, goInt]) (.int _ _)
      case slc b o n c =>
        obtain ⟨B, base, m, ro, hp, rfl, _⟩ := hx.slc_form
        show VG P B0 g h w _ (kInt (.ofNat n) h .i64)
        rw [kInt_eq]
        exact VG.same hr (by simp [Builtin.len_, run_underlying hu, goInt]) (.int _ _)
      case xz b n L =>
        cases hx with | xz _ _ _ B base ro c hp hn h1 h2 =>
        show VG P B0 g h w _ (kInt (.ofNat n) h .i64)
        rw [kInt_eq]
        exact VG.same hr (by simp [Builtin.len_, run_underlying hu, goInt]) (.int _ _)
      case xslc k0 ge =>
        generalize hxx : AV.xslc k0 ge = y at hx
        cases hx <;> cases hxx
        rename_i a n c hle he
        show VG P B0 g h w _ (bi ge (.val (.xnat k0) h) (kInt (.ofNat k0) h .i64))
        cases ge
        · rw [bi_false, kInt_eq, he rfl]
          exact VG.same hr (by simp [Builtin.len_, run_underlying hu, goInt]) (.int _ _)
        · exact VG.same hr (v' := .int .i64 (n : Int)) (by simp [Builtin.len_, run_underlying hu, goInt]) (.xnat k0 n hle)
    case map k e =>
      have hu := hT.map hk
      show VG P B0 g h w _ (lenM x h)
      cases x <;> try trivial
      case nilm =>
        cases hx
        show VG P B0 g h w _ (kInt (.ofNat 0) h .i64)
        rw [kInt_eq]
        exact VG.same hr (by simp [Builtin.len_, run_underlying hu, goInt]) (.int _ _)
      case map b =>
        cases hx with | map _ B hp =>
        show VG P B0 g h w _ (oc .no (fun m => kInt (.ofNat (len m.es)) h .i64) (objMap (h.m.get b)))
        cases hob : objMap (h.m.get b) with
        | none => trivial
        | some mp =>
          simp only [oc_some]
          obtain ⟨_, es', e1, e2⟩ := hr.maps b mp.es mp.clock B 0 (objMap_some hob) hp
          rw [kInt_eq, len_eq]
          have hlen : mp.es.length = es'.size := by
            have : ∀ {l : List (AV × AV × Nat)} {l' : List MapEntry}, ER g l l' → l.length = l'.length := fun h => by
              induction h with
              | nil => rfl
              | cons _ _ _ _ _ _ _ _ _ _ ih => simp [ih]
            rw [this e2]; simp
          exact VG.same hr (by simp [Builtin.len_, run_underlying hu, run_getMap w B es' mp.clock e1, goInt, hlen]) (.int _ _)
    case arr n e =>
      show VG P B0 g h w _ (kInt (.ofNat n) h .i64)
      rw [kInt_eq]
      exact VG.same hr (by simp [Builtin.len_, run_underlying (hT.arr hk), goInt]) (.int _ _)
    all_goals trivial
theorem copy_good (hr : HR B0 g h w) (hm : ∀ b o, h.m.get b = some o → b < h.next) (t xt ty : TypeId) (d s : AV) (dv sv : Value) (hd : VR g d dv) (hs : VR g s sv) :
    VG P B0 g h w (Builtin.copy_ #[t, xt] ty #[dv, sv]) (xCopy h d s (oc none (szOf (mkTI P)) (elemT (mkTI P t)))) := by
  unfold xCopy
  cases ht : mkTI P t with
  | none => trivial
  | some ti =>
    have hTt := mkTI_some ht
    cases hk : elemK ti.kind with
    | none => show VG P B0 g h w _ (oc .no _ (oc none _ (elemK ti.kind))); rw [hk]; trivial
    | some e =>
      show VG P B0 g h w _ (oc .no _ (oc none (szOf (mkTI P)) (elemK ti.kind)))
      rw [hk]
      have hu := hTt.slice (elemK_some hk)
      simp only [oc_some]
      cases hz : szOf (mkTI P) e with
      | none => trivial
      | some size =>
        have hsz := fun w => szOf_run (P := P) hz w
        simp only [oc_some]
        cases hl : lenOf s with
        | none => trivial
        | some n =>
          simp only [oc_some]
          cases hl2 : lenOf d with
          | none => trivial
          | some m =>
            simp only [oc_some, nF_eq]
            cases hso : strOk s size
            · trivial
            · rw [bi_true]
              have hstr : ∀ l, s = .str l → size = 1 := fun l e => by
                subst e
                exact Nat.eq_of_beq_eq_true hso
              cases hf : firstCells s h size (Nat.min n m) with
              | none => trivial
              | some cs =>
                simp only [oc_some]
                have hlen := lenOf_ok (P := P) hs hl w
                obtain ⟨cs', c1, c2, c3, c4⟩ := firstCells_ok (P := P) hr hs hl (Nat.min_le_left _ _) hf hstr
                have c1 := c1 w rfl
                unfold copy1
                cases h1 : asSlc d with
                | none =>
                  simp only [oc_none]
                  cases hn : isNils d
                  · trivial
                  · have := isNils_true hn; subst this
                    cases hd
                    injection hl2 with hl2
                    subst hl2
                    rw [bi_true]
                    rw [Nat.min_zero] at c1
                    refine VG.same hr (v' := .int .i64 0) ?_ (.int _ _)
                    simp [Builtin.copy_, run_underlying hu, hlen, hsz, c1, goInt, Result.andThen]
                | some sl =>
                  have := asSlc_some h1; subst this
                  obtain ⟨b, o, len, cp⟩ := sl
                  dsimp only at hd hl2 ⊢
                  injection hl2 with hl2
                  subst hl2
                  simp only [oc_some]
                  cases hob : objCells (h.m.get b) with
                  | none => trivial
                  | some c =>
                    simp only [oc_some]
                    unfold kUpd
                    cases hpu : put o cs c.1 with
                    | none => trivial
                    | some r =>
                      simp only [oc_some]
                      obtain ⟨B, base, mm, ro, hp, rfl, hro⟩ := hd.slc_form
                      obtain ⟨w1, a1, a2, a3, a4, a5, a6, a7⟩ := (hr.row hob hp).put (P := P) c2 c3 hpu
                      refine ⟨.int .i64 (Nat.min n len : Nat), w1, g, ?_, .int _ _, Tr.cells hr hm hob hp a2 a3 a4 a5 a6 a7⟩
                      have hst : (storeCells ⟨B, ro, none⟩ cs').run P w = .ok () w1 := by
                        by_cases hl0 : 0 < len
                        · rw [hro hl0]; exact a1
                        · have : cs' = [] := List.eq_nil_of_length_eq_zero (by
                            have hmz : min n len = 0 := by omega
                            rw [c4, hmz]; simp)
                          subst this
                          exact a1
                      simp [Builtin.copy_, run_underlying hu, hlen, hsz, c1, hst, goInt, Result.andThen]
theorem max_good (hr : HR B0 g h w) (ts : Array TypeId) (ty : TypeId) (x y : AV) (xv yv : Value) (hx : VR g x xv) (hy : VR g y yv) : VG P B0 g h w (Builtin.max_ ts ty #[xv, yv]) (xMax h x y) := by
  unfold xMax
  cases h1 : asInt x with
  | none => trivial
  | some p =>
    have := asInt_some h1; subst this
    cases hx
    simp only [oc_some]
    cases h2 : asInt y with
    | none => trivial
    | some q =>
      have := asInt_some h2; subst this
      cases hy
      simp only [oc_some]
      rw [kInt_eq, ilt_eq, bi_eq]
      refine VG.same hr ?_ (.int _ _)
      simp [Builtin.max_, Builtin.max2]
theorem min_good (hr : HR B0 g h w) (ts : Array TypeId) (ty : TypeId) (x y : AV) (xv yv : Value) (hx : VR g x xv) (hy : VR g y yv) : VG P B0 g h w (Builtin.min_ ts ty #[xv, yv]) (xMin h x y) := by
  unfold xMin
  cases h1 : asInt x with
  | none =>
    simp only [oc_none]
    cases h2 : asXnat x with
    | none => trivial
    | some n =>
      have := asXnat_some h2; subst this
      generalize hxx : AV.xnat n = xx at hx
      cases hx <;> cases hxx
      rename_i n' hle
      simp only [oc_some]
      unfold minX
      cases h3 : asInt y with
      | none => trivial
      | some q =>
        have := asInt_some h3; subst this
        cases hy
        simp only [oc_some]
        cases hk : Nat.beq (ikN q.1) 3
        · trivial
        · have hk : q.1 = .i64 := ikN_inj (k' := .i64) hk
          rw [bi_true]
          cases hz : ilt (.ofNat n) q.2
          · rw [ilt_eq] at hz
            have hz : ¬ ((n : Int) < q.2) := by simpa using hz
            rw [hk]
            refine VG.same hr ?_ (.int _ _)
            have hn : ¬ ((n' : Int) < q.2) := by omega
            by_cases e : q.2 = n'
            · simp [Builtin.min_, Builtin.min2, e]
            · have h3 : q.2 < (n' : Int) := by omega
              simp [Builtin.min_, Builtin.min2, h3]
          · trivial
  | some p =>
    have := asInt_some h1; subst this
    cases hx
    simp only [oc_some]
    cases h2 : asInt y with
    | none => trivial
    | some q =>
      have := asInt_some h2; subst this
      cases hy
      simp only [oc_some]
      rw [kInt_eq, ilt_eq, bi_eq]
      refine VG.same hr ?_ (.int _ _)
      simp [Builtin.min_, Builtin.min2]

/-! Conversions. -/
theorem u8T_ok {e : TypeId} (h : u8T (mkTI P e) = true) : P.underlying e = some (.int .u8) := by
  unfold u8T at h
  cases ht : mkTI P e with
  | none => rw [ht] at h; cases h
  | some ti =>
    rw [ht] at h
    simp only [oc_some] at h
    cases hk : ti.kind <;> rw [hk] at h <;> first | (cases h; done) | skip
    rename_i k
    have hk8 : k = .u8 := ikN_inj (k' := .u8) h
    subst hk8
    exact (mkTI_some ht).int hk
theorem srcU8_ok {t : TypeId} {si : TI} (hT : TOk P t si) (h : srcU8 (mkTI P) (some si) = true) : ∃ e, P.underlying t = some (.slice e) ∧ P.underlying e = some (.int .u8) := by
  have h : oc false (fun e => u8T (mkTI P e)) (elemK si.kind) = true := h
  cases hk : elemK si.kind with
  | none => rw [hk] at h; cases h
  | some e =>
    rw [hk] at h
    exact ⟨e, hT.slice (elemK_some hk), u8T_ok h⟩
theorem push_data (bs : List UInt8) (acc : ByteArray) : (bs.foldl ByteArray.push acc).data.toList = acc.data.toList ++ bs := by
  induction bs generalizing acc with
  | nil => simp
  | cons b r ih => rw [List.foldl_cons, ih]; simp [ByteArray.push]
theorem byteN_some {v : AV} {n : Nat} (h : byteN v = some n) : v = .int .u8 n ∧ n < 256 := by
  cases v <;> first | (exact absurd h (by intro e; cases e)) | skip
  rename_i k z
  have h : bi (Nat.beq (ikN k) 4) (oc none (fun n => bi (Nat.blt n 256) (some n) none) (natI z)) none = some n := h
  cases hk : Nat.beq (ikN k) 4
  · rw [hk] at h; cases h
  · rw [hk, bi_true] at h
    have hk8 : k = .u8 := ikN_inj (k' := .u8) hk
    subst hk8
    cases z with
    | negSucc m => cases h
    | ofNat m =>
      have h : bi (Nat.blt m 256) (some m) none = some n := h
      cases hb : Nat.blt m 256
      · rw [hb] at h; cases h
      · rw [hb, bi_true] at h
        injection h with h
        subst h
        exact ⟨rfl, by simpa [Nat.blt_eq] using hb⟩
theorem strBytes_ok {cs : List AV} {l : List Nat} (h : strBytes cs = some l) {cs' : List Value} (hv : VRs g cs cs') :
    ∃ bs : List UInt8, byteL bs = l ∧ ∀ (F : Value → ByteArray → Sem (ForInStep ByteArray)), (∀ n s, F (.int .u8 n) s = pure (ForInStep.yield (s.push (UInt8.ofNat n.toNat)))) → ∀ (acc : ByteArray) (w : World), (forIn cs' acc F).run P w = .ok (bs.foldl ByteArray.push acc) w := by
  induction cs generalizing l cs' with
  | nil =>
    cases hv
    injection h with h
    subst h
    exact ⟨[], rfl, fun F hF acc w => rfl⟩
  | cons a r ih =>
    cases hv with | cons _ a' _ r' ha hs =>
    have h : oc none (fun n => oc none (fun l => some (n :: l)) (strBytes r)) (byteN a) = some l := h
    cases hb : byteN a with
    | none => rw [hb] at h; cases h
    | some n =>
      cases hr : strBytes r with
      | none => rw [hb, hr] at h; cases h
      | some l' =>
        rw [hb, hr] at h
        simp only [oc_some] at h
        injection h with h
        subst h
        obtain ⟨rfl, hn⟩ := byteN_some hb
        cases ha
        obtain ⟨bs, e1, e2⟩ := ih hr hs
        refine ⟨UInt8.ofNat n :: bs, ?_, fun F hF acc w => ?_⟩
        · show (UInt8.ofNat n).toNat :: byteL bs = _
          rw [e1]
          congr 1
          simp
          omega
        · rw [List.forIn_cons, hF]
          simp only [pure_bind, List.foldl_cons]
          exact e2 F hF _ w
theorem convert_good (hr : HR B0 g h w) (src dst : TypeId) (x : AV) (xv : Value) (hx : VR g x xv) : VG P B0 g h w (convert src dst xv) (bi (isSome (mkTI P src)) (xConvert (mkTI P) h x (mkTI P src) (mkTI P dst)) .no) := by
  cases hsrc : mkTI P src with
  | none => trivial
  | some si =>
    obtain ⟨sd, hsd, hsk⟩ := (mkTI_some hsrc).und
    show VG P B0 g h w _ (xConvert (mkTI P) h x (some si) (mkTI P dst))
    unfold xConvert
    cases hdst : mkTI P dst with
    | none => trivial
    | some di =>
      have hT := mkTI_some hdst
      simp only [oc_some]
      cases hk : di.kind
      case int k =>
        show VG P B0 g h w _ (oc (cvR h k x) (fun p => kW h k p.2) (asInt x))
        cases h1 : asInt x with
        | none =>
          simp only [oc_none]
          unfold cvR
          cases h2 : asXres x with
          | none => trivial
          | some r =>
            have := asXres_some h2; subst this
            simp only [oc_some]
            cases e1 : Nat.beq r.k 0
            · trivial
            rw [bi_true]
            cases e2 : Nat.beq (ikN k) 7
            · trivial
            rw [bi_true]
            have e1 := Nat.eq_of_beq_eq_true e1
            have e2 : k = .u64 := ikN_inj (k' := .u64) e2
            subst e2
            obtain ⟨k, m, r'⟩ := r
            dsimp only at hx e1 ⊢
            subst e1
            cases hx with | xres0 _ _ n _ hn =>
            refine VG.same hr (v' := .int .u64 (n % 18446744073709551616)) ?_ (.xres2 m r' _ (by omega) hn)
            simp [convert, run_underlying hsd, run_underlying (hT.int hk), Conv.intToInt, IntKind.wrap_u64]
        | some p =>
          have := asInt_some h1; subst this
          cases hx
          simp only [oc_some]
          rw [kW_eq]
          refine VG.same hr ?_ (.int _ _)
          simp [convert, run_underlying hsd, run_underlying (hT.int hk), Conv.intToInt]
      case str =>
        have hu := hT.str hk
        show VG P B0 g h w _ (oc (bi (srcU8 (mkTI P) (some si)) (oc (bi (isNils x) (.val (.str []) h) .no) (cvBytes h) (asSlc x)) .no) (fun l => .val (.str l) h) (asStr x))
        cases h1 : asStr x with
        | some l =>
          have := asStr_some h1; subst this
          obtain ⟨s, rfl, rfl⟩ := hx.str_inv
          simp only [oc_some]
          refine VG.same hr ?_ (.str s)
          simp [convert, run_underlying hsd, run_underlying hu]
        | none =>
          simp only [oc_none]
          cases hs8 : srcU8 (mkTI P) (some si)
          · trivial
          · rw [bi_true]
            obtain ⟨e, hse, hue⟩ := srcU8_ok (mkTI_some hsrc) hs8
            cases h2 : asSlc x with
            | none =>
              simp only [oc_none]
              cases hn : isNils x
              · trivial
              · have := isNils_true hn; subst this
                cases hx
                rw [bi_true]
                refine VG.same hr ?_ (.str .empty)
                simp [convert, run_underlying hse, run_underlying hu, run_underlying hue, Conv.bytesToString]
            | some sl =>
              have := asSlc_some h2; subst this
              simp only [oc_some]
              unfold cvBytes
              cases hca : cellsAt h sl.b sl.o sl.len with
              | none => trivial
              | some cs =>
                simp only [oc_some]
                cases hsb : strBytes cs with
                | none => trivial
                | some l =>
                  simp only [oc_some]
                  obtain ⟨cs', c1, c2, c3, c4⟩ := sliceCells (P := P) hr hx (n := sl.len) (size := 1) (Nat.le_refl _) (by simp) hca
                  obtain ⟨bs, hs1, hs2⟩ := strBytes_ok (P := P) hsb c2
                  have hv : VR g (.str l) (.string (bs.foldl ByteArray.push .empty)) := by
                    rw [← hs1]
                    have := VR.str (g := g) (bs.foldl ByteArray.push .empty)
                    rw [push_data] at this
                    exact this
                  refine VG.same hr ?_ hv
                  obtain ⟨B, base, m, ro, hpp, rfl, hro⟩ := hx.slc_form
                  have c1 := c1 w rfl
                  simp only [Builtin.firstCells, Nat.mul_one] at c1
                  simp [convert, run_underlying hse, run_underlying hu, run_underlying hue, Conv.bytesToString, c1, Result.andThen]
                  rw [hs2 _ (fun n s => rfl) .empty w]
      all_goals trivial
end
end Go.Proofs.YtimjbojoeacaeaaDoor.Kx
