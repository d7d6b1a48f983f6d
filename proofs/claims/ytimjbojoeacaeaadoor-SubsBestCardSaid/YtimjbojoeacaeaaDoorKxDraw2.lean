/- Which operations only reckon, only read, only lay a new block. -/
import Derived.Test.YtimjbojoeacaeaaDoorKxDraw1
namespace Go.Proofs.YtimjbojoeacaeaaDoor.Kx

/-- The same, over another heap. -/
def XR.on (h : H) : XR → XR
  | .no => .no
  | .val v _ => .val v h
  | .call f a _ => .call f a h
section
variable {h k : H} {P : Program}
@[simp] theorem on_no : XR.on h .no = .no := rfl
@[simp] theorem on_val (v : AV) : XR.on h (.val v k) = .val v h := rfl
@[simp] theorem on_oc {α : Type} (n : XR) (f : α → XR) (o : Option α) : XR.on h (oc n f o) = oc (XR.on h n) (fun x => XR.on h (f x)) o := by cases o <;> rfl
@[simp] theorem on_bi (c : Bool) (x y : XR) : XR.on h (bi c x y) = bi c (XR.on h x) (XR.on h y) := by cases c <;> rfl
@[simp] theorem on_kBool (b : Bool) : XR.on h (kBool k b) = kBool h b := by cases b <;> rfl
@[simp] theorem on_kInt (z : Int) (t : IntKind) : XR.on h (kInt z k t) = kInt z h t := by
  cases z <;> (unfold kInt; simp only [nF_eq]; rfl)
@[simp] theorem on_kW (z : Int) (t : IntKind) : XR.on h (kW k t z) = kW h t z := by unfold kW; simp
@[simp] theorem on_kB (n : Nat) (t : IntKind) : XR.on h (kB k t n) = kB h t n := by unfold kB; simp
@[simp] theorem on_kVal (o : Option AV) : XR.on h (kVal k o) = kVal h o := by unfold kVal; simp
@[simp] theorem on_kAgg (o : Option (List AV)) : XR.on h (kAgg k o) = kAgg h o := by unfold kAgg; simp
@[simp] theorem on_kBoolO (o : Option Bool) : XR.on h (kBoolO k o) = kBoolO h o := by unfold kBoolO; simp
@[simp] theorem on_nF (n : Nat) (f : Nat → XR) : XR.on h (nF n f) = nF n (fun x => XR.on h (f x)) := by simp
theorem on_shl (t : IntKind) (a b : Int) : XR.on h (shl k t a b) = shl h t a b := by unfold shl; simp
theorem on_shr (t : IntKind) (a b : Int) : XR.on h (shr k t a b) = shr h t a b := by unfold shr; simp
theorem on_bopI (op : BinOp) (t : IntKind) (a b : Int) : XR.on h (bopI op k t a b) = bopI op h t a b := by
  cases op <;> first | exact on_kW _ _ | exact on_kB _ _ | exact on_kBool _ | exact on_kInt _ _ | exact on_shl _ _ _ | exact on_shr _ _ _ | skip
  · show XR.on h (bi (ieq b 0) .no (kW k t (a.tdiv b))) = bi (ieq b 0) .no (kW h t (a.tdiv b)); simp
  · show XR.on h (bi (ieq b 0) .no (kInt (a.tmod b) k t)) = bi (ieq b 0) .no (kInt (a.tmod b) h t); simp
theorem on_bopS (op : BinOp) (a b : List Nat) : XR.on h (bopS op k a b) = bopS op h a b := by
  cases op <;> first | rfl | exact on_kBool _ | skip
  show XR.on h (bi (Nat.ble (Nat.add (len a) (len b)) 1073741824) (.val (.str (app a b)) k) .no) = bi (Nat.ble (Nat.add (len a) (len b)) 1073741824) (.val (.str (app a b)) h) .no
  simp
theorem on_bopO (Ty : TypeId → Option TI) (op : BinOp) (t : Option TI) (x y : AV) : XR.on h (bopO op k Ty t x y) = bopO op h Ty t x y := by
  cases op <;> first | rfl | skip
  · show XR.on h (oc .no (fun ti => kBoolO k (eqT Ty ti x y)) t) = oc .no (fun ti => kBoolO h (eqT Ty ti x y)) t; simp
  · show XR.on h (oc .no (fun ti => oc .no (fun b => kBool k (bi b false true)) (eqT Ty ti x y)) t) = oc .no (fun ti => oc .no (fun b => kBool h (bi b false true)) (eqT Ty ti x y)) t; simp
@[simp] theorem on_bopXo (op : BinOp) (n : Nat) (q : Int) : XR.on h (bopXo op k n q) = bopXo op h n q := by
  cases op <;> first | rfl | skip
  · show XR.on h (bi (ilt (.ofNat n) q) .no (.val (.bool false) k)) = bi (ilt (.ofNat n) q) .no (.val (.bool false) h); simp
  · show XR.on h (bi (ltX q n) (.val (.bool true) k) .no) = bi (ltX q n) (.val (.bool true) h) .no; simp
  · show XR.on h (bi (ilt (.ofNat n) q) .no (.val (.bool true) k)) = bi (ilt (.ofNat n) q) .no (.val (.bool true) h); simp
@[simp] theorem on_bopY (op : BinOp) (p : IntKind × Int) (y : AV) : XR.on h (bopY k op p y) = bopY h op p y := by
  unfold bopY
  cases op <;> simp [bopYo, on_oc, on_bi]
@[simp] theorem on_bopR (op : BinOp) (x : Xr) (y : AV) : XR.on h (bopR k op x y) = bopR h op x y := by
  unfold bopR
  cases op <;> simp [bopRo, on_oc, on_bi]
@[simp] theorem on_minX (n : Nat) (y : AV) : XR.on h (minX k n y) = minX h n y := by unfold minX; simp
@[simp] theorem on_cvR (t : IntKind) (x : AV) : XR.on h (cvR k t x) = cvR h t x := by unfold cvR; simp
@[simp] theorem on_cmpXi (t f : Bool) : XR.on h (cmpXi k t f) = cmpXi h t f := by unfold cmpXi; simp
@[simp] theorem on_okXi (x : Xi) : XR.on h (okXi x k) = okXi x h := by unfold okXi; simp
@[simp] theorem on_bopXi (op : BinOp) (x : Xi) (y : AV) : XR.on h (bopXi k op x y) = bopXi h op x y := by
  unfold bopXi
  cases op <;> simp [bopXio, on_oc, on_bi]
theorem on_binop (Ty : TypeId → Option TI) (op : BinOp) (t : Option TI) (x y : AV) : XR.on h (binop Ty k op t x y) = binop Ty h op t x y := by
  unfold binop bop2 bop4 bop3 bopX
  simp only [on_oc, on_bi, on_no, on_bopI, on_bopS, on_bopO, on_bopXo, on_bopY, on_bopR, on_bopXi]
theorem on_unop (op : UnOp) (x : AV) : XR.on h (unop k op x) = unop h op x := by
  cases op
  · show XR.on h (oc .no (fun p => kW k p.1 (Int.sub 0 p.2)) (asInt x)) = oc .no (fun p => kW h p.1 (Int.sub 0 p.2)) (asInt x); simp
  · rfl
  · show XR.on h (oc .no (fun b => kBool k (bi b false true)) (asBool x)) = oc .no (fun b => kBool h (bi b false true)) (asBool x); simp
  · rfl
theorem on_build (Ty : TypeId → Option TI) (ps : List (Nat × AV)) (t : Option TI) : XR.on h (xBuild Ty k ps t) = xBuild Ty h ps t := by
  unfold xBuild
  rw [on_oc]
  congr 1
  funext ti
  cases ti.kind <;> first | rfl | skip
  · rename_i fs; show XR.on h (bi (allSz Ty fs) (kAgg k (fillA (placeS Ty fs) ps ti.zero)) .no) = bi (allSz Ty fs) (kAgg h (fillA (placeS Ty fs) ps ti.zero)) .no; simp
  · rename_i n e; show XR.on h (oc .no (fun s => kAgg k (fillA (placeA s) ps ti.zero)) (szOf Ty e)) = oc .no (fun s => kAgg h (fillA (placeA s) ps ti.zero)) (szOf Ty e); simp
@[simp] theorem on_part (l : List AV) (o : Nat) (t : Option TI) : XR.on h (part k l o t) = part h l o t := by unfold part; simp
@[simp] theorem on_ia (b o i n : Nat) (s : Option Nat) : XR.on h (ia k b o i n s) = ia h b o i n s := by unfold ia; simp
theorem on_iaK (t : TK) (Ty : TypeId → Option TI) (i : Nat) (x : AV) : XR.on h (iaK t Ty k i x) = iaK t Ty h i x := by
  cases t <;> first | rfl | skip
  · rename_i e; show XR.on h (oc .no (fun s => ia k s.b s.o i s.len (szOf Ty e)) (asSlc x)) = oc .no (fun s => ia h s.b s.o i s.len (szOf Ty e)) (asSlc x); simp
  · rename_i n e; show XR.on h (oc .no (fun p => ia k p.1 p.2 i n (szOf Ty e)) (asPtr x)) = oc .no (fun p => ia h p.1 p.2 i n (szOf Ty e)) (asPtr x); simp
theorem on_ixK (t : TK) (Ty : TypeId → Option TI) (i : Nat) (x : AV) : XR.on h (ixK t Ty k i x) = ixK t Ty h i x := by
  cases t <;> first | rfl | skip
  · show XR.on h (oc .no (fun l => oc .no (fun n => .val (.int .u8 (.ofNat n)) k) (idx i l)) (asStr x)) = oc .no (fun l => oc .no (fun n => .val (.int .u8 (.ofNat n)) h) (idx i l)) (asStr x); simp
  · rename_i n e; show XR.on h (oc .no (fun l => bi (Nat.blt i n) (oc .no (fun s => part k l (Nat.mul i s) (Ty e)) (szOf Ty e)) .no) (asAgg x)) = oc .no (fun l => bi (Nat.blt i n) (oc .no (fun s => part h l (Nat.mul i s) (Ty e)) (szOf Ty e)) .no) (asAgg x); simp

theorem same_of_on {F : H → XR} (hF : ∀ h k, XR.on h (F k) = F h) {v : AV} {k' : H} (e : F k = .val v k') : k' = k ∧ ∀ h, F h = .val v h := by
  have : k' = k := by
    have := hF k k
    rw [e, on_val] at this
    injection this with _ this
    exact this.symm
  exact ⟨this, fun h => by rw [← hF h k, e]; rfl⟩
/-- What only reckons tells the same over any heap, and leaves it. -/
theorem xop_pure {op : Op} {a : Tm} {v : AV} {k' : H} (hk : kd op = .pure) (e : xop op (mkTI P) a k = .val v k') : k' = k ∧ ∀ h, xop op (mkTI P) a h = .val v h := by
  refine same_of_on (F := fun h => xop op (mkTI P) a h) (fun h k => ?_) e
  cases op <;> first | (cases hk; done) | rfl | skip
  case pick c x y => show XR.on h (xPick k (ev c a) (ev x a) (ev y a)) = xPick h (ev c a) (ev x a) (ev y a); unfold xPick; simp
  case build t ps => exact on_build _ _ _
  case nilCheck x => show XR.on h (xNilCheck k (ev x a)) = xNilCheck h (ev x a); unfold xNilCheck; simp
  case binOp op t x y u => exact on_binop _ _ _ _ _
  case unOp op t x => exact on_unop _ _
  case fieldAddr t x f => show XR.on h (xFieldAddr _ k f (ev x a) _) = xFieldAddr _ h f (ev x a) _; unfold xFieldAddr; simp
  case field t x f => show XR.on h (xField _ k f (ev x a) _) = xField _ h f (ev x a) _; unfold xField; simp
  case indexAddr t x i => show XR.on h (xIndexAddr _ k (ev x a) _ _) = xIndexAddr _ h (ev x a) _ _; unfold xIndexAddr; simp only [on_oc, on_no, on_iaK]
  case index t x i => show XR.on h (xIndex _ k (ev x a) _ _) = xIndex _ h (ev x a) _ _; unfold xIndex; simp only [on_oc, on_no, on_ixK]
  case extract x i => show XR.on h (xExtract k i (ev x a)) = xExtract h i (ev x a); unfold xExtract; simp
  case call c =>
    obtain ⟨callee, args, ts⟩ := c
    cases callee with
    | value f => cases hk
    | invoke r m => cases hk
    | builtin b =>
      cases b <;> first | (cases hk; done) | skip
      · show XR.on h (hd2 (xMax k) (evL args.toList a)) = hd2 (xMax h) (evL args.toList a)
        rcases evL args.toList a with _ | ⟨x, _ | ⟨y, _ | ⟨z, r⟩⟩⟩ <;> first | rfl | skip
        show XR.on h (xMax k x y) = xMax h x y
        unfold xMax; simp
      · show XR.on h (hd2 (xMin k) (evL args.toList a)) = hd2 (xMin h) (evL args.toList a)
        rcases evL args.toList a with _ | ⟨x, _ | ⟨y, _ | ⟨z, r⟩⟩⟩ <;> first | rfl | skip
        show XR.on h (xMin k x y) = xMin h x y
        unfold xMin; simp

/-- It leaves the heap. -/
def Lv (k : H) (r : XR) : Prop := ∀ v k', r = .val v k' → k' = k
theorem Lv.no : Lv k .no := fun _ _ e => by cases e
theorem Lv.val (v : AV) : Lv k (.val v k) := fun _ _ e => by injection e with _ e; exact e.symm
theorem Lv.oc {α : Type} {n : XR} {f : α → XR} {o : Option α} (hn : Lv k n) (hf : ∀ x, Lv k (f x)) : Lv k (oc n f o) := by cases o <;> first | exact hn | exact hf _
theorem Lv.bi {c : Bool} {x y : XR} (hx : Lv k x) (hy : Lv k y) : Lv k (bi c x y) := by cases c <;> first | exact hx | exact hy
theorem Lv.nF {n : Nat} {f : Nat → XR} (hf : ∀ x, Lv k (f x)) : Lv k (nF n f) := by rw [nF_eq]; exact hf _
theorem Lv.kVal (o : Option AV) : Lv k (kVal k o) := .oc .no fun v => .val v
theorem Lv.kAgg (o : Option (List AV)) : Lv k (kAgg k o) := .oc .no fun _ => .val _
theorem Lv.kInt (z : Int) (t : IntKind) : Lv k (kInt z k t) := by cases z with
  | ofNat n => exact Lv.nF (n := n) (f := fun n => .val (.int t (.ofNat n)) k) fun _ => .val _
  | negSucc n => exact Lv.nF (n := n) (f := fun n => .val (.int t (.negSucc n)) k) fun _ => .val _
theorem Lv.part (l : List AV) (o : Nat) (t : Option TI) : Lv k (part k l o t) := .oc .no fun _ => .bi (.kAgg _) (.kVal _)
theorem Lv.cut (s : Slc) (size l u : Nat) : Lv k (cut k s size l u) := by
  unfold Kx.cut
  cases s.cap <;> exact .nF fun _ => .nF fun _ => .nF fun _ => .val _
theorem Lv.cutM (s : Slc) (size l u m : Nat) : Lv k (cutM k s size l u m) := .bi (.bi (.bi (.nF fun _ => .nF fun _ => .nF fun _ => .val _) .no) .no) .no
theorem Lv.sliceX (size : Nat) (s : Slc) (p : Xi × Xi) : Lv k (sliceX k size s p) := .bi (.bi (.bi (.bi (.bi (.oc .no fun _ => .bi .no (.nF fun _ => .nF fun _ => .val _)) .no) .no) .no) .no) .no
theorem Lv.sliceK (t : TK) (Ty : TypeId → Option TI) (x : AV) (lo hi mx : Option AV) : Lv k (sliceK t Ty k x lo hi mx) := by
  cases t <;> first | exact .no | skip
  · exact .bi (.oc .no fun _ => .oc .no fun _ => .oc .no fun _ => .bi (.bi (.val _) .no) .no) .no
  · exact .oc .no fun _ => .oc (.bi (.bi (.bi (.bi (.val _) .no) .no) .no) .no) fun _ => .oc (.oc .no fun _ => .oc .no fun _ => .oc (.bi (.bi (.cut _ _ _ _) .no) .no) fun _ => .bi .no (.oc .no fun _ => .cutM _ _ _ _ _)) fun _ => .sliceX _ _ _
  · exact .oc .no fun _ => .oc .no fun _ => .oc .no fun _ => .oc .no fun _ => .oc (.bi (.bi (.nF fun _ => .nF fun _ => .nF fun _ => .val _) .no) .no) fun _ => .no
theorem Lv.convK (t : TK) (Ty : TypeId → Option TI) (s : Option TI) (x : AV) : Lv k (convK t Ty k s x) := by
  cases t <;> first | exact .no | skip
  · exact .oc (.oc .no fun _ => .bi (.bi (.val _) .no) .no) fun _ => .kInt _ _
  · exact .oc (.bi (.oc (.bi (.val _) .no) fun _ => .oc .no fun _ => .oc .no fun _ => .val _) .no) fun _ => .val _
theorem Lv.lenK (t : TK) (x : AV) : Lv k (lenK t x k) := by
  cases t <;> first | exact .no | skip
  · exact .oc .no fun _ => .kInt _ _
  · cases x <;> first | exact .no | exact Lv.bi (x := .val _ k) (y := Kx.kInt (.ofNat _) k .i64) (.val _) (.kInt _ _) | exact Lv.kInt (.ofNat _) .i64 | exact Lv.kInt (k := k) (.ofNat (nat_lit 0)) .i64 | exact Lv.kInt (k := k) (.ofNat 0) .i64
  · cases x <;> first | exact .no | exact Lv.oc (n := .no) .no fun _ => Lv.kInt (.ofNat _) .i64 | exact Lv.kInt (.ofNat _) .i64 | exact Lv.kInt (k := k) (.ofNat (nat_lit 0)) .i64 | exact Lv.kInt (k := k) (.ofNat 0) .i64
  · exact Lv.kInt (.ofNat _) .i64
/-- What only reads leaves the heap. -/
theorem xop_read {op : Op} {a : Tm} {v : AV} {k' : H} (hk : kd op = .read) (e : xop op (mkTI P) a k = .val v k') : k' = k := by
  refine (?_ : Lv k (xop op (mkTI P) a k)) v k' e
  cases op <;> first | (cases hk; done) | skip
  case load t x => exact .oc .no fun _ => .oc .no fun _ => .oc .no fun _ => .bi (.kAgg _) (.kVal _)
  case slice t x lo hi mx => exact .oc .no fun _ => .sliceK _ _ _ _ _ _
  case convert s d x => exact .bi (.oc .no fun _ => .convK _ _ _ _) .no
  case lookup t x i ok => exact .oc .no fun _ => .oc .no fun _ => .oc (.bi (.oc .no fun r => .oc (.val _) fun _ => .val _) .no) fun _ => .oc .no fun _ => .oc .no fun r => .oc (.val _) fun _ => .val _
  case call c =>
    obtain ⟨callee, args, ts⟩ := c
    cases callee with
    | value f => cases hk
    | invoke r m => cases hk
    | builtin b =>
      cases b <;> first | (cases hk; done) | skip
      show Lv k (hd1 (fun x => hd1 (fun t => xLen x k (mkTI P t)) ts.toList) (evL args.toList a))
      rcases evL args.toList a with _ | ⟨x, _ | ⟨y, r⟩⟩ <;> first | exact .no | skip
      rcases ts.toList with _ | ⟨x', _ | ⟨y', r'⟩⟩ <;> first | exact .no | skip
      exact .oc .no fun _ => .lenK _ _

/-- It lays a new block, the same over any heap. -/
def Al (F : H → XR) : Prop := ∀ k v k', F k = .val v k' → ∃ ob, ∀ m, F ⟨m, k.next⟩ = .val v ⟨m.set k.next ob, k.next + 1⟩
theorem Al.no : Al fun _ => .no := fun _ _ _ e => by cases e
theorem Al.oc {α : Type} {f : α → H → XR} {o : Option α} (hf : ∀ x, Al (f x)) : Al fun h => oc .no (fun x => f x h) o := by cases o <;> first | exact .no | exact hf _
theorem Al.bi {c : Bool} {x : H → XR} (hx : Al x) : Al fun h => Kx.bi c (x h) .no := by cases c <;> first | exact .no | exact hx
theorem Al.kNew (o : AObj) (f : Nat → AV) : Al fun h => kNew h o f := fun k v k' e => by
  simp only [Kx.kNew, nF_eq] at e
  injection e with e1 e2
  exact ⟨o, fun m => by simp only [Kx.kNew, nF_eq, e1]⟩
theorem xop_alloc {op : Op} {a : Tm} {v : AV} {k' : H} (hk : kd op = .alloc) (e : xop op (mkTI P) a k = .val v k') : ∃ ob, ∀ m, xop op (mkTI P) a ⟨m, k.next⟩ = .val v ⟨m.set k.next ob, k.next + 1⟩ := by
  refine (?_ : Al fun h => xop op (mkTI P) a h) k v k' e
  cases op <;> first | (cases hk; done) | skip
  case alloc e => exact .oc fun _ => .kNew _ _
  case box e x => exact .bi (.kNew _ _)
  case buildSlice t n ps => exact .oc fun _ => .oc fun _ => .bi (.oc fun _ => .kNew _ _)
  case makeMap t r => exact .bi (.kNew _ _)
  case makeSlice t l c => exact .oc fun _ => .oc fun _ => .oc fun _ => .oc fun _ => .bi (.bi (.kNew _ _))
  case call c =>
    obtain ⟨callee, args, ts⟩ := c
    cases callee <;> first | (cases hk; done) | skip
    rename_i b
    cases b <;> cases hk
/-- A new block is new in the model too, whatever else lies in the heap. -/
theorem xop_late {B0 : Nat} {g : G} {h : H} {w : World} (hr : HR B0 g h w) (hB : B0 ≤ w.heap.size) (hp : g.pos h.next = none) (hgr : g.grow h.next = none) (o : Oper) (hk : kd o.op = .alloc) (a : Tm) (ρ : Operand → Value) (he : ∀ x ∈ o.op.operands, VR g (ev x a) (ρ x)) :
    OG P B0 g h w (execOp ρ o) (xop o.op (mkTI P) a h) := by
  cases ho : o.op <;> rw [ho] at he hk <;> first | (cases hk; done) | skip
  case alloc e => simp only [execOp, ho]; exact OG.of_VG (alloc_good hr hB hp hgr e)
  case box e x => simp only [execOp, ho]; exact OG.of_VG (box_good hr hB hp hgr e _ _ (he x (by simp [Op.operands])))
  case buildSlice t n ps =>
    simp only [execOp, ho]
    refine OG.of_VG (buildSlice_good hr hB hp hgr t n _ _ ?_)
    rw [Array.toList_map]
    exact prs_PRs _ (fun p hp => he p.2 (by simp [Op.operands]; exact ⟨p.1, by simpa using hp⟩))
  case makeMap t r =>
    cases r with
    | some x => trivial
    | none =>
      unfold execOp
      rw [ho]
      exact OG.of_VG (makeMap_good hr hB hp hgr t)
  case makeSlice t l c => simp only [execOp, ho]; exact OG.of_VG (makeSlice_good hr hB hp hgr t _ _ _ _ (he l (by simp [Op.operands])) (he c (by simp [Op.operands])))
  case call c =>
    obtain ⟨callee, args, ts⟩ := c
    cases callee <;> first | (cases hk; done) | skip
    rename_i b
    cases b <;> cases hk
end
end Go.Proofs.YtimjbojoeacaeaaDoor.Kx
