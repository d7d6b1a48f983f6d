/- An evaluator for runs of a program whose data is known, made for the kernel: values with block numbers of their own, finite maps, the operations, code. Plain definitions; what they have to do with the model is shown elsewhere. -/
import GoSem.Step
namespace Go.Proofs.YtimjbojoeacaeaaDoor.Kx
noncomputable section

def bi {β : Type} (c : Bool) (t e : β) : β := @Bool.rec (fun _ => β) e t c
def oc {α β : Type} (n : β) (s : α → β) (o : Option α) : β := @Option.rec α (fun _ => β) n s o
/-- The number is written out before the rest goes on. -/
def nF {β : Type} (n : Nat) (k : Nat → β) : β := @Nat.rec (fun _ => β) (k (nat_lit 0)) (fun m _ => k (Nat.succ m)) n

/-! Finite maps from numbers. -/
inductive P where
  | z
  | a (p : P)
  | b (p : P)
inductive T (α : Type) where
  | e
  | n (v : Option α) (l r : T α)
def pthF (f : Nat) : Nat → P := @Nat.rec (fun _ => Nat → P) (fun _ => .z)
  (fun _ g k => bi (Nat.beq k (nat_lit 0)) .z (bi (Nat.beq (Nat.mod k (nat_lit 2)) (nat_lit 1)) (.a (g (Nat.div k (nat_lit 2)))) (.b (g (Nat.sub (Nat.div k (nat_lit 2)) (nat_lit 1)))))) f
def pth (k : Nat) : P := pthF (Nat.succ k) k
def T.getP {α : Type} (t : T α) : P → Option α :=
  @T.rec α (fun _ => P → Option α) (fun _ => none) (fun v _ _ gl gr p => @P.rec (fun _ => Option α) v (fun p _ => gl p) (fun p _ => gr p) p) t
def T.setP {α : Type} (x : α) (p : P) : T α → T α :=
  @P.rec (fun _ => T α → T α)
    (fun t => @T.rec α (fun _ => T α) (.n (some x) .e .e) (fun _ l r _ _ => .n (some x) l r) t)
    (fun _ g t => @T.rec α (fun _ => T α) (.n none (g .e) .e) (fun v l r _ _ => .n v (g l) r) t)
    (fun _ g t => @T.rec α (fun _ => T α) (.n none .e (g .e)) (fun v l r _ _ => .n v l (g r)) t) p
def T.get {α : Type} (t : T α) (k : Nat) : Option α := t.getP (pth k)
def T.set {α : Type} (t : T α) (k : Nat) (x : α) : T α := T.setP x (pth k) t

/-! Values. -/
inductive Cap where
  | k (n : Nat)
  | v (s k : Nat)
/-- An int that is known by a letter: a times the letter's number and c; at least lo, at most hi. -/
structure Xi where
  k : Nat
  a : Int
  c : Int
  lo : Int
  hi : Int
inductive AV where
  | any
  | bool (b : Bool)
  | int (k : IntKind) (n : Int)
  | str (l : List Nat)
  | nilp
  | ptr (b o : Nat)
  | nils
  | slc (b o len : Nat) (cap : Cap)
  | nilm
  | map (b : Nat)
  | fn (f : Fn) (first cap : List AV)
  | nilf
  | ifc (t : TypeId) (v : AV)
  | nili
  | agg (l : List AV)
  | tup (l : List AV)
  | xslc (n : Nat) (ge : Bool)
  | xnat (n : Nat)
  | xres (k m : Nat) (r : Int)
  | xi (x : Xi)
  | xz (b n L : Nat)
/-- An iterator: over a text, over a map. -/
inductive It where
  | s (l : List Nat) (pos : Nat)
  | m (b since : Nat) (seen : List Nat) (last : Nat)
  | b (m : Nat) (t : TypeId)
inductive AObj where
  | cells (l : List AV) (t : TypeId)
  | map (es : List (AV × AV × Nat)) (clock : Nat)
  | sit (it : It)
  | dead
inductive TK where
  | bool | int (k : IntKind) | str | slice (e : TypeId) | ptr (e : TypeId) | map (k e : TypeId) | struct (fs : List (Nat × TypeId)) | arr (n : Nat) (e : TypeId) | iface | func | other
structure TI where
  kind : TK
  size : Nat
  bytes : Nat
  zero : List AV
  eqs : Bool

def kOf : TypeDesc → TK := (@TypeDesc.rec (fun _ => TK) (.other) (.bool) (fun k => .int k) (fun _ => .other) (fun _ => .other) (.str) (.other) (fun e => .ptr e) (fun e => .slice e) (fun n e => .arr n e) (fun k e => .map k e) (fun _ _ => .other) (fun fs => .struct (fs.toList.map fun f => (f.offset, f.type))) (fun _ _ _ => .func) (fun _ => .iface) (fun _ => .other) (fun _ _ => .other) )
/-! Lists. -/
def lenA {α : Type} (l : List α) : Nat → Nat := @List.rec α (fun _ => Nat → Nat) (fun n => n) (fun _ _ g n => nF n fun n => g (Nat.succ n)) l
def len {α : Type} (l : List α) : Nat := lenA l (nat_lit 0)
def drp {α : Type} (n : Nat) : List α → List α := @Nat.rec (fun _ => List α → List α) (fun l => l) (fun _ g l => @List.rec α (fun _ => List α) [] (fun _ r _ => g r) l) n
def tak {α : Type} (n : Nat) : List α → List α := @Nat.rec (fun _ => List α → List α) (fun _ => []) (fun _ g l => @List.rec α (fun _ => List α) [] (fun x r _ => x :: g r) l) n
def idx {α : Type} (n : Nat) : List α → Option α := @Nat.rec (fun _ => List α → Option α) (fun l => @List.rec α (fun _ => Option α) none (fun x _ _ => some x) l) (fun _ g l => @List.rec α (fun _ => Option α) none (fun _ r _ => g r) l) n
def app {α : Type} (x y : List α) : List α := @List.rec α (fun _ => List α) y (fun a _ r => a :: r) x
def ovr {α : Type} (ys : List α) : List α → List α := @List.rec α (fun _ => List α → List α) (fun l => l) (fun y _ g l => y :: g (drp (nat_lit 1) l)) ys
def putL {α : Type} (ys : List α) (o : Nat) : List α → List α := @Nat.rec (fun _ => List α → List α) (fun l => ovr ys l) (fun _ g l => @List.rec α (fun _ => List α) [] (fun x r _ => x :: g r) l) o
def sub (l : List AV) (o n : Nat) : Option (List AV) := bi (Nat.ble (Nat.add o n) (len l)) (some (tak n (drp o l))) none
def put (o : Nat) (ys l : List AV) : Option (List AV) := bi (Nat.ble (Nat.add o (len ys)) (len l)) (some (putL ys o l)) none
def repl (z : List AV) (n : Nat) : List AV := @Nat.rec (fun _ => List AV) [] (fun _ g => app z g) n

/-! Views of a value. -/
def asBool : AV → Option Bool := (@AV.rec (fun _ => Option Bool) (fun _ => Unit) (none) (fun b => some b) (fun _ _ => none) (fun _ => none) (none) (fun _ _ => none) (none) (fun _ _ _ _ => none) (none) (fun _ => none) (fun _ _ _ _ _ => none) (none) (fun _ _ _ => none) (none) (fun _ _ => none) (fun _ _ => none) (fun _ _ => none) (fun _ => none) (fun _ _ _ => none) (fun _ => none) (fun _ _ _ => none) () (fun _ _ _ _ => ()))
def asInt : AV → Option (IntKind × Int) := (@AV.rec (fun _ => Option (IntKind × Int)) (fun _ => Unit) (none) (fun _ => none) (fun k n => some (k, n)) (fun _ => none) (none) (fun _ _ => none) (none) (fun _ _ _ _ => none) (none) (fun _ => none) (fun _ _ _ _ _ => none) (none) (fun _ _ _ => none) (none) (fun _ _ => none) (fun _ _ => none) (fun _ _ => none) (fun _ => none) (fun _ _ _ => none) (fun _ => none) (fun _ _ _ => none) () (fun _ _ _ _ => ()))
def asStr : AV → Option (List Nat) := (@AV.rec (fun _ => Option (List Nat)) (fun _ => Unit) (none) (fun _ => none) (fun _ _ => none) (fun l => some l) (none) (fun _ _ => none) (none) (fun _ _ _ _ => none) (none) (fun _ => none) (fun _ _ _ _ _ => none) (none) (fun _ _ _ => none) (none) (fun _ _ => none) (fun _ _ => none) (fun _ _ => none) (fun _ => none) (fun _ _ _ => none) (fun _ => none) (fun _ _ _ => none) () (fun _ _ _ _ => ()))
def asPtr : AV → Option (Nat × Nat) := (@AV.rec (fun _ => Option (Nat × Nat)) (fun _ => Unit) (none) (fun _ => none) (fun _ _ => none) (fun _ => none) (none) (fun b o => some (b, o)) (none) (fun _ _ _ _ => none) (none) (fun _ => none) (fun _ _ _ _ _ => none) (none) (fun _ _ _ => none) (none) (fun _ _ => none) (fun _ _ => none) (fun _ _ => none) (fun _ => none) (fun _ _ _ => none) (fun _ => none) (fun _ _ _ => none) () (fun _ _ _ _ => ()))
structure Slc where
  b : Nat
  o : Nat
  len : Nat
  cap : Cap
def asSlc : AV → Option Slc := (@AV.rec (fun _ => Option Slc) (fun _ => Unit) (none) (fun _ => none) (fun _ _ => none) (fun _ => none) (none) (fun _ _ => none) (none) (fun b o n c => some ⟨b, o, n, c⟩) (none) (fun _ => none) (fun _ _ _ _ _ => none) (none) (fun _ _ _ => none) (none) (fun _ _ => none) (fun _ _ => none) (fun _ _ => none) (fun _ => none) (fun _ _ _ => none) (fun _ => none) (fun _ _ _ => none) () (fun _ _ _ _ => ()))
def asMap : AV → Option Nat := (@AV.rec (fun _ => Option Nat) (fun _ => Unit) (none) (fun _ => none) (fun _ _ => none) (fun _ => none) (none) (fun _ _ => none) (none) (fun _ _ _ _ => none) (none) (fun b => some b) (fun _ _ _ _ _ => none) (none) (fun _ _ _ => none) (none) (fun _ _ => none) (fun _ _ => none) (fun _ _ => none) (fun _ => none) (fun _ _ _ => none) (fun _ => none) (fun _ _ _ => none) () (fun _ _ _ _ => ()))
def asAgg : AV → Option (List AV) := (@AV.rec (fun _ => Option (List AV)) (fun _ => Unit) (none) (fun _ => none) (fun _ _ => none) (fun _ => none) (none) (fun _ _ => none) (none) (fun _ _ _ _ => none) (none) (fun _ => none) (fun _ _ _ _ _ => none) (none) (fun _ _ _ => none) (none) (fun l _ => some l) (fun _ _ => none) (fun _ _ => none) (fun _ => none) (fun _ _ _ => none) (fun _ => none) (fun _ _ _ => none) () (fun _ _ _ _ => ()))
def asTup : AV → Option (List AV) := (@AV.rec (fun _ => Option (List AV)) (fun _ => Unit) (none) (fun _ => none) (fun _ _ => none) (fun _ => none) (none) (fun _ _ => none) (none) (fun _ _ _ _ => none) (none) (fun _ => none) (fun _ _ _ _ _ => none) (none) (fun _ _ _ => none) (none) (fun _ _ => none) (fun l _ => some l) (fun _ _ => none) (fun _ => none) (fun _ _ _ => none) (fun _ => none) (fun _ _ _ => none) () (fun _ _ _ _ => ()))
def cellsOf : AV → List AV := (@AV.rec (fun _ => AV → List AV) (fun _ => Unit) (fun v => [v]) (fun _ => fun v => [v]) (fun _ _ => fun v => [v]) (fun _ => fun v => [v]) (fun v => [v]) (fun _ _ => fun v => [v]) (fun v => [v]) (fun _ _ _ _ => fun v => [v]) (fun v => [v]) (fun _ => fun v => [v]) (fun _ _ _ _ _ => fun v => [v]) (fun v => [v]) (fun _ _ _ => fun v => [v]) (fun v => [v]) (fun l _ => fun _ => l) (fun _ _ => fun v => [v]) (fun _ _ => fun v => [v]) (fun _ => fun v => [v]) (fun _ _ _ => fun v => [v]) (fun _ => fun v => [v]) (fun _ _ _ => fun v => [v]) () (fun _ _ _ _ => ())) |> fun f v => f v v
def isNilm : AV → Bool := (@AV.rec (fun _ => Bool) (fun _ => Unit) (false) (fun _ => false) (fun _ _ => false) (fun _ => false) (false) (fun _ _ => false) (false) (fun _ _ _ _ => false) (true) (fun _ => false) (fun _ _ _ _ _ => false) (false) (fun _ _ _ => false) (false) (fun _ _ => false) (fun _ _ => false) (fun _ _ => false) (fun _ => false) (fun _ _ _ => false) (fun _ => false) (fun _ _ _ => false) () (fun _ _ _ _ => ()))
def isNils : AV → Bool := (@AV.rec (fun _ => Bool) (fun _ => Unit) (false) (fun _ => false) (fun _ _ => false) (fun _ => false) (false) (fun _ _ => false) (true) (fun _ _ _ _ => false) (false) (fun _ => false) (fun _ _ _ _ _ => false) (false) (fun _ _ _ => false) (false) (fun _ _ => false) (fun _ _ => false) (fun _ _ => false) (fun _ => false) (fun _ _ _ => false) (fun _ => false) (fun _ _ _ => false) () (fun _ _ _ _ => ()))
def okV : AV → Bool := (@AV.rec (fun _ => Bool) (fun _ => Unit) (false) (fun _ => true) (fun _ _ => true) (fun _ => true) (true) (fun _ _ => true) (true) (fun _ _ _ _ => true) (true) (fun _ => true) (fun _ _ _ _ _ => true) (true) (fun _ _ _ => true) (true) (fun _ _ => true) (fun _ _ => false) (fun _ _ => true) (fun _ => true) (fun _ _ _ => true) (fun _ => true) (fun _ _ _ => true) () (fun _ _ _ _ => ()))
def natI : Int → Option Nat := (@Int.rec (fun _ => Option Nat) (fun n => some n) (fun _ => none) )
def intNat : AV → Option Nat := (@AV.rec (fun _ => Option Nat) (fun _ => Unit) (none) (fun _ => none) (fun _ n => natI n) (fun _ => none) (none) (fun _ _ => none) (none) (fun _ _ _ _ => none) (none) (fun _ => none) (fun _ _ _ _ _ => none) (none) (fun _ _ _ => none) (none) (fun _ _ => none) (fun _ _ => none) (fun _ _ => none) (fun _ => none) (fun _ _ _ => none) (fun _ => none) (fun _ _ _ => none) () (fun _ _ _ _ => ()))

/-! Constants, operands. -/
def byteL (l : List UInt8) : List Nat := @List.rec UInt8 (fun _ => List Nat) [] (fun c _ r => c.toNat :: r) l
def zz (a c : Nat) : AV := bi (Nat.beq a (nat_lit 0)) (bi (Nat.beq c (nat_lit 0)) .nils .any) .any
def ofV1 : Value → AV := (@Value.rec (fun _ => AV) (fun _ => Unit) (fun _ => Unit) (fun b => .bool b) (fun k n => .int k n) (fun _ _ => .any) (fun _ _ _ => .any) (fun s => .str (byteL s.data.toList)) (fun a => oc .nilp (fun _ => .any) a) (fun a n c => oc (zz n c) (fun _ => .any) a) (fun r => oc .nilm (fun _ => .any) r) (fun _ => .any) (fun _ _ _ _ _ => .any) (.nilf) (fun _ _ _ => .any) (.nili) (fun _ _ => .any) (fun _ _ => .any) (fun _ _ => ()) () (fun _ _ _ _ => ()))
def ofVs (l : List Value) : List AV := @List.rec Value (fun _ => List AV) [] (fun v _ r => ofV1 v :: r) l
def cellOk : AV → Bool := (@AV.rec (fun _ => Bool) (fun _ => Unit) (false) (fun _ => true) (fun _ _ => true) (fun _ => true) (true) (fun _ _ => true) (true) (fun _ _ _ _ => true) (true) (fun _ => true) (fun _ _ _ _ _ => true) (true) (fun _ _ _ => true) (true) (fun _ _ => false) (fun _ _ => false) (fun _ _ => true) (fun _ => true) (fun _ _ _ => true) (fun _ => true) (fun _ _ _ => true) () (fun _ _ _ _ => ()))
def allCell (l : List AV) : Bool := @List.rec AV (fun _ => Bool) true (fun v _ r => bi (cellOk v) r false) l
def aggC (l : List AV) : AV := bi (allCell l) (.agg l) .any
def ofV (v : Value) : AV := (@Value.rec (fun _ => Value → AV) (fun _ => Unit) (fun _ => Unit) (fun _ => ofV1) (fun _ _ => ofV1) (fun _ _ => ofV1) (fun _ _ _ => ofV1) (fun _ => ofV1) (fun _ => ofV1) (fun _ _ _ => ofV1) (fun _ => ofV1) (fun _ => ofV1) (fun _ _ _ _ _ => ofV1) (ofV1) (fun _ _ _ => ofV1) (ofV1) (fun l _ => fun _ => aggC (ofVs l.toList)) (fun _ _ => ofV1) (fun _ _ => ()) () (fun _ _ _ _ => ())) v v
def zeroCellsOf (z : Value) : List AV := ofVs z.cells.toList
def isAgg : TK → Bool := (@TK.rec (fun _ => Bool) (false) (fun _ => false) (false) (fun _ => false) (fun _ => false) (fun _ _ => false) (fun _ => true) (fun _ _ => true) (false) (false) (false) )
def isAggV : Value → Bool := (@Value.rec (fun _ => Bool) (fun _ => Unit) (fun _ => Unit) (fun _ => false) (fun _ _ => false) (fun _ _ => false) (fun _ _ _ => false) (fun _ => false) (fun _ => false) (fun _ _ _ => false) (fun _ => false) (fun _ => false) (fun _ _ _ _ _ => false) (false) (fun _ _ _ => false) (false) (fun _ _ => true) (fun _ _ => false) (fun _ _ => ()) () (fun _ _ _ _ => ()))
def namesOk (l : List Field) : Bool := @List.rec Field (fun _ => Bool) true (fun f _ r => bi (f.name == "_") false r) l
def fldOk : TypeDesc → Bool := (@TypeDesc.rec (fun _ => Bool) (false) (false) (fun _ => false) (fun _ => false) (fun _ => false) (false) (false) (fun _ => false) (fun _ => false) (fun _ _ => false) (fun _ _ => false) (fun _ _ => false) (fun fs => namesOk fs.toList) (fun _ _ _ => false) (fun _ => false) (fun _ => false) (fun _ _ => false) )
def eqsOf (P : Program) (t : TypeId) (d : TypeDesc) : Bool := bi (P.stoodInHeld t) false (bi (P.eqGuardType P.depth t) false (fldOk d))
def mkTI (P : Program) (t : TypeId) : Option TI := oc none (fun i => oc none (fun d => oc none (fun z => bi (bi (allCell (zeroCellsOf z)) (bi (Nat.beq (len (zeroCellsOf z)) i.size) (bi (isAgg (kOf d)) (isAggV z) (bi (isAggV z) false true)) false) false) (some ⟨kOf d, i.size, i.bytes, zeroCellsOf z, eqsOf P t d⟩) none) i.zero) (P.underlying t)) (P.info? t)
abbrev Tm := T AV
def tmD (o : Option AV) : AV := oc .any (fun v => v) o
def ev : Operand → Tm → AV := (@Operand.rec (fun _ => Tm → AV) (fun t => fun a => tmD (a.get t)) (fun v => fun _ => ofV v) (fun _ => fun _ => .any) (fun f => fun _ => .fn (.func f) [] []) )
def evO (x : Option Operand) (a : Tm) : Option AV := oc none (fun x => some (ev x a)) x
def evL (l : List Operand) : Tm → List AV := @List.rec Operand (fun _ => Tm → List AV) (fun _ => []) (fun x _ g a => ev x a :: g a) l
def prs (l : List (Nat × Operand)) : Tm → List (Nat × AV) := @List.rec (Nat × Operand) (fun _ => Tm → List (Nat × AV)) (fun _ => []) (fun p _ g a => (p.1, ev p.2 a) :: g a) l

structure H where
  m : T AObj
  next : Nat
def H.upd (h : H) (b : Nat) (o : AObj) : H := ⟨h.m.set b o, h.next⟩
inductive XR where
  | no
  | val (v : AV) (h : H)
  | call (f : FuncId) (args : List AV) (h : H)

def elemK : TK → Option TypeId := (@TK.rec (fun _ => Option TypeId) (none) (fun _ => none) (none) (fun e => some e) (fun _ => none) (fun _ _ => none) (fun _ => none) (fun _ _ => none) (none) (none) (none) )
def elemT (t : Option TI) : Option TypeId := oc none (fun ti => elemK ti.kind) t
def mapK : TK → Option (TypeId × TypeId) := (@TK.rec (fun _ => Option (TypeId × TypeId)) (none) (fun _ => none) (none) (fun _ => none) (fun _ => none) (fun k e => some (k, e)) (fun _ => none) (fun _ _ => none) (none) (none) (none) )
def mapT (t : Option TI) : Option (TypeId × TypeId) := oc none (fun ti => mapK ti.kind) t
def szOf (Ty : TypeId → Option TI) (t : TypeId) : Option Nat := oc none (fun ti => some ti.size) (Ty t)
def objCells (o : Option AObj) : Option (List AV × TypeId) := oc none ((@AObj.rec (fun _ => Option (List AV × TypeId)) (fun l t => some (l, t)) (fun _ _ => none) (fun _ => none) (none) )) o
structure Mp where
  es : List (AV × AV × Nat)
  clock : Nat
def objMap (o : Option AObj) : Option Mp := oc none ((@AObj.rec (fun _ => Option Mp) (fun _ _ => none) (fun es c => some ⟨es, c⟩) (fun _ => none) (none) )) o

/-! What comes of an operation. -/
def kNew (h : H) (o : AObj) (v : Nat → AV) : XR := nF h.next fun n => .val (v n) ⟨h.m.set n o, Nat.succ n⟩
def kBool (h : H) (b : Bool) : XR := bi b (.val (.bool true) h) (.val (.bool false) h)
def kInt (z : Int) (h : H) (k : IntKind) : XR := (@Int.rec (fun _ => H → IntKind → XR) (fun n => fun h k => nF n fun n => .val (.int k (.ofNat n)) h) (fun n => fun h k => nF n fun n => .val (.int k (.negSucc n)) h) ) z h k
def kVal (h : H) (o : Option AV) : XR := oc .no (fun v => .val v h) o
def kAgg (h : H) (o : Option (List AV)) : XR := oc .no (fun l => .val (.agg l) h) o
def kUpd (h : H) (b : Nat) (t : TypeId) (v : AV) (o : Option (List AV)) : XR := oc .no (fun l => .val v (h.upd b (.cells l t))) o
def kBoolO (h : H) (o : Option Bool) : XR := oc .no (kBool h) o

/-! The operations. -/
def xPick (h : H) (c x y : AV) : XR := oc .no (fun b => .val (bi b x y) h) (asBool c)
def xAlloc (h : H) (e : TypeId) (t : Option TI) : XR := oc .no (fun ti => kNew h (.cells ti.zero e) fun n => .ptr n 0) t
def xBox (h : H) (e : TypeId) (v : AV) : XR := bi (okV v) (kNew h (.cells (cellsOf v) e) fun n => .ptr n 0) .no
/-- A part is laid into the cells: at off, of this size. -/
def fill1 (v : AV) (g : List AV → Option (List AV)) (cs : List AV) (pl : Option (Nat × Nat)) : Option (List AV) :=
  bi (okV v) (oc none (fun p => bi (Nat.beq (len (cellsOf v)) p.2) (oc none g (put p.1 (cellsOf v) cs)) none) pl) none
def fillA (place : Nat → Option (Nat × Nat)) (l : List (Nat × AV)) : List AV → Option (List AV) :=
  @List.rec (Nat × AV) (fun _ => List AV → Option (List AV)) (fun cs => some cs) (fun p _ g cs => fill1 p.2 g cs (place p.1)) l
def placeS (Ty : TypeId → Option TI) (fs : List (Nat × TypeId)) (i : Nat) : Option (Nat × Nat) := oc none (fun p => oc none (fun s => some (p.1, s)) (szOf Ty p.2)) (idx i fs)
def placeA (s : Nat) (i : Nat) : Option (Nat × Nat) := some (Nat.mul i s, s)
def allSz (Ty : TypeId → Option TI) (fs : List (Nat × TypeId)) : Bool := @List.rec (Nat × TypeId) (fun _ => Bool) true (fun p _ r => oc false (fun _ => r) (szOf Ty p.2)) fs
def xBuildK : TK → (TypeId → Option TI) → H → List (Nat × AV) → List AV → XR := (@TK.rec (fun _ => (TypeId → Option TI) → H → List (Nat × AV) → List AV → XR) (fun _ _ _ _ => .no) (fun _ => fun _ _ _ _ => .no) (fun _ _ _ _ => .no) (fun _ => fun _ _ _ _ => .no) (fun _ => fun _ _ _ _ => .no) (fun _ _ => fun _ _ _ _ => .no) (fun fs => fun Ty h ps z => bi (allSz Ty fs) (kAgg h (fillA (placeS Ty fs) ps z)) .no) (fun _ e => fun Ty h ps z => oc .no (fun s => kAgg h (fillA (placeA s) ps z)) (szOf Ty e)) (fun _ _ _ _ => .no) (fun _ _ _ _ => .no) (fun _ _ _ _ => .no) )
def xBuild (Ty : TypeId → Option TI) (h : H) (ps : List (Nat × AV)) (t : Option TI) : XR := oc .no (fun ti => xBuildK ti.kind Ty h ps ti.zero) t
def xBuildS (Ty : TypeId → Option TI) (h : H) (n : Nat) (ps : List (Nat × AV)) (e : TypeId) : XR :=
  oc .no (fun te => bi (Nat.ble (Nat.mul n te.size) 16777216) (oc .no (fun cs => kNew h (.cells cs e) fun b => .slc b 0 n (.k n)) (fillA (placeA te.size) ps (repl te.zero n))) .no) (Ty e)
def ld (h : H) (o : Nat) (ti : TI) (l : List AV) : XR := bi (isAgg ti.kind) (kAgg h (sub l o ti.size)) (kVal h (idx o l))
def xLoad (h : H) (x : AV) (t : Option TI) : XR := oc .no (fun p => oc .no (fun ti => oc .no (fun c => ld h p.2 ti c.1) (objCells (h.m.get p.1))) t) (asPtr x)
def st (h : H) (b o size : Nat) (v : List AV) (c : List AV × TypeId) : XR := bi (Nat.beq (len v) size) (kUpd h b c.2 (.tup []) (put o v c.1)) .no
def xStore (h : H) (v x : AV) (t : Option TI) : XR := bi (okV v) (oc .no (fun p => oc .no (fun ti => oc .no (st h p.1 p.2 ti.size (cellsOf v)) (objCells (h.m.get p.1))) t) (asPtr x)) .no
def isFunc : Fn → Bool := (@Fn.rec (fun _ => Bool) (fun _ => true) (fun _ => false) (fun _ _ => false) (fun _ _ _ _ => false) (fun _ => false) )
def notNil : AV → Bool := (@AV.rec (fun _ => Bool) (fun _ => Unit) (false) (fun _ => false) (fun _ _ => false) (fun _ => false) (false) (fun _ _ => true) (false) (fun _ _ _ _ => false) (false) (fun _ => true) (fun f _ _ _ _ => isFunc f) (false) (fun _ _ _ => false) (false) (fun _ _ => false) (fun _ _ => false) (fun _ _ => false) (fun _ => false) (fun _ _ _ => false) (fun _ => false) (fun _ _ _ => false) () (fun _ _ _ _ => ()))
def xNilCheck (h : H) (v : AV) : XR := bi (notNil v) (.val v h) .no

def lbeq (x : List Nat) : List Nat → Bool := @List.rec Nat (fun _ => List Nat → Bool) (fun y => @List.rec Nat (fun _ => Bool) true (fun _ _ _ => false) y)
  (fun a _ g y => @List.rec Nat (fun _ => Bool) false (fun b r _ => bi (Nat.beq a b) (g r) false) y) x
def bless (x : List Nat) : List Nat → Bool := @List.rec Nat (fun _ => List Nat → Bool) (fun y => @List.rec Nat (fun _ => Bool) false (fun _ _ _ => true) y)
  (fun a _ g y => @List.rec Nat (fun _ => Bool) false (fun b r _ => bi (Nat.blt a b) true (bi (Nat.beq a b) (g r) false)) y) x
def ilt : Int → Int → Bool := (@Int.rec (fun _ => Int → Bool) (fun a => (@Int.rec (fun _ => Bool) (fun b => Nat.blt a b) (fun _ => false) )) (fun a => (@Int.rec (fun _ => Bool) (fun _ => true) (fun b => Nat.blt b a) )) )
def ieq : Int → Int → Bool := (@Int.rec (fun _ => Int → Bool) (fun a => (@Int.rec (fun _ => Bool) (fun b => Nat.beq a b) (fun _ => false) )) (fun a => (@Int.rec (fun _ => Bool) (fun _ => false) (fun b => Nat.beq b a) )) )
/-- Wrapped, quickly where it is nought or more. -/
def fwrap (z : Int) (k : IntKind) : Int := (@Int.rec (fun _ => IntKind → Int) (fun n => fun k => (@IntKind.rec (fun _ => Nat → Int) (fun n => IntKind.wrap .i8 (.ofNat n)) (fun n => IntKind.wrap .i16 (.ofNat n)) (fun n => IntKind.wrap .i32 (.ofNat n)) (fun n => bi (Nat.blt n (nat_lit 9223372036854775808)) (.ofNat n) (IntKind.wrap .i64 (.ofNat n))) (fun n => .ofNat (Nat.mod n (nat_lit 256))) (fun n => .ofNat (Nat.mod n (nat_lit 65536))) (fun n => .ofNat (Nat.mod n (nat_lit 4294967296))) (fun n => .ofNat (Nat.mod n (nat_lit 18446744073709551616))) ) k n) (fun n => fun k => k.wrap (.negSucc n)) ) z k
def pw (k : IntKind) : Nat := (@IntKind.rec (fun _ => Nat) (nat_lit 256) (nat_lit 65536) (nat_lit 4294967296) (nat_lit 18446744073709551616) (nat_lit 256) (nat_lit 65536) (nat_lit 4294967296) (nat_lit 18446744073709551616) ) k
/-- As bits. -/
def bv (z : Int) (k : IntKind) : Nat := (@Int.rec (fun _ => IntKind → Nat) (fun n => fun k => Nat.mod n (pw k)) (fun n => fun k => Nat.sub (Nat.sub (pw k) (nat_lit 1)) (Nat.mod n (pw k))) ) z k
def kW (h : H) (k : IntKind) (z : Int) : XR := kInt (fwrap z k) h k
def kB (h : H) (k : IntKind) (n : Nat) : XR := kW h k (.ofNat n)
def shl (h : H) (k : IntKind) (a b : Int) : XR := bi (ilt b 0) .no (kW h k (a * 2 ^ (Nat.min b.toNat k.bits)))
def shr (h : H) (k : IntKind) (a b : Int) : XR := bi (ilt b 0) .no (kInt (a.fdiv (2 ^ (Nat.min b.toNat k.bits))) h k)
def bopI : BinOp → H → IntKind → Int → Int → XR := (@BinOp.rec (fun _ => H → IntKind → Int → Int → XR) (fun h k a b => kW h k (Int.add a b)) (fun h k a b => kW h k (Int.sub a b)) (fun h k a b => kW h k (Int.mul a b)) (fun h k a b => bi (ieq b 0) .no (kW h k (a.tdiv b))) (fun h k a b => bi (ieq b 0) .no (kInt (a.tmod b) h k)) (fun h k a b => kB h k (Nat.land (bv a k) (bv b k))) (fun h k a b => kB h k (Nat.lor (bv a k) (bv b k))) (fun h k a b => kB h k (Nat.xor (bv a k) (bv b k))) (shl) (shr) (fun h k a b => kB h k (Nat.land (bv a k) (Nat.sub (Nat.sub (pw k) 1) (bv b k)))) (fun h _ a b => kBool h (ieq a b)) (fun h _ a b => kBool h (bi (ieq a b) false true)) (fun h _ a b => kBool h (ilt a b)) (fun h _ a b => kBool h (bi (ilt b a) false true)) (fun h _ a b => kBool h (ilt b a)) (fun h _ a b => kBool h (bi (ilt a b) false true)) )
def bopS : BinOp → H → List Nat → List Nat → XR := (@BinOp.rec (fun _ => H → List Nat → List Nat → XR) (fun h a b => bi (Nat.ble (Nat.add (len a) (len b)) 1073741824) (.val (.str (app a b)) h) .no) (fun _ _ _ => .no) (fun _ _ _ => .no) (fun _ _ _ => .no) (fun _ _ _ => .no) (fun _ _ _ => .no) (fun _ _ _ => .no) (fun _ _ _ => .no) (fun _ _ _ => .no) (fun _ _ _ => .no) (fun _ _ _ => .no) (fun h a b => kBool h (lbeq a b)) (fun h a b => kBool h (bi (lbeq a b) false true)) (fun h a b => kBool h (bless a b)) (fun h a b => kBool h (bi (bless b a) false true)) (fun h a b => kBool h (bless b a)) (fun h a b => kBool h (bi (bless a b) false true)) )
def ikN (k : IntKind) : Nat := (@IntKind.rec (fun _ => Nat) (0) (1) (2) (3) (4) (5) (6) (7) ) k
def eqB (x y : AV) : Option Bool := oc none (fun a => oc none (fun b => some (bi a b (bi b false true))) (asBool y)) (asBool x)
def eqPP (Ty : TypeId → Option TI) (e : TypeId) (b o : Nat) (q : Nat × Nat) : Option Bool := bi (Nat.beq b q.1) (oc none (fun s => bi (Nat.beq s 0) none (some (Nat.beq o q.2))) (szOf Ty e)) none
def isNilp : AV → Bool := (@AV.rec (fun _ => Bool) (fun _ => Unit) (false) (fun _ => false) (fun _ _ => false) (fun _ => false) (true) (fun _ _ => false) (false) (fun _ _ _ _ => false) (false) (fun _ => false) (fun _ _ _ _ _ => false) (false) (fun _ _ _ => false) (false) (fun _ _ => false) (fun _ _ => false) (fun _ _ => false) (fun _ => false) (fun _ _ _ => false) (fun _ => false) (fun _ _ _ => false) () (fun _ _ _ _ => ()))
def eqP (Ty : TypeId → Option TI) (e : TypeId) (x y : AV) : Option Bool :=
  oc (bi (isNilp x) (oc (bi (isNilp y) (some true) none) (fun _ => some false) (asPtr y)) none) (fun p => oc (bi (isNilp y) (some false) none) (eqPP Ty e p.1 p.2) (asPtr y)) (asPtr x)
def eqS (x y : AV) : Option Bool := oc (bi (isNils x) (oc (bi (isNils y) (some true) none) (fun _ => some false) (asSlc y)) none) (fun _ => bi (isNils y) (some false) none) (asSlc x)
def eqM (x y : AV) : Option Bool := oc (bi (isNilm x) (oc (bi (isNilm y) (some true) none) (fun _ => some false) (asMap y)) none) (fun _ => bi (isNilm y) (some false) none) (asMap x)
def isFn : AV → Bool := (@AV.rec (fun _ => Bool) (fun _ => Unit) (false) (fun _ => false) (fun _ _ => false) (fun _ => false) (false) (fun _ _ => false) (false) (fun _ _ _ _ => false) (false) (fun _ => false) (fun _ _ _ _ _ => true) (false) (fun _ _ _ => false) (false) (fun _ _ => false) (fun _ _ => false) (fun _ _ => false) (fun _ => false) (fun _ _ _ => false) (fun _ => false) (fun _ _ _ => false) () (fun _ _ _ _ => ()))
def isNilf : AV → Bool := (@AV.rec (fun _ => Bool) (fun _ => Unit) (false) (fun _ => false) (fun _ _ => false) (fun _ => false) (false) (fun _ _ => false) (false) (fun _ _ _ _ => false) (false) (fun _ => false) (fun _ _ _ _ _ => false) (true) (fun _ _ _ => false) (false) (fun _ _ => false) (fun _ _ => false) (fun _ _ => false) (fun _ => false) (fun _ _ _ => false) (fun _ => false) (fun _ _ _ => false) () (fun _ _ _ _ => ()))
def eqF (x y : AV) : Option Bool := bi (isNilf x) (bi (isNilf y) (some true) (bi (isFn y) (some false) none)) (bi (isFn x) (bi (isNilf y) (some false) none) none)
def eqK : TK → (TypeId → Option TI) → AV → AV → Option Bool := (@TK.rec (fun _ => (TypeId → Option TI) → AV → AV → Option Bool) (fun _ x y => eqB x y) (fun _ => fun _ _ _ => none) (fun _ _ _ => none) (fun _ => fun _ x y => eqS x y) (fun e => fun Ty x y => eqP Ty e x y) (fun _ _ => fun _ x y => eqM x y) (fun _ => fun _ _ _ => none) (fun _ _ => fun _ _ _ => none) (fun _ _ _ => none) (fun _ x y => eqF x y) (fun _ _ _ => none) )
def keyI (x y : AV) : Option Bool := oc none (fun p => oc none (fun q => bi (Nat.beq (ikN p.1) (ikN q.1)) (some (ieq p.2 q.2)) none) (asInt y)) (asInt x)
def keyS (x y : AV) : Option Bool := oc none (fun p => oc none (fun q => some (lbeq p q)) (asStr y)) (asStr x)
def keyEq : TK → AV → AV → Option Bool := (@TK.rec (fun _ => AV → AV → Option Bool) (eqB) (fun _ => keyI) (keyS) (fun _ => fun _ _ => none) (fun _ => fun _ _ => none) (fun _ _ => fun _ _ => none) (fun _ => fun _ _ => none) (fun _ _ => fun _ _ => none) (fun _ _ => none) (fun _ _ => none) (fun _ _ => none) )
def eqFs (Ty : TypeId → Option TI) (fs : List (Nat × TypeId)) (l m : List AV) : Option Bool := @List.rec (Nat × TypeId) (fun _ => Option Bool) (some true) (fun f _ r => oc none (fun ti => oc none (fun a => oc none (fun b => oc none (fun c => bi c r (some false)) (keyEq ti.kind a b)) (idx f.1 m)) (idx f.1 l)) (Ty f.2)) fs
def structF : TK → Option (List (Nat × TypeId)) := (@TK.rec (fun _ => Option (List (Nat × TypeId))) (none) (fun _ => none) (none) (fun _ => none) (fun _ => none) (fun _ _ => none) (fun fs => some fs) (fun _ _ => none) (none) (none) (none) )
def eqAg (Ty : TypeId → Option TI) (ti : TI) (fs : List (Nat × TypeId)) (x y : AV) : Option Bool := bi ti.eqs (oc none (fun l => oc none (fun m => eqFs Ty fs l m) (asAgg y)) (asAgg x)) none
def eqT (Ty : TypeId → Option TI) (ti : TI) (x y : AV) : Option Bool := oc (eqK ti.kind Ty x y) (fun fs => eqAg Ty ti fs x y) (structF ti.kind)
def bopO : BinOp → H → (TypeId → Option TI) → Option TI → AV → AV → XR := (@BinOp.rec (fun _ => H → (TypeId → Option TI) → Option TI → AV → AV → XR) (fun _ _ _ _ _ => .no) (fun _ _ _ _ _ => .no) (fun _ _ _ _ _ => .no) (fun _ _ _ _ _ => .no) (fun _ _ _ _ _ => .no) (fun _ _ _ _ _ => .no) (fun _ _ _ _ _ => .no) (fun _ _ _ _ _ => .no) (fun _ _ _ _ _ => .no) (fun _ _ _ _ _ => .no) (fun _ _ _ _ _ => .no) (fun h Ty t x y => oc .no (fun ti => kBoolO h (eqT Ty ti x y)) t) (fun h Ty t x y => oc .no (fun ti => oc .no (fun b => kBool h (bi b false true)) (eqT Ty ti x y)) t) (fun _ _ _ _ _ => .no) (fun _ _ _ _ _ => .no) (fun _ _ _ _ _ => .no) (fun _ _ _ _ _ => .no) )
def asXnat : AV → Option Nat := (@AV.rec (fun _ => Option Nat) (fun _ => Unit) (none) (fun _ => none) (fun _ _ => none) (fun _ => none) (none) (fun _ _ => none) (none) (fun _ _ _ _ => none) (none) (fun _ => none) (fun _ _ _ _ _ => none) (none) (fun _ _ _ => none) (none) (fun _ _ => none) (fun _ _ => none) (fun _ _ => none) (fun n => some n) (fun _ _ _ => none) (fun _ => none) (fun _ _ _ => none) () (fun _ _ _ _ => ()))
def asXi : AV → Option Xi := (@AV.rec (fun _ => Option Xi) (fun _ => Unit) (none) (fun _ => none) (fun _ _ => none) (fun _ => none) (none) (fun _ _ => none) (none) (fun _ _ _ _ => none) (none) (fun _ => none) (fun _ _ _ _ _ => none) (none) (fun _ _ _ => none) (none) (fun _ _ => none) (fun _ _ => none) (fun _ _ => none) (fun _ => none) (fun _ _ _ => none) (fun x => some x) (fun _ _ _ => none) () (fun _ _ _ _ => ()))
structure Xr where
  k : Nat
  m : Nat
  r : Int
def asXres : AV → Option Xr := (@AV.rec (fun _ => Option Xr) (fun _ => Unit) (none) (fun _ => none) (fun _ _ => none) (fun _ => none) (none) (fun _ _ => none) (none) (fun _ _ _ _ => none) (none) (fun _ => none) (fun _ _ _ _ _ => none) (none) (fun _ _ _ => none) (none) (fun _ _ => none) (fun _ _ => none) (fun _ _ => none) (fun _ => none) (fun k m r => some ⟨k, m, r⟩) (fun _ => none) (fun _ _ _ => none) () (fun _ _ _ _ => ()))
/-- A number that is at least n, and one that is known. -/
def ltX (q : Int) (n : Nat) : Bool := ilt q (.ofNat n)
def bopXo : BinOp → H → Nat → Int → XR := (@BinOp.rec (fun _ => H → Nat → Int → XR) (fun _ _ _ => .no) (fun _ _ _ => .no) (fun _ _ _ => .no) (fun _ _ _ => .no) (fun _ _ _ => .no) (fun _ _ _ => .no) (fun _ _ _ => .no) (fun _ _ _ => .no) (fun _ _ _ => .no) (fun _ _ _ => .no) (fun _ _ _ => .no) (fun _ _ _ => .no) (fun _ _ _ => .no) (fun h n q => bi (ilt (.ofNat n) q) .no (.val (.bool false) h)) (fun _ _ _ => .no) (fun h n q => bi (ltX q n) (.val (.bool true) h) .no) (fun h n q => bi (ilt (.ofNat n) q) .no (.val (.bool true) h)) )
def bopX (h : H) (op : BinOp) (n : Nat) (y : AV) : XR := oc .no (fun p => bi (Nat.beq (ikN p.1) 3) (bopXo op h n p.2) .no) (asInt y)
/-- Bounds that no operation passes. -/
def okXi (x : Xi) (h : H) : XR := bi (ilt x.lo (.negSucc (nat_lit 4611686018427387903))) .no (bi (ilt (.ofNat (nat_lit 4611686018427387904)) x.hi) .no (.val (.xi x) h))
def addXi (x : Xi) (q : Int) : Xi := ⟨x.k, x.a, Int.add x.c q, Int.add x.lo q, Int.add x.hi q⟩
def mulXi (x : Xi) (q : Nat) : Xi := ⟨x.k, Int.mul x.a (.ofNat q), Int.mul x.c (.ofNat q), Int.mul x.lo (.ofNat q), Int.mul x.hi (.ofNat q)⟩
def ileq (a b : Int) : Bool := bi (ilt b a) false true
def cmpXi (h : H) (t f : Bool) : XR := bi t (.val (.bool true) h) (bi f (.val (.bool false) h) .no)
def bopXio : BinOp → H → Xi → Int → XR := (@BinOp.rec (fun _ => H → Xi → Int → XR) (fun h x q => okXi (addXi x q) h) (fun h x q => okXi (addXi x (Int.neg q)) h) (fun h x q => oc .no (fun q => okXi (mulXi x q) h) (natI q)) (fun _ _ _ => .no) (fun _ _ _ => .no) (fun _ _ _ => .no) (fun _ _ _ => .no) (fun _ _ _ => .no) (fun _ _ _ => .no) (fun _ _ _ => .no) (fun _ _ _ => .no) (fun h x q => cmpXi h false (bi (ilt q x.lo) true (ilt x.hi q))) (fun h x q => cmpXi h (bi (ilt q x.lo) true (ilt x.hi q)) false) (fun h x q => cmpXi h (ilt x.hi q) (ileq q x.lo)) (fun h x q => cmpXi h (ileq x.hi q) (ilt q x.lo)) (fun h x q => cmpXi h (ilt q x.lo) (ileq x.hi q)) (fun h x q => cmpXi h (ileq q x.lo) (ilt x.hi q)) )
def bopXi (h : H) (op : BinOp) (x : Xi) (y : AV) : XR := oc .no (fun p => bi (Nat.beq (ikN p.1) 3) (bopXio op h x p.2) .no) (asInt y)
/-- A known number, and one that is at least n. -/
def bopYo : BinOp → H → Int → Nat → XR := (@BinOp.rec (fun _ => H → Int → Nat → XR) (fun _ _ _ => .no) (fun _ _ _ => .no) (fun _ _ _ => .no) (fun _ _ _ => .no) (fun _ _ _ => .no) (fun _ _ _ => .no) (fun _ _ _ => .no) (fun _ _ _ => .no) (fun _ _ _ => .no) (fun _ _ _ => .no) (fun _ _ _ => .no) (fun _ _ _ => .no) (fun _ _ _ => .no) (fun h q n => bi (ltX q n) (.val (.bool true) h) .no) (fun _ _ _ => .no) (fun _ _ _ => .no) (fun _ _ _ => .no) )
def bopY (h : H) (op : BinOp) (p : IntKind × Int) (y : AV) : XR := oc .no (fun n => bi (Nat.beq (ikN p.1) 3) (bopYo op h p.2 n) .no) (asXnat y)
/-- A number known by a residue: k: 0: by its word, 1: by the sign's own, 2: a word. -/
def bopRo : BinOp → H → Xr → IntKind × Int → XR := (@BinOp.rec (fun _ => H → Xr → IntKind × Int → XR) (fun _ _ _ => .no) (fun _ _ _ => .no) (fun _ _ _ => .no) (fun _ _ _ => .no) (fun h x p => bi (Nat.beq x.k 1) (bi (Nat.beq (ikN p.1) 3) (bi (ieq p.2 (.ofNat x.m)) (bi (Nat.blt 0 x.m) (.val (.int .i64 x.r) h) .no) .no) .no) (bi (Nat.beq x.k 2) (bi (Nat.beq (ikN p.1) 7) (bi (ieq p.2 (.ofNat x.m)) (bi (Nat.blt 0 x.m) (.val (.int .u64 x.r) h) .no) .no) .no) .no)) (fun h x p => bi (Nat.beq x.k 0) (bi (Nat.beq (ikN p.1) 3) (bi (ieq p.2 7) (bi (Nat.beq x.m 8) (.val (.int .i64 x.r) h) .no) .no) .no) .no) (fun _ _ _ => .no) (fun _ _ _ => .no) (fun _ _ _ => .no) (fun _ _ _ => .no) (fun _ _ _ => .no) (fun _ _ _ => .no) (fun _ _ _ => .no) (fun _ _ _ => .no) (fun _ _ _ => .no) (fun _ _ _ => .no) (fun _ _ _ => .no) )
def bopR (h : H) (op : BinOp) (x : Xr) (y : AV) : XR := oc .no (fun p => bopRo op h x p) (asInt y)
def bop3 (Ty : TypeId → Option TI) (h : H) (op : BinOp) (t : Option TI) (x y : AV) : XR := oc (oc (bopO op h Ty t x y) (fun r => bopR h op r y) (asXres x)) (fun n => bopX h op n y) (asXnat x)
def bop4 (Ty : TypeId → Option TI) (h : H) (op : BinOp) (t : Option TI) (x y : AV) : XR := oc (bop3 Ty h op t x y) (fun z => bopXi h op z y) (asXi x)
def bop2 (Ty : TypeId → Option TI) (h : H) (op : BinOp) (t : Option TI) (x y : AV) : XR := oc (bop4 Ty h op t x y) (fun a => oc .no (fun b => bopS op h a b) (asStr y)) (asStr x)
def isSh : BinOp → Bool := (@BinOp.rec (fun _ => Bool) (false) (false) (false) (false) (false) (false) (false) (false) (true) (true) (false) (false) (false) (false) (false) (false) (false) )
def binop (Ty : TypeId → Option TI) (h : H) (op : BinOp) (t : Option TI) (x y : AV) : XR := oc (bop2 Ty h op t x y) (fun p => oc (bopY h op p y) (fun q => bi (bi (Nat.beq (ikN p.1) (ikN q.1)) true (isSh op)) (bopI op h p.1 p.2 q.2) .no) (asInt y)) (asInt x)
def unop (h : H) : UnOp → AV → XR := fun u x => (@UnOp.rec (fun _ => H → AV → XR) (fun h x => oc .no (fun p => kW h p.1 (Int.sub 0 p.2)) (asInt x)) (fun _ _ => .no) (fun h x => oc .no (fun b => kBool h (bi b false true)) (asBool x)) (fun _ _ => .no) ) u h x

def optNat (d : Nat) (o : Option AV) : Option Nat := oc (some d) intNat o
def byteK (k : IntKind) (n : Int) : Option Nat := bi (Nat.beq (ikN k) 4) (oc none (fun n => bi (Nat.blt n 256) (some n) none) (natI n)) none
def byteN : AV → Option Nat := (@AV.rec (fun _ => Option Nat) (fun _ => Unit) (none) (fun _ => none) (fun k n => byteK k n) (fun _ => none) (none) (fun _ _ => none) (none) (fun _ _ _ _ => none) (none) (fun _ => none) (fun _ _ _ _ _ => none) (none) (fun _ _ _ => none) (none) (fun _ _ => none) (fun _ _ => none) (fun _ _ => none) (fun _ => none) (fun _ _ _ => none) (fun _ => none) (fun _ _ _ => none) () (fun _ _ _ _ => ()))
def strBytes (l : List AV) : Option (List Nat) := @List.rec AV (fun _ => Option (List Nat)) (some []) (fun v _ r => oc none (fun n => oc none (fun l => some (n :: l)) r) (byteN v)) l
def u8s (l : List Nat) : List AV := @List.rec Nat (fun _ => List AV) [] (fun n _ r => .int .u8 (.ofNat n) :: r) l
def lenOf : AV → Option Nat := (@AV.rec (fun _ => Option Nat) (fun _ => Unit) (none) (fun _ => none) (fun _ _ => none) (fun l => some (len l)) (none) (fun _ _ => none) (some 0) (fun _ _ n _ => some n) (none) (fun _ => none) (fun _ _ _ _ _ => none) (none) (fun _ _ _ => none) (none) (fun _ _ => none) (fun _ _ => none) (fun _ _ => none) (fun _ => none) (fun _ _ _ => none) (fun _ => none) (fun _ n _ => some n) () (fun _ _ _ _ => ()))
def cellsAt (h : H) (b o n : Nat) : Option (List AV) := oc none (fun c => sub c.1 o n) (objCells (h.m.get b))
def firstCells : AV → H → Nat → Nat → Option (List AV) := (@AV.rec (fun _ => H → Nat → Nat → Option (List AV)) (fun _ => Unit) (fun _ _ _ => none) (fun _ => fun _ _ _ => none) (fun _ _ => fun _ _ _ => none) (fun l => fun _ _ n => some (u8s (tak n l))) (fun _ _ _ => none) (fun _ _ => fun _ _ _ => none) (fun _ _ _ => some []) (fun b o _ _ => fun h size n => cellsAt h b o (Nat.mul n size)) (fun _ _ _ => none) (fun _ => fun _ _ _ => none) (fun _ _ _ _ _ => fun _ _ _ => none) (fun _ _ _ => none) (fun _ _ _ => fun _ _ _ => none) (fun _ _ _ => none) (fun _ _ => fun _ _ _ => none) (fun _ _ => fun _ _ _ => none) (fun _ _ => fun _ _ _ => none) (fun _ => fun _ _ _ => none) (fun _ _ _ => fun _ _ _ => none) (fun _ => fun _ _ _ => none) (fun _ _ _ => fun _ _ _ => none) () (fun _ _ _ _ => ()))
def capOk (n size : Nat) (c : Cap) : Bool := (@Cap.rec (fun _ => Nat → Nat → Bool) (fun c => fun n _ => Nat.ble n c) (fun s _ => fun _ size => Nat.beq s size) ) c n size
def kGrow (h : H) (e : TypeId) (te : TI) (n : Nat) (l : List AV) : XR := bi (Nat.ble n 1048576) (bi (Nat.ble te.bytes 1048576) (bi (Nat.beq te.size 0) .no (kNew h (.cells l e) fun b => .slc b 0 n (.v te.size 0))) .no) .no
def appGrow (h : H) (e : TypeId) (te : TI) (t b need : Nat) (new : List AV) (cap : Cap) (old : List AV) : XR :=
  (@Cap.rec (fun _ => H → TypeId → TI → Nat → Nat → Nat → List AV → List AV → XR) (fun c => fun h e te _ _ need new old => bi (Nat.ble need c) .no (kGrow h e te need (app old new))) (fun s _ => fun h e te t b need new old => bi (Nat.beq t e) (bi (Nat.beq s te.size) (kGrow (h.upd b .dead) e te need (app old new)) .no) .no) ) cap h e te t b need new old
def app2 (h : H) (e : TypeId) (te : TI) (s : Slc) (n : Nat) (new : List AV) (c : List AV × TypeId) : XR :=
  bi (bi (Nat.ble (Nat.add s.o (Nat.mul (Nat.add s.len n) te.size)) (len c.1)) (capOk (Nat.add s.len n) te.size s.cap) false)
    (nF (Nat.add s.len n) fun m => kUpd h s.b c.2 (.slc s.b s.o m s.cap) (put (Nat.add s.o (Nat.mul s.len te.size)) new c.1))
    (oc .no (fun old => nF (Nat.add s.len n) fun m => appGrow h e te c.2 s.b m new s.cap old) (sub c.1 s.o (Nat.mul s.len te.size)))
def app1 (h : H) (e : TypeId) (te : TI) (n : Nat) (s : AV) (new : List AV) : XR :=
  oc (bi (isNils s) (bi (Nat.beq n 0) (.val .nils h) (kGrow h e te n new)) .no) (fun s => oc .no (app2 h e te s n new) (objCells (h.m.get s.b))) (asSlc s)
def isStr : AV → Bool := (@AV.rec (fun _ => Bool) (fun _ => Unit) (false) (fun _ => false) (fun _ _ => false) (fun _ => true) (false) (fun _ _ => false) (false) (fun _ _ _ _ => false) (false) (fun _ => false) (fun _ _ _ _ _ => false) (false) (fun _ _ _ => false) (false) (fun _ _ => false) (fun _ _ => false) (fun _ _ => false) (fun _ => false) (fun _ _ _ => false) (fun _ => false) (fun _ _ _ => false) () (fun _ _ _ _ => ()))
def strOk (x : AV) (size : Nat) : Bool := bi (isStr x) (Nat.beq size 1) true
def xAppend (Ty : TypeId → Option TI) (h : H) (s x : AV) (t : Option TypeId) : XR :=
  oc .no (fun e => oc .no (fun te => oc .no (fun n => bi (strOk x te.size) (oc .no (app1 h e te n s) (firstCells x h te.size n)) .no) (lenOf x)) (Ty e)) t
def isIntK : TK → Bool := (@TK.rec (fun _ => Bool) (false) (fun _ => true) (false) (fun _ => false) (fun _ => false) (fun _ _ => false) (fun _ => false) (fun _ _ => false) (false) (false) (false) )
def keyXi (z : Xi) (y : AV) : Option Bool := oc none (fun q => bi (Nat.beq (ikN q.1) 3) (bi (ilt q.2 z.lo) (some false) (bi (ilt z.hi q.2) (some false) none)) none) (asInt y)
/-- Keys, one of them perhaps known by bounds. -/
def keyEqM (kk : TK) (x y : AV) : Option Bool := oc (keyEq kk x y) (fun z => bi (isIntK kk) (keyXi z y) none) (asXi x)
def findL (kk : TK) (k : AV) (l : List (AV × AV × Nat)) : Nat → Option (Option (Nat × AV × Nat)) :=
  @List.rec (AV × AV × Nat) (fun _ => Nat → Option (Option (Nat × AV × Nat))) (fun _ => some none) (fun p _ g i => oc none (fun b => bi b (some (some (i, p.2))) (g (Nat.succ i))) (keyEqM kk k p.1)) l
def keyKind : TK → Bool := (@TK.rec (fun _ => Bool) (true) (fun _ => true) (true) (fun _ => false) (fun _ => false) (fun _ _ => false) (fun _ => false) (fun _ _ => false) (false) (false) (false) )
def findK (kt : Option TI) (k : AV) (l : List (AV × AV × Nat)) : Option (Option (Nat × AV × Nat)) := oc none (fun ti => bi (keyKind ti.kind) (findL ti.kind k l 0) none) kt
def setAt (v : AV) (l : List (AV × AV × Nat)) : Nat → List (AV × AV × Nat) :=
  @List.rec (AV × AV × Nat) (fun _ => Nat → List (AV × AV × Nat)) (fun _ => []) (fun p r g i => bi (Nat.beq i 0) ((p.1, v, p.2.2) :: r) (p :: g (Nat.sub i 1))) l
def delAt (l : List (AV × AV × Nat)) : Nat → List (AV × AV × Nat) :=
  @List.rec (AV × AV × Nat) (fun _ => Nat → List (AV × AV × Nat)) (fun _ => []) (fun p r g i => bi (Nat.beq i 0) r (p :: g (Nat.sub i 1))) l
def bornAt (n : Nat) (l : List (AV × AV × Nat)) : Nat → Option Nat :=
  @List.rec (AV × AV × Nat) (fun _ => Nat → Option Nat) (fun _ => none) (fun p _ g i => bi (Nat.beq p.2.2 n) (some i) (g (Nat.succ i))) l
def zeroOf (ti : TI) : AV := bi (isAgg ti.kind) (.agg ti.zero) (@List.rec AV (fun _ => AV) .any (fun v _ _ => v) ti.zero)
def lenS : AV → H → XR := (@AV.rec (fun _ => H → XR) (fun _ => Unit) (fun _ => .no) (fun _ => fun _ => .no) (fun _ _ => fun _ => .no) (fun _ => fun _ => .no) (fun _ => .no) (fun _ _ => fun _ => .no) (fun h => kInt (.ofNat 0) h .i64) (fun _ _ n _ => fun h => kInt (.ofNat n) h .i64) (fun _ => .no) (fun _ => fun _ => .no) (fun _ _ _ _ _ => fun _ => .no) (fun _ => .no) (fun _ _ _ => fun _ => .no) (fun _ => .no) (fun _ _ => fun _ => .no) (fun _ _ => fun _ => .no) (fun n ge => fun h => bi ge (.val (.xnat n) h) (kInt (.ofNat n) h .i64)) (fun _ => fun _ => .no) (fun _ _ _ => fun _ => .no) (fun _ => fun _ => .no) (fun _ n _ => fun h => kInt (.ofNat n) h .i64) () (fun _ _ _ _ => ()))
def lenM : AV → H → XR := (@AV.rec (fun _ => H → XR) (fun _ => Unit) (fun _ => .no) (fun _ => fun _ => .no) (fun _ _ => fun _ => .no) (fun _ => fun _ => .no) (fun _ => .no) (fun _ _ => fun _ => .no) (fun _ => .no) (fun _ _ _ _ => fun _ => .no) (fun h => kInt (.ofNat 0) h .i64) (fun b => fun h => oc .no (fun m => kInt (.ofNat (len m.es)) h .i64) (objMap (h.m.get b))) (fun _ _ _ _ _ => fun _ => .no) (fun _ => .no) (fun _ _ _ => fun _ => .no) (fun _ => .no) (fun _ _ => fun _ => .no) (fun _ _ => fun _ => .no) (fun _ _ => fun _ => .no) (fun _ => fun _ => .no) (fun _ _ _ => fun _ => .no) (fun _ => fun _ => .no) (fun _ _ _ => fun _ => .no) () (fun _ _ _ _ => ()))
def lenK : TK → AV → H → XR := (@TK.rec (fun _ => AV → H → XR) (fun _ _ => .no) (fun _ => fun _ _ => .no) (fun x h => oc .no (fun l => kInt (.ofNat (len l)) h .i64) (asStr x)) (fun _ => lenS) (fun _ => fun _ _ => .no) (fun _ _ => lenM) (fun _ => fun _ _ => .no) (fun n _ => fun _ h => kInt (.ofNat n) h .i64) (fun _ _ => .no) (fun _ _ => .no) (fun _ _ => .no) )
def xLen (x : AV) (h : H) (t : Option TI) : XR := oc .no (fun ti => lenK ti.kind x h) t
def copy1 (h : H) (n : Nat) (d : AV) (cs : List AV) : XR :=
  oc (bi (isNils d) (.val (.int .i64 (.ofNat 0)) h) .no) (fun s => oc .no (fun c => kUpd h s.b c.2 (.int .i64 (.ofNat n)) (put s.o cs c.1)) (objCells (h.m.get s.b))) (asSlc d)
def xCopy (h : H) (d s : AV) (size : Option Nat) : XR :=
  oc .no (fun size => oc .no (fun n => oc .no (fun m => nF (Nat.min n m) fun k => bi (strOk s size) (oc .no (copy1 h k d) (firstCells s h size k)) .no) (lenOf d)) (lenOf s)) size
def del1 (h : H) (b : Nat) (m : Mp) (r : Option (Nat × AV × Nat)) : XR := oc (.val (.tup []) h) (fun p => .val (.tup []) (h.upd b (.map (delAt m.es p.1) m.clock))) r
def xDelete (Ty : TypeId → Option TI) (h : H) (k x : AV) (t : Option (TypeId × TypeId)) : XR := oc .no (fun q => oc .no (fun b => oc .no (fun m => oc .no (del1 h b m) (findK (Ty q.1) k m.es)) (objMap (h.m.get b))) (asMap x)) t
structure Si where
  l : List Nat
  pos : Nat
def objSit (o : Option AObj) : Option It := oc none ((@AObj.rec (fun _ => Option It) (fun _ _ => none) (fun _ _ => none) (fun it => some it) (none) )) o
def clrM (h : H) (b : Nat) : XR := oc .no (fun m => .val (.tup []) (h.upd b (.map [] m.clock))) (objMap (h.m.get b))
def clrS (h : H) (te : TI) (s : Slc) : XR := oc .no (fun c => kUpd h s.b c.2 (.tup []) (put s.o (repl te.zero s.len) c.1)) (objCells (h.m.get s.b))
def clrK : TK → (TypeId → Option TI) → H → AV → XR := (@TK.rec (fun _ => (TypeId → Option TI) → H → AV → XR) (fun _ _ _ => .no) (fun _ => fun _ _ _ => .no) (fun _ _ _ => .no) (fun e => fun Ty h x => oc (bi (isNils x) (.val (.tup []) h) .no) (fun s => oc .no (fun te => clrS h te s) (Ty e)) (asSlc x)) (fun _ => fun _ _ _ => .no) (fun _ _ => fun _ h x => oc (bi (isNilm x) (.val (.tup []) h) .no) (clrM h) (asMap x)) (fun _ => fun _ _ _ => .no) (fun _ _ => fun _ _ _ => .no) (fun _ _ _ => .no) (fun _ _ _ => .no) (fun _ _ _ => .no) )
def xClear (Ty : TypeId → Option TI) (h : H) (x : AV) (t : Option TI) : XR := oc .no (fun ti => clrK ti.kind Ty h x) t
def strK : TK → Bool := (@TK.rec (fun _ => Bool) (false) (fun _ => false) (true) (fun _ => false) (fun _ => false) (fun _ _ => false) (fun _ => false) (fun _ _ => false) (false) (false) (false) )
def rgM (h : H) (x : AV) : XR := oc .no (fun b => oc .no (fun m => kNew h (.sit (.m b m.clock [] m.clock)) fun n => .ptr n 0) (objMap (h.m.get b))) (asMap x)
def rgK : TK → H → AV → XR := (@TK.rec (fun _ => H → AV → XR) (fun _ _ => .no) (fun _ => fun _ _ => .no) (fun h x => oc .no (fun l => kNew h (.sit (.s l (nat_lit 0))) fun n => .ptr n 0) (asStr x)) (fun _ => fun _ _ => .no) (fun _ => fun _ _ => .no) (fun _ _ => fun h x => rgM h x) (fun _ => fun _ _ => .no) (fun _ _ => fun _ _ => .no) (fun _ _ => .no) (fun _ _ => .no) (fun _ _ => .no) )
def xRange (h : H) (x : AV) (t : Option TI) : XR := oc .no (fun ti => rgK ti.kind h x) t
def nx1 (h : H) (b : Nat) (s : Si) : XR := oc (.val (.tup [.bool false]) h) (fun c => bi (Nat.blt c (nat_lit 128)) (nF (Nat.succ s.pos) fun p => .val (.tup [.bool true, .int .i64 (.ofNat s.pos), .int .i32 (.ofNat c)]) (h.upd b (.sit (.s s.l p)))) .no) (idx s.pos s.l)
def memN (n : Nat) (l : List Nat) : Bool := @List.rec Nat (fun _ => Bool) false (fun x _ r => bi (Nat.beq x n) true r) l
def nilN (l : List Nat) : Bool := @List.rec Nat (fun _ => Bool) true (fun _ _ _ => false) l
/-- Over a map of at most one entry: nothing is left to be drawn. -/
def nxE (h : H) (b mb since : Nat) (seen : List Nat) (last clock : Nat) (e : AV × AV × Nat) : XR := bi (memN e.2.2 seen) (bi (Nat.blt e.2.2 last) (.val (.tup [.bool false]) h) .no) (bi (bi (nilN seen) true (Nat.blt e.2.2 last)) (bi (Nat.blt e.2.2 since) (.val (.tup [.bool true, e.1, e.2.1]) (h.upd b (.sit (.m mb since (app seen [e.2.2]) clock)))) .no) .no)
def nxM (h : H) (b mb since : Nat) (seen : List Nat) (last : Nat) (m : Mp) : XR := @List.rec (AV × AV × Nat) (fun _ => XR) (.val (.tup [.bool false]) h) (fun e r _ => @List.rec (AV × AV × Nat) (fun _ => XR) (nxE h b mb since seen last m.clock e) (fun _ _ _ => .no) r) m.es
def nxI (h : H) (isS : Bool) (b : Nat) : It → XR := (@It.rec (fun _ => XR) (fun l pos => bi isS (nx1 h b ⟨l, pos⟩) .no) (fun mb since seen last => bi isS .no (oc .no (nxM h b mb since seen last) (objMap (h.m.get mb)))) (fun _ _ => .no) )
def xNext (h : H) (x : AV) (isS : Bool) : XR := oc .no (fun p => bi (Nat.beq p.2 (nat_lit 0)) (oc .no (nxI h isS p.1) (objSit (h.m.get p.1))) .no) (asPtr x)
def lastN (l : List Nat) : Option Nat := @List.rec Nat (fun _ => Option Nat) none (fun x _ r => oc (some x) (fun y => some y) r) l
def findE (n : Nat) (l : List (AV × AV × Nat)) : Option (AV × AV) := @List.rec (AV × AV × Nat) (fun _ => Option (AV × AV)) none (fun e _ r => bi (Nat.beq e.2.2 n) (some (e.1, e.2.1)) r) l
def enM (h : H) (last n : Nat) (m : Mp) : XR := bi (Nat.beq m.clock last) (oc .no (fun e => .val (.tup [e.1, e.2]) h) (findE n m.es)) .no
def enI (h : H) : It → XR := (@It.rec (fun _ => H → XR) (fun _ _ => fun _ => .no) (fun mb _ seen last => fun h => oc .no (fun n => oc .no (enM h last n) (objMap (h.m.get mb))) (lastN seen)) (fun _ _ => fun _ => .no) ) |> fun f i => f i h
/-- What the last step came to. -/
def xEntry (h : H) (x : AV) : XR := oc .no (fun p => bi (Nat.beq p.2 (nat_lit 0)) (oc .no (enI h) (objSit (h.m.get p.1))) .no) (asPtr x)
def xMax (h : H) (x y : AV) : XR := oc .no (fun p => oc .no (fun q => kInt (bi (ilt p.2 q.2) q.2 p.2) h p.1) (asInt y)) (asInt x)
def minX (h : H) (n : Nat) (y : AV) : XR := oc .no (fun q => bi (Nat.beq (ikN q.1) 3) (bi (ilt (.ofNat n) q.2) .no (.val (.int .i64 q.2) h)) .no) (asInt y)
def xMin (h : H) (x y : AV) : XR := oc (oc .no (fun n => minX h n y) (asXnat x)) (fun p => oc .no (fun q => kInt (bi (ilt q.2 p.2) q.2 p.2) h p.1) (asInt y)) (asInt x)
def hd2 {α : Type} (k : α → α → XR) (l : List α) : XR := @List.rec α (fun _ => XR) .no (fun x r _ => @List.rec α (fun _ => XR) .no (fun y s _ => @List.rec α (fun _ => XR) (k x y) (fun _ _ _ => .no) s) r) l
def hd1 {α : Type} (k : α → XR) (l : List α) : XR := @List.rec α (fun _ => XR) .no (fun x r _ => @List.rec α (fun _ => XR) (k x) (fun _ _ _ => .no) r) l
def intK : TK → Bool := (@TK.rec (fun _ => Bool) (false) (fun _ => true) (false) (fun _ => false) (fun _ => false) (fun _ _ => false) (fun _ => false) (fun _ _ => false) (false) (false) (false) )
def notInt (t : Option TI) : Bool := oc false (fun ti => bi (intK ti.kind) false true) t
def xBuiltin : Builtin → (TypeId → Option TI) → H → List TypeId → List AV → XR := (@Builtin.rec (fun _ => (TypeId → Option TI) → H → List TypeId → List AV → XR) (fun Ty h ts l => hd2 (fun s x => hd2 (fun t u => bi (notInt (Ty u)) (xAppend Ty h s x (elemT (Ty t))) .no) ts) l) (fun _ _ _ _ => .no) (fun Ty h ts l => hd1 (fun x => hd1 (fun t => xClear Ty h x (Ty t)) ts) l) (fun _ _ _ _ => .no) (fun _ _ _ _ => .no) (fun Ty h ts l => hd2 (fun d s => hd2 (fun t _ => xCopy h d s (oc none (szOf Ty) (elemT (Ty t)))) ts) l) (fun Ty h ts l => hd2 (fun m k => hd2 (fun t _ => xDelete Ty h k m (mapT (Ty t))) ts) l) (fun _ _ _ _ => .no) (fun Ty h ts l => hd1 (fun x => hd1 (fun t => xLen x h (Ty t)) ts) l) (fun _ _ _ _ => .no) (fun _ h _ l => hd2 (xMax h) l) (fun _ h _ l => hd2 (xMin h) l) (fun _ _ _ _ => .no) (fun _ _ _ _ => .no) (fun _ _ _ _ => .no) (fun _ _ _ _ => .no) (fun _ _ _ _ => .no) (fun _ _ _ _ => .no) (fun _ _ _ _ => .no) (fun _ _ _ _ => .no) (fun _ _ _ _ => .no) (fun _ _ _ _ => .no) (fun _ _ _ _ => .no) (fun _ _ _ _ => .no) (fun _ _ _ _ => .no) (fun _ _ _ _ => .no) )
def sliceStr (h : H) (l : List Nat) (lo hi : Option Nat) : XR :=
  oc .no (fun a => oc .no (fun b => bi (Nat.ble a b) (bi (Nat.ble b (len l)) (.val (.str (tak (Nat.sub b a) (drp a l))) h) .no) .no) hi) lo
def isZ (o : Option Nat) : Bool := oc false (fun n => Nat.beq n 0) o
def sliceNil (h : H) (lo hi : Option Nat) (m : Bool) : XR := bi (isZ lo) (bi (isZ hi) (bi m (.val .nils h) .no) .no) .no
def reach (h : H) (s : Slc) (u size : Nat) : Bool := (@Cap.rec (fun _ => H → Slc → Nat → Nat → Bool) (fun c => fun _ _ u _ => Nat.ble u c) (fun x _ => fun h s u size => bi (Nat.beq x size) (bi (Nat.ble u s.len) true (bi (Nat.beq size 0) false (oc false (fun c => Nat.ble (Nat.add s.o (Nat.mul u size)) (len c.1)) (objCells (h.m.get s.b))))) false) ) s.cap h s u size
def cut (h : H) (s : Slc) (size l u : Nat) : XR := (@Cap.rec (fun _ => H → Slc → Nat → Nat → Nat → XR) (fun c => fun h s size l u => nF (bi (Nat.beq c l) s.o (Nat.add s.o (Nat.mul l size))) fun o => nF (Nat.sub u l) fun n => nF (Nat.sub c l) fun c => .val (.slc s.b o n (.k c)) h) (fun x k => fun h s size l u => nF (Nat.add s.o (Nat.mul l size)) fun o => nF (Nat.sub u l) fun n => nF (Nat.add k l) fun k => .val (.slc s.b o n (.v x k)) h) ) s.cap h s size l u
def cutM (h : H) (s : Slc) (size l u m : Nat) : XR := bi (Nat.ble l u) (bi (Nat.ble u m) (bi (Nat.ble m s.len) (nF (bi (Nat.beq m l) s.o (Nat.add s.o (Nat.mul l size))) fun o => nF (Nat.sub u l) fun n => nF (Nat.sub m l) fun c => .val (.slc s.b o n (.k c)) h) .no) .no) .no
def isSome {α : Type} (o : Option α) : Bool := oc false (fun _ => true) o
def isNone {α : Type} (o : Option α) : Bool := oc true (fun _ => false) o
def sliceS (h : H) (size : Nat) (s : Slc) (mx hi0 : Option AV) (lo hi : Option Nat) : XR :=
  oc .no (fun l => oc .no (fun u => oc (bi (Nat.ble l u) (bi (reach h s u size) (cut h s size l u) .no) .no) (fun m => bi (isNone hi0) .no (oc .no (cutM h s size l u) (intNat m))) mx) hi) lo
def sliceA (h : H) (b o n size : Nat) (mx : Option AV) (lo hi : Option Nat) : XR :=
  oc .no (fun l => oc .no (fun u => oc (bi (Nat.ble l u) (bi (Nat.ble u n) (nF (bi (Nat.beq n l) o (Nat.add o (Nat.mul l size))) fun o => nF (Nat.sub u l) fun m => nF (Nat.sub n l) fun c => .val (.slc b o m (.k c)) h) .no) .no) (fun _ => .no) mx) hi) lo
def xzPair (lo hi mx : Option AV) : Option (Xi × Xi) := oc (oc none (fun lo => oc none (fun hi => oc none (fun x => oc none (fun y => some (x, y)) (asXi hi)) (asXi lo)) hi) lo) (fun _ => none) mx
/-- A cut at a place that is known by a letter: cells of one. -/
def sliceX (h : H) (size : Nat) (s : Slc) (p : Xi × Xi) : XR :=
  bi (Nat.beq size (nat_lit 1)) (bi (Nat.beq p.1.k p.2.k) (bi (ieq p.1.a p.2.a) (bi (ileq (.ofNat (nat_lit 0)) p.1.lo) (bi (ileq p.2.hi (.ofNat s.len)) (oc .no (fun n => bi (Nat.beq n (nat_lit 0)) .no (nF n fun n => nF (Nat.add s.o s.len) fun L => .val (.xz s.b n L) h)) (natI (Int.sub p.2.c p.1.c))) .no) .no) .no) .no) .no
def sliceK : TK → (TypeId → Option TI) → H → AV → Option AV → Option AV → Option AV → XR := (@TK.rec (fun _ => (TypeId → Option TI) → H → AV → Option AV → Option AV → Option AV → XR) (fun _ _ _ _ _ _ => .no) (fun _ => fun _ _ _ _ _ _ => .no) (fun _ h x lo hi mx => bi (isNone mx) (oc .no (fun l => sliceStr h l (optNat 0 lo) (optNat (len l) hi)) (asStr x)) .no) (fun e => fun Ty h x lo hi mx => oc .no (fun size => oc (bi (isNils x) (sliceNil h (optNat 0 lo) (optNat 0 hi) (isNone mx)) .no) (fun s => oc (sliceS h size s mx hi (optNat 0 lo) (optNat s.len hi)) (fun p => sliceX h size s p) (xzPair lo hi mx)) (asSlc x)) (szOf Ty e)) (fun _ => fun _ _ _ _ _ _ => .no) (fun _ _ => fun _ _ _ _ _ _ => .no) (fun _ => fun _ _ _ _ _ _ => .no) (fun n e => fun Ty h x lo hi mx => oc .no (fun p => oc .no (fun size => sliceA h p.1 p.2 n size mx (optNat 0 lo) (optNat n hi)) (szOf Ty e)) (asPtr x)) (fun _ _ _ _ _ _ => .no) (fun _ _ _ _ _ _ => .no) (fun _ _ _ _ _ _ => .no) )
def xSlice (Ty : TypeId → Option TI) (h : H) (x : AV) (lo hi mx : Option AV) (t : Option TI) : XR := oc .no (fun ti => sliceK ti.kind Ty h x lo hi mx) t
def cvBytes (h : H) (s : Slc) : XR := oc .no (fun cs => oc .no (fun l => .val (.str l) h) (strBytes cs)) (cellsAt h s.b s.o s.len)
def u8K : TK → Bool := (@TK.rec (fun _ => Bool) (false) (fun k => Nat.beq (ikN k) 4) (false) (fun _ => false) (fun _ => false) (fun _ _ => false) (fun _ => false) (fun _ _ => false) (false) (false) (false) )
def u8T (t : Option TI) : Bool := oc false (fun ti => u8K ti.kind) t
def srcU8 (Ty : TypeId → Option TI) (s : Option TI) : Bool := oc false (fun e => u8T (Ty e)) (elemT s)
def cvR (h : H) (k : IntKind) (x : AV) : XR := oc .no (fun r => bi (Nat.beq r.k 0) (bi (Nat.beq (ikN k) 7) (.val (.xres 2 r.m r.r) h) .no) .no) (asXres x)
def convK : TK → (TypeId → Option TI) → H → Option TI → AV → XR := (@TK.rec (fun _ => (TypeId → Option TI) → H → Option TI → AV → XR) (fun _ _ _ _ => .no) (fun k => fun _ h _ x => oc (cvR h k x) (fun p => kW h k p.2) (asInt x)) (fun Ty h s x => oc (bi (srcU8 Ty s) (oc (bi (isNils x) (.val (.str []) h) .no) (cvBytes h) (asSlc x)) .no) (fun l => .val (.str l) h) (asStr x)) (fun _ => fun _ _ _ _ => .no) (fun _ => fun _ _ _ _ => .no) (fun _ _ => fun _ _ _ _ => .no) (fun _ => fun _ _ _ _ => .no) (fun _ _ => fun _ _ _ _ => .no) (fun _ _ _ _ => .no) (fun _ _ _ _ => .no) (fun _ _ _ _ => .no) )
def xConvert (Ty : TypeId → Option TI) (h : H) (x : AV) (s t : Option TI) : XR := oc .no (fun td => convK td.kind Ty h s x) t
def mkS (h : H) (e l c : Nat) (te : TI) : XR := bi (Nat.ble l c) (bi (bi (Nat.ble c 70368744177664) (Nat.ble (Nat.mul c te.bytes) 70368744177664) false) (kNew h (.cells (repl te.zero c) e) fun n => .slc n 0 l (.k c)) .no) .no
def xMakeSlice (Ty : TypeId → Option TI) (h : H) (l c : Option Nat) (t : Option TypeId) : XR := oc .no (fun e => oc .no (fun l => oc .no (fun c => oc .no (mkS h e l c) (Ty e)) c) l) t
def fieldOf : TK → Nat → Option (Nat × TypeId) := (@TK.rec (fun _ => Nat → Option (Nat × TypeId)) (fun _ => none) (fun _ => fun _ => none) (fun _ => none) (fun _ => fun _ => none) (fun _ => fun _ => none) (fun _ _ => fun _ => none) (fun fs => fun i => idx i fs) (fun _ _ => fun _ => none) (fun _ => none) (fun _ => none) (fun _ => none) )
def xFieldAddr (Ty : TypeId → Option TI) (h : H) (f : Nat) (x : AV) (t : Option TI) : XR := oc .no (fun p => oc .no (fun ti => oc .no (fun q => oc .no (fun s => bi (Nat.beq s 0) .no (nF (Nat.add p.2 q.1) fun o => .val (.ptr p.1 o) h)) (szOf Ty q.2)) (fieldOf ti.kind f)) t) (asPtr x)
def part (h : H) (l : List AV) (o : Nat) (t : Option TI) : XR := oc .no (fun ti => bi (isAgg ti.kind) (kAgg h (sub l o ti.size)) (kVal h (idx o l))) t
def xField (Ty : TypeId → Option TI) (h : H) (f : Nat) (x : AV) (t : Option TI) : XR := oc .no (fun l => oc .no (fun ti => oc .no (fun q => part h l q.1 (Ty q.2)) (fieldOf ti.kind f)) t) (asAgg x)
def ia (h : H) (b o i n : Nat) (s : Option Nat) : XR := oc .no (fun s => bi (Nat.blt i n) (nF (Nat.add o (Nat.mul i s)) fun o => .val (.ptr b o) h) .no) s
def iaK : TK → (TypeId → Option TI) → H → Nat → AV → XR := (@TK.rec (fun _ => (TypeId → Option TI) → H → Nat → AV → XR) (fun _ _ _ _ => .no) (fun _ => fun _ _ _ _ => .no) (fun _ _ _ _ => .no) (fun e => fun Ty h i x => oc .no (fun s => ia h s.b s.o i s.len (szOf Ty e)) (asSlc x)) (fun _ => fun _ _ _ _ => .no) (fun _ _ => fun _ _ _ _ => .no) (fun _ => fun _ _ _ _ => .no) (fun n e => fun Ty h i x => oc .no (fun p => ia h p.1 p.2 i n (szOf Ty e)) (asPtr x)) (fun _ _ _ _ => .no) (fun _ _ _ _ => .no) (fun _ _ _ _ => .no) )
def xIndexAddr (Ty : TypeId → Option TI) (h : H) (x : AV) (i : Option Nat) (t : Option TI) : XR := oc .no (fun i => oc .no (fun ti => iaK ti.kind Ty h i x) t) i
def ixK : TK → (TypeId → Option TI) → H → Nat → AV → XR := (@TK.rec (fun _ => (TypeId → Option TI) → H → Nat → AV → XR) (fun _ _ _ _ => .no) (fun _ => fun _ _ _ _ => .no) (fun _ h i x => oc .no (fun l => oc .no (fun n => .val (.int .u8 (.ofNat n)) h) (idx i l)) (asStr x)) (fun _ => fun _ _ _ _ => .no) (fun _ => fun _ _ _ _ => .no) (fun _ _ => fun _ _ _ _ => .no) (fun _ => fun _ _ _ _ => .no) (fun n e => fun Ty h i x => oc .no (fun l => bi (Nat.blt i n) (oc .no (fun s => part h l (Nat.mul i s) (Ty e)) (szOf Ty e)) .no) (asAgg x)) (fun _ _ _ _ => .no) (fun _ _ _ _ => .no) (fun _ _ _ _ => .no) )
def xIndex (Ty : TypeId → Option TI) (h : H) (x : AV) (i : Option Nat) (t : Option TI) : XR := oc .no (fun i => oc .no (fun ti => ixK ti.kind Ty h i x) t) i
def lkRes (h : H) (ok : Bool) (te : TI) (r : Option (Nat × AV × Nat)) : XR := oc (.val (bi ok (.tup [zeroOf te, .bool false]) (zeroOf te)) h) (fun p => .val (bi ok (.tup [p.2.1, .bool true]) p.2.1) h) r
def lk1 (h : H) (ok : Bool) (kt : Option TI) (k x : AV) (te : TI) : XR := oc (bi (isNilm x) (oc .no (lkRes h ok te) (findK kt k [])) .no) (fun b => oc .no (fun m => oc .no (lkRes h ok te) (findK kt k m.es)) (objMap (h.m.get b))) (asMap x)
def xLookup (Ty : TypeId → Option TI) (h : H) (ok : Bool) (m k : AV) (t : Option (TypeId × TypeId)) : XR := oc .no (fun q => oc .no (lk1 h ok (Ty q.1) k m) (Ty q.2)) t
def mu (h : H) (b : Nat) (k v : AV) (m : Mp) (r : Option (Nat × AV × Nat)) : XR := oc (.val (.tup []) (h.upd b (.map (app m.es [(k, v, m.clock)]) (Nat.succ m.clock)))) (fun p => .val (.tup []) (h.upd b (.map (setAt v m.es p.1) m.clock))) r
def xMapUpdate (Ty : TypeId → Option TI) (h : H) (k v x : AV) (t : Option (TypeId × TypeId)) : XR := oc .no (fun q => oc .no (fun b => oc .no (fun m => oc .no (mu h b k v m) (findK (Ty q.1) k m.es)) (objMap (h.m.get b))) (asMap x)) t
def me (h : H) (b : Nat) (k : AV) (te : TI) (m : Mp) (r : Option (Nat × AV × Nat)) : XR := oc (.val (.tup [zeroOf te, .int .i64 (.ofNat m.clock)]) (h.upd b (.map (app m.es [(k, zeroOf te, m.clock)]) (Nat.succ m.clock)))) (fun p => .val (.tup [p.2.1, .int .i64 (.ofNat p.2.2)]) h) r
def me1 (h : H) (kt : Option TI) (k x : AV) (te : TI) : XR := oc .no (fun b => oc .no (fun m => oc .no (me h b k te m) (findK kt k m.es)) (objMap (h.m.get b))) (asMap x)
def xMapEntry (Ty : TypeId → Option TI) (h : H) (m k : AV) (t : Option (TypeId × TypeId)) : XR := oc .no (fun q => oc .no (me1 h (Ty q.1) k m) (Ty q.2)) t
def xEntryStore (h : H) (v x : AV) (born : Option Nat) : XR := oc .no (fun b => oc .no (fun m => oc .no (fun n => oc .no (fun i => .val (.tup []) (h.upd b (.map (setAt v m.es i) m.clock))) (bornAt n m.es 0)) born) (objMap (h.m.get b))) (asMap x)
def xExtract (h : H) (i : Nat) (x : AV) : XR := oc .no (fun l => kVal h (idx i l)) (asTup x)
def fnId : Fn → Option FuncId := (@Fn.rec (fun _ => Option FuncId) (fun f => some f) (fun _ => none) (fun _ _ => none) (fun _ _ _ _ => none) (fun _ => none) )
def callV : AV → List AV → H → XR := (@AV.rec (fun _ => List AV → H → XR) (fun _ => Unit) (fun _ _ => .no) (fun _ => fun _ _ => .no) (fun _ _ => fun _ _ => .no) (fun _ => fun _ _ => .no) (fun _ _ => .no) (fun _ _ => fun _ _ => .no) (fun _ _ => .no) (fun _ _ _ _ => fun _ _ => .no) (fun _ _ => .no) (fun _ => fun _ _ => .no) (fun f x y _ _ => fun vs h => oc .no (fun f => .call f (app x (app vs y)) h) (fnId f)) (fun _ _ => .no) (fun _ _ _ => fun _ _ => .no) (fun _ _ => .no) (fun _ _ => fun _ _ => .no) (fun _ _ => fun _ _ => .no) (fun _ _ => fun _ _ => .no) (fun _ => fun _ _ => .no) (fun _ _ _ => fun _ _ => .no) (fun _ => fun _ _ => .no) (fun _ _ _ => fun _ _ => .no) () (fun _ _ _ _ => ()))
def xCall : Callee → (TypeId → Option TI) → Tm → H → List Operand → List TypeId → XR := (@Callee.rec (fun _ => (TypeId → Option TI) → Tm → H → List Operand → List TypeId → XR) (fun f => fun _ a h l _ => callV (ev f a) (evL l a) h) (fun _ _ => fun _ _ _ _ _ => .no) (fun b => fun Ty a h l ts => xBuiltin b Ty h ts (evL l a)) )

def xop : Op → (TypeId → Option TI) → Tm → H → XR := (@Op.rec (fun _ => (TypeId → Option TI) → Tm → H → XR) (fun x => fun _ a h => .val (ev x a) h) (fun x => fun _ a h => .val (ev x a) h) (fun c x y => fun _ a h => xPick h (ev c a) (ev x a) (ev y a)) (fun e => fun Ty _ h => xAlloc h e (Ty e)) (fun e x => fun _ a h => xBox h e (ev x a)) (fun t ps => fun Ty a h => xBuild Ty h (prs ps.toList a) (Ty t)) (fun t n ps => fun Ty a h => oc .no (xBuildS Ty h n (prs ps.toList a)) (elemT (Ty t))) (fun t m k v => fun Ty a h => xMapUpdate Ty h (ev k a) (ev v a) (ev m a) (mapT (Ty t))) (fun t x => fun Ty a h => xLoad h (ev x a) (Ty t)) (fun t x y => fun Ty a h => xStore h (ev y a) (ev x a) (Ty t)) (fun _ => fun _ _ _ => .no) (fun _ => fun _ _ _ => .no) (fun x => fun _ a h => xNilCheck h (ev x a)) (fun op t x y _ => fun Ty a h => binop Ty h op (Ty t) (ev x a) (ev y a)) (fun op _ x => fun _ a h => unop h op (ev x a)) (fun s d x => fun Ty a h => bi (isSome (Ty s)) (xConvert Ty h (ev x a) (Ty s) (Ty d)) .no) (fun _ _ => fun _ _ _ => .no) (fun _ _ => fun _ _ _ => .no) (fun f x y => fun _ a h => .val (.fn f (evL x.toList a) (evL y.toList a)) h) (fun _ r => fun _ _ h => bi (isNone r) (kNew h (.map [] 0) .map) .no) (fun _ _ => fun _ _ _ => .no) (fun t l c => fun Ty a h => xMakeSlice Ty h (intNat (ev l a)) (intNat (ev c a)) (elemT (Ty t))) (fun t x lo hi mx => fun Ty a h => xSlice Ty h (ev x a) (evO lo a) (evO hi a) (evO mx a) (Ty t)) (fun t x f => fun Ty a h => xFieldAddr Ty h f (ev x a) (Ty t)) (fun t x f => fun Ty a h => xField Ty h f (ev x a) (Ty t)) (fun t x i => fun Ty a h => xIndexAddr Ty h (ev x a) (intNat (ev i a)) (Ty t)) (fun t x i => fun Ty a h => xIndex Ty h (ev x a) (intNat (ev i a)) (Ty t)) (fun t x i ok => fun Ty a h => xLookup Ty h ok (ev x a) (ev i a) (mapT (Ty t))) (fun t m k v => fun Ty a h => xMapUpdate Ty h (ev k a) (ev v a) (ev m a) (mapT (Ty t))) (fun t m k => fun Ty a h => xMapEntry Ty h (ev m a) (ev k a) (mapT (Ty t))) (fun _ m s v => fun _ a h => xEntryStore h (ev v a) (ev m a) (intNat (ev s a))) (fun t x => fun Ty a h => xRange h (ev x a) (Ty t)) (fun x s => fun _ a h => xNext h (ev x a) s) (fun x => fun _ a h => xEntry h (ev x a)) (fun _ _ _ _ => fun _ _ _ => .no) (fun x i => fun _ a h => xExtract h i (ev x a)) (fun c => fun Ty a h => xCall c.callee Ty a h c.args.toList c.argTypes.toList) (fun _ => fun _ _ _ => .no) (fun _ => fun _ _ _ => .no) (fun _ => fun _ _ _ => .no) (fun _ _ => fun _ _ _ => .no) (fun _ _ _ => fun _ _ _ => .no) (fun _ _ => fun _ _ _ => .no) )

/-! Code. -/
inductive XE where
  | normal
  | exit (id : Nat)
  | goto (l : Nat)
  | ret
inductive R where
  | no
  | mk (e : XE) (a : Tm) (h : H)
  | ret (v : AV) (h : H)
/-- An operation of a region whose order is drawn: its place, as a bit, those that it waits for, all that are ahead of it. -/
structure OX where
  i : Nat
  bit : Nat
  m : Nat
  b : Nat
  o : Oper
/-- An operation that only read, and what it told. -/
structure RdE where
  i : Nat
  bit : Nat
  o : Oper
  a : Tm
  v : AV
inductive Task where
  | code (c : Code)
  | scope (b c : Code)
  | ops (ops : Array Oper) (l : List Oper)
  | call (f : FuncId) (args : List AV)
  | draw (ops : Array Oper) (l : List OX) (L : Nat) (pd : List RdE)
abbrev Rc := Task → Tm → H → R

def rd (h : H) (x : AV) (t : Option TI) : Option AV :=
  oc none (fun p => oc none (fun ti => oc none (fun c => bi (isAgg ti.kind) (oc none (fun l => some (.agg l)) (sub c.1 p.2 ti.size)) (idx p.2 c.1)) (objCells (h.m.get p.1))) t) (asPtr x)
def rd1 : ResultVar → (TypeId → Option TI) → H → Tm → Option AV := (@ResultVar.rec (fun _ => (TypeId → Option TI) → H → Tm → Option AV) (fun t => fun _ _ a => some (tmD (a.get t))) (fun t ty => fun Ty h a => rd h (tmD (a.get t)) (Ty ty)) )
def readL (Ty : TypeId → Option TI) (h : H) (a : Tm) (l : List ResultVar) : Option (List AV) := @List.rec ResultVar (fun _ => Option (List AV)) (some []) (fun x _ r => oc none (fun v => oc none (fun l => some (v :: l)) r) (rd1 x Ty h a)) l
def initT (l : List AV) : Nat → Tm → Tm := @List.rec AV (fun _ => Nat → Tm → Tm) (fun _ t => t) (fun v _ g i t => g (Nat.succ i) (t.set i v)) l
def putD (d : Option Tmp) (v : AV) (a : Tm) : Tm := oc a (fun d => a.set d v) d

/-! A region whose order is drawn: what waits for what. -/
def edgeB : Ground → Bool := (@Ground.rec (fun _ => Bool) (true) (true) (true) (true) (fun _ => false) (fun _ => false) )
def wL (l : List Edge) : Nat := @List.rec Edge (fun _ => Nat) (nat_lit 0) (fun e _ r => bi (edgeB e.ground) (Nat.lor (Nat.shiftLeft (nat_lit 1) e.on) r) r) l
def clL (bs : T Nat) (l : List Edge) : Nat := @List.rec Edge (fun _ => Nat) (nat_lit 0) (fun e _ r => bi (edgeB e.ground) (Nat.lor (oc (nat_lit 0) (fun n => n) (bs.get e.on)) r) r) l
def prepL (l : List Oper) : Nat → T Nat → List OX := @List.rec Oper (fun _ => Nat → T Nat → List OX) (fun _ _ => []) (fun o _ g i bs => nF i fun i => nF (wL o.after.toList) fun m => nF (Nat.lor m (clL bs o.after.toList)) fun b => nF (Nat.shiftLeft (nat_lit 1) i) fun bit => OX.mk i bit m b o :: g (Nat.succ i) (bs.set i b)) l
def prep (ops : Array Oper) : List OX := prepL ops.toList (nat_lit 0) .e
def hasB (b bit : Nat) : Bool := bi (Nat.beq (Nat.land b bit) (nat_lit 0)) false true
def allL {α : Type} (p : α → Bool) (l : List α) : Bool := @List.rec α (fun _ => Bool) true (fun x _ r => bi (p x) r false) l
def dstIs (t : Nat) (o : Option Tmp) : Bool := oc false (fun d => Nat.beq d t) o
def dk1 (X : List OX) (y : OX) (t : Nat) : Bool := allL (fun x => bi (dstIs t x.o.dst) (bi (Nat.beq x.i y.i) true (bi (hasB y.b x.bit) true (hasB x.b y.bit))) true) X
def dk2 (X : List OX) (y : OX) : Bool := oc true (fun t => allL (fun x => bi (dstIs t x.o.dst) (Nat.beq x.i y.i) true) X) y.o.dst
def tmL (l : List Operand) : List Nat := @List.rec Operand (fun _ => List Nat) [] (fun x _ r => (@Operand.rec (fun _ => List Nat → List Nat) (fun t => fun r => t :: r) (fun _ => fun r => r) (fun _ => fun r => r) (fun _ => fun r => r) ) x r) l
def gdL (ops : Array Oper) (o : Oper) : List Nat := oc [] (fun p => oc [] (fun q => oc [] (fun d => [d]) q.dst) (idx p.1 ops.toList)) o.guard
def looksL (ops : Array Oper) (o : Oper) : List Nat := app (gdL ops o) (tmL o.op.operands.toList)
def dk (ops : Array Oper) (X : List OX) : Bool := allL (fun y => bi (Nat.blt y.m y.bit) (bi (allL (dk1 X y) (looksL ops y.o)) (dk2 X y) false) false) X
def drawOk (ops : Array Oper) : Bool := dk ops (prep ops)
def seqK : R → Rc → Code → R := (@R.rec (fun _ => Rc → Code → R) (fun _ _ => .no) (fun e a h => fun g y => (@XE.rec (fun _ => Rc → Code → Tm → H → R) (fun g y a h => g (.code y) a h) (fun id => fun _ _ a h => .mk (.exit id) a h) (fun l => fun _ _ a h => .mk (.goto l) a h) (fun _ _ a h => .mk .ret a h) ) e g y a h) (fun _ _ => fun _ _ => .no) )
def condK (b : Option Bool) (g : Rc) (x y : Code) (a : Tm) (h : H) : R := oc .no (fun b => bi b (g (.code x) a h) (g (.code y) a h)) b
def blockK : R → Nat → R := (@R.rec (fun _ => Nat → R) (fun _ => .no) (fun e a h => fun id => (@XE.rec (fun _ => Nat → Tm → H → R) (fun _ a h => .mk .normal a h) (fun j => fun id a h => bi (Nat.beq j id) (.mk .normal a h) (.mk (.exit j) a h)) (fun l => fun _ a h => .mk (.goto l) a h) (fun _ a h => .mk .ret a h) ) e id a h) (fun _ _ => fun _ => .no) )
def codeF : Code → Rc → Tm → H → R := (@Code.rec (fun _ => Rc → Tm → H → R) (fun _ a h => .mk .normal a h) (fun _ ops d => fun g a h => bi d (g (.draw ops (prep ops) (nat_lit 0) []) a h) (g (.ops ops ops.toList) a h)) (fun x y _ _ => fun g a h => seqK (g (.code x) a h) g y) (fun c x y _ _ => fun g a h => condK (asBool (ev c a)) g x y a h) (fun id c _ => fun g a h => blockK (g (.code c) a h) id) (fun c _ => fun g a h => seqK (g (.code c) a h) g (.loop c)) (fun _ _ _ _ _ _ => fun _ _ _ => .no) (fun id => fun _ a h => .mk (.exit id) a h) (fun c _ => fun g a h => g (.scope c c) a h) (fun _ => fun _ a h => .mk .normal a h) (fun l => fun _ a h => .mk (.goto l) a h) (fun _ a h => .mk .ret a h) (fun _ => fun _ _ _ => .no) )
def gotoK (o : Option Code) (g : Rc) (b : Code) (l : Nat) (a : Tm) (h : H) : R := oc (.mk (.goto l) a h) (fun rest => g (.scope b rest) a h) o
def scopeK : R → Rc → Code → R := (@R.rec (fun _ => Rc → Code → R) (fun _ _ => .no) (fun e a h => fun g b => (@XE.rec (fun _ => Rc → Code → Tm → H → R) (fun _ _ a h => .mk .normal a h) (fun id => fun _ _ a h => .mk (.exit id) a h) (fun l => fun g b a h => gotoK (findLabel b l) g b l a h) (fun _ _ a h => .mk .ret a h) ) e g b a h) (fun _ _ => fun _ _ => .no) )
/-- What a guard says: none: not known. -/
def wantV : AV → Bool → Option Bool := (@AV.rec (fun _ => Bool → Option Bool) (fun _ => Unit) (fun _ => none) (fun b => fun want => some (bi want b (bi b false true))) (fun _ _ => fun _ => none) (fun _ => fun _ => none) (fun _ => none) (fun _ _ => fun _ => none) (fun _ => none) (fun _ _ _ _ => fun _ => none) (fun _ => none) (fun _ => fun _ => none) (fun _ _ _ _ _ => fun _ => none) (fun _ => none) (fun _ _ _ => fun _ => none) (fun _ => none) (fun _ _ => fun _ => none) (fun _ _ => fun _ => some false) (fun _ _ => fun _ => none) (fun _ => fun _ => none) (fun _ _ _ => fun _ => none) (fun _ => fun _ => none) (fun _ _ _ => fun _ => none) () (fun _ _ _ _ => ()))
def wantD (o : Option Oper) (want : Bool) (a : Tm) : Option Bool := oc none (fun o => oc none (fun d => wantV (tmD (a.get d)) want) o.dst) o
def wants (gd : Option (Nat × Bool)) (ops : Array Oper) (a : Tm) : Option Bool := oc (some true) (fun p => wantD (idx p.1 ops.toList) p.2 a) gd
abbrev Ovs := FuncId → Option (List AV → H → XR)
def ovR : XR → R → R := (@XR.rec (fun _ => R → R) (fun r => r) (fun v h => fun _ => .ret v h) (fun _ _ _ => fun r => r) )
def callK (Ov : Ovs) (g : Rc) (f : FuncId) (args : List AV) (h : H) : R := oc (g (.call f args) .e h) (fun x => ovR (x args h) (g (.call f args) .e h)) (Ov f)
def retK : R → Rc → Array Oper → List Oper → Option Tmp → Tm → R := (@R.rec (fun _ => Rc → Array Oper → List Oper → Option Tmp → Tm → R) (fun _ _ _ _ _ => .no) (fun _ _ _ => fun _ _ _ _ _ => .no) (fun v h => fun g ops r d a => g (.ops ops r) (putD d v a) h) )
def opK : XR → Ovs → Rc → Array Oper → List Oper → Option Tmp → Tm → R := (@XR.rec (fun _ => Ovs → Rc → Array Oper → List Oper → Option Tmp → Tm → R) (fun _ _ _ _ _ _ => .no) (fun v h => fun _ g ops r d a => g (.ops ops r) (putD d v a) h) (fun f args h => fun Ov g ops r d a => retK (callK Ov g f args h) g ops r d a) )
def op1 (o : Oper) (Ty : TypeId → Option TI) (Ov : Ovs) (g : Rc) (ops : Array Oper) (r : List Oper) (a : Tm) (h : H) : R := oc .no (fun b => bi b (opK (xop o.op Ty a h) Ov g ops r o.dst a) (g (.ops ops r) (putD o.dst (.tup []) a) h)) (wants o.guard ops a)
def opsF (l : List Oper) (Ty : TypeId → Option TI) (Ov : Ovs) (g : Rc) (ops : Array Oper) (a : Tm) (h : H) : R := @List.rec Oper (fun _ => R) (.mk .normal a h) (fun o r _ => op1 o Ty Ov g ops r a h) l
/-! A region whose order is drawn, in one order; reads are looked at again behind each write that they don't wait for. -/
inductive KD where
  | pure
  | read
  | alloc
  | eff
def kdB : Builtin → KD := (@Builtin.rec (fun _ => KD) (.eff) (.eff) (.eff) (.eff) (.eff) (.eff) (.eff) (.eff) (.read) (.eff) (.pure) (.pure) (.eff) (.eff) (.eff) (.eff) (.eff) (.eff) (.eff) (.eff) (.eff) (.eff) (.eff) (.eff) (.eff) (.eff) )
def kdC : Callee → KD := (@Callee.rec (fun _ => KD) (fun _ => .eff) (fun _ _ => .eff) (fun b => kdB b) )
def kd : Op → KD := (@Op.rec (fun _ => KD) (fun _ => .pure) (fun _ => .pure) (fun _ _ _ => .pure) (fun _ => .alloc) (fun _ _ => .alloc) (fun _ _ => .pure) (fun _ _ _ => .alloc) (fun _ _ _ _ => .eff) (fun _ _ => .read) (fun _ _ _ => .eff) (fun _ => .eff) (fun _ => .eff) (fun _ => .pure) (fun _ _ _ _ _ => .pure) (fun _ _ _ => .pure) (fun _ _ _ => .read) (fun _ _ => .eff) (fun _ _ => .eff) (fun _ _ _ => .pure) (fun _ _ => .alloc) (fun _ _ => .eff) (fun _ _ _ => .alloc) (fun _ _ _ _ _ => .read) (fun _ _ _ => .pure) (fun _ _ _ => .pure) (fun _ _ _ => .pure) (fun _ _ _ => .pure) (fun _ _ _ _ => .read) (fun _ _ _ _ => .eff) (fun _ _ _ => .eff) (fun _ _ _ _ => .eff) (fun _ _ => .eff) (fun _ _ => .eff) (fun _ => .eff) (fun _ _ _ _ => .eff) (fun _ _ => .pure) (fun c => kdC c.callee) (fun _ => .eff) (fun _ => .eff) (fun _ => .eff) (fun _ _ => .eff) (fun _ _ _ => .eff) (fun _ _ => .eff) )
def isAny : AV → Bool := (@AV.rec (fun _ => Bool) (fun _ => Unit) (true) (fun _ => false) (fun _ _ => false) (fun _ => false) (false) (fun _ _ => false) (false) (fun _ _ _ _ => false) (false) (fun _ => false) (fun _ _ _ _ _ => false) (false) (fun _ _ _ => false) (false) (fun _ _ => false) (fun _ _ => false) (fun _ _ => false) (fun _ => false) (fun _ _ _ => false) (fun _ => false) (fun _ _ _ => false) () (fun _ _ _ _ => ()))
def eqXslc (n : Nat) (ge : Bool) : AV → Bool := (@AV.rec (fun _ => Nat → Bool → Bool) (fun _ => Unit) (fun _ _ => false) (fun _ => fun _ _ => false) (fun _ _ => fun _ _ => false) (fun _ => fun _ _ => false) (fun _ _ => false) (fun _ _ => fun _ _ => false) (fun _ _ => false) (fun _ _ _ _ => fun _ _ => false) (fun _ _ => false) (fun _ => fun _ _ => false) (fun _ _ _ _ _ => fun _ _ => false) (fun _ _ => false) (fun _ _ _ => fun _ _ => false) (fun _ _ => false) (fun _ _ => fun _ _ => false) (fun _ _ => fun _ _ => false) (fun m g => fun n ge => bi (Nat.beq n m) (bi ge g (bi g false true)) false) (fun _ => fun _ _ => false) (fun _ _ _ => fun _ _ => false) (fun _ => fun _ _ => false) (fun _ _ _ => fun _ _ => false) () (fun _ _ _ _ => ())) |> fun f v => f v n ge
def eqXi (x : Xi) (y : AV) : Bool := oc false (fun z => bi (Nat.beq x.k z.k) (bi (ieq x.a z.a) (bi (ieq x.c z.c) (bi (ieq x.lo z.lo) (ieq x.hi z.hi) false) false) false) false) (asXi y)
def eqXnat (n : Nat) (y : AV) : Bool := oc false (fun m => Nat.beq n m) (asXnat y)
def eqXres (k m : Nat) (r : Int) (y : AV) : Bool := oc false (fun x => bi (Nat.beq k x.k) (bi (Nat.beq m x.m) (ieq r x.r) false) false) (asXres y)
def isNili : AV → Bool := (@AV.rec (fun _ => Bool) (fun _ => Unit) (false) (fun _ => false) (fun _ _ => false) (fun _ => false) (false) (fun _ _ => false) (false) (fun _ _ _ _ => false) (false) (fun _ => false) (fun _ _ _ _ _ => false) (false) (fun _ _ _ => false) (true) (fun _ _ => false) (fun _ _ => false) (fun _ _ => false) (fun _ => false) (fun _ _ _ => false) (fun _ => false) (fun _ _ _ => false) () (fun _ _ _ _ => ()))
def capEq : Cap → Cap → Bool := (@Cap.rec (fun _ => Cap → Bool) (fun n => (@Cap.rec (fun _ => Bool) (fun m => Nat.beq n m) (fun _ _ => false) )) (fun s k => (@Cap.rec (fun _ => Bool) (fun _ => false) (fun r j => bi (Nat.beq s r) (Nat.beq k j) false) )) )
def slcEq (b o n : Nat) (c : Cap) (s : Slc) : Bool := bi (Nat.beq b s.b) (bi (Nat.beq o s.o) (bi (Nat.beq n s.len) (capEq c s.cap) false) false) false
def avEq : AV → AV → Bool := @AV.rec (fun _ => AV → Bool) (fun _ => List AV → Bool)
  isAny (fun b y => oc false (fun c => bi b c (bi c false true)) (asBool y)) (fun k n y => oc false (fun p => bi (Nat.beq (ikN k) (ikN p.1)) (ieq n p.2) false) (asInt y)) (fun l y => oc false (fun m => lbeq l m) (asStr y))
  isNilp (fun b o y => oc false (fun p => bi (Nat.beq b p.1) (Nat.beq o p.2) false) (asPtr y)) isNils (fun b o n c y => oc false (slcEq b o n c) (asSlc y)) isNilm (fun b y => oc false (fun c => Nat.beq b c) (asMap y))
  (fun _ _ _ _ _ _ => false) isNilf (fun _ _ _ _ => false) isNili (fun _ g y => oc false g (asAgg y)) (fun _ g y => oc false g (asTup y)) eqXslc eqXnat eqXres eqXi (fun _ _ _ _ => false)
  (fun l => @List.rec AV (fun _ => Bool) true (fun _ _ _ => false) l) (fun _ _ g gr l => @List.rec AV (fun _ => Bool) false (fun y r _ => bi (g y) (gr r) false) l)
abbrev PG := List OX → Nat → Tm → H → List RdE → R
def pVal (x : OX) (g : PG) (kept : List OX) (L : Nat) (a : Tm) (pd : List RdE) : XR → R := fun r => (@XR.rec (fun _ => OX → PG → List OX → Nat → Tm → List RdE → R) (fun _ _ _ _ _ _ => .no) (fun v h => fun x g kept L a pd => nF (Nat.lor L x.bit) fun L => g kept L (putD x.o.dst v a) h pd) (fun _ _ _ => fun _ _ _ _ _ _ => .no) ) r x g kept L a pd
def pRead (x : OX) (g : PG) (kept : List OX) (L : Nat) (a : Tm) (pd : List RdE) : XR → R := fun r => (@XR.rec (fun _ => OX → PG → List OX → Nat → Tm → List RdE → R) (fun _ _ _ _ _ _ => .no) (fun v h => fun x g kept L a pd => nF (Nat.lor L x.bit) fun L => g kept L (putD x.o.dst v a) h (RdE.mk x.i x.bit x.o a v :: pd)) (fun _ _ _ => fun _ _ _ _ _ _ => .no) ) r x g kept L a pd
def passOp : KD → OX → (TypeId → Option TI) → PG → List OX → Nat → Tm → H → List RdE → R := (@KD.rec (fun _ => OX → (TypeId → Option TI) → PG → List OX → Nat → Tm → H → List RdE → R) (fun x Ty g kept L a h pd => pVal x g kept L a pd (xop x.o.op Ty a h)) (fun x Ty g kept L a h pd => pRead x g kept L a pd (xop x.o.op Ty a h)) (fun x Ty g kept L a h pd => pVal x g kept L a pd (xop x.o.op Ty a h)) (fun x _ g kept L a h pd => g (x :: kept) L a h pd) )
def pass1 (x : OX) (Ty : TypeId → Option TI) (ops : Array Oper) (g : PG) (kept : List OX) (L : Nat) (a : Tm) (h : H) (pd : List RdE) : R :=
  bi (Nat.beq (Nat.land x.m L) x.m) (oc .no (fun b => bi b (passOp (kd x.o.op) x Ty g kept L a h pd) (nF (Nat.lor L x.bit) fun L => g kept L (putD x.o.dst (.tup []) a) h pd)) (wants x.o.guard ops a)) (g (x :: kept) L a h pd)
def passF (l : List OX) (Ty : TypeId → Option TI) (ops : Array Oper) (fin : PG) : PG := @List.rec OX (fun _ => PG) fin (fun x _ g => pass1 x Ty ops g) l
def chk1 : XR → RdE → List RdE → Option (List RdE) := (@XR.rec (fun _ => RdE → List RdE → Option (List RdE)) (fun _ _ => none) (fun v _ => fun p l => bi (avEq v p.v) (some (p :: l)) none) (fun _ _ _ => fun _ _ => none) )
def chk (Ty : TypeId → Option TI) (b : Nat) (h : H) (l : List RdE) : Option (List RdE) := @List.rec RdE (fun _ => Option (List RdE)) (some []) (fun p _ r => bi (hasB b p.bit) r (oc none (fun l => chk1 (xop p.o.op Ty p.a h) p l) r)) l
def stage2 (Ty : TypeId → Option TI) (g : Rc) (ops : Array Oper) (e : OX) (r : List OX) (L : Nat) (a : Tm) (pd : List RdE) (v : AV) (h : H) : R := oc .no (fun pd => nF (Nat.lor L e.bit) fun L => g (.draw ops r L pd) (putD e.o.dst v a) h) (chk Ty e.b h pd)
def dret : R → (TypeId → Option TI) → Rc → Array Oper → OX → List OX → Nat → Tm → List RdE → R := (@R.rec (fun _ => (TypeId → Option TI) → Rc → Array Oper → OX → List OX → Nat → Tm → List RdE → R) (fun _ _ _ _ _ _ _ _ => .no) (fun _ _ _ => fun _ _ _ _ _ _ _ _ => .no) (fun v h => fun Ty g ops e r L a pd => stage2 Ty g ops e r L a pd v h) )
def dop : XR → (TypeId → Option TI) → Ovs → Rc → Array Oper → OX → List OX → Nat → Tm → List RdE → R := (@XR.rec (fun _ => (TypeId → Option TI) → Ovs → Rc → Array Oper → OX → List OX → Nat → Tm → List RdE → R) (fun _ _ _ _ _ _ _ _ _ => .no) (fun v h => fun Ty _ g ops e r L a pd => stage2 Ty g ops e r L a pd v h) (fun f args h => fun Ty Ov g ops e r L a pd => dret (callK Ov g f args h) Ty g ops e r L a pd) )
def stage1 (Ty : TypeId → Option TI) (Ov : Ovs) (ops : Array Oper) (g : Rc) (e : OX) (r : List OX) (L : Nat) (a : Tm) (h : H) (pd : List RdE) : R :=
  bi (Nat.beq (Nat.land e.m L) e.m) (bi (allL (fun x => hasB x.b e.bit) r) (oc .no (fun b => bi b (dop (xop e.o.op Ty a h) Ty Ov g ops e r L a pd) .no) (wants e.o.guard ops a)) .no) .no
def stageL (Ty : TypeId → Option TI) (Ov : Ovs) (ops : Array Oper) (g : Rc) (l : List OX) (L : Nat) (a : Tm) (h : H) (pd : List RdE) : R := @List.rec OX (fun _ => R) (.mk .normal a h) (fun e r _ => stage1 Ty Ov ops g e r L a h pd) l
def revL {α : Type} (l : List α) : List α → List α := @List.rec α (fun _ => List α → List α) (fun r => r) (fun x _ g r => g (x :: r)) l
def drawF (l : List OX) (Ty : TypeId → Option TI) (Ov : Ovs) (g : Rc) (ops : Array Oper) (L : Nat) (pd : List RdE) (a : Tm) (h : H) : R := passF l Ty ops (fun kept L a h pd => stageL Ty Ov ops g (revL kept []) L a h pd) [] L a h pd
def one (l : List AV) : AV := @List.rec AV (fun _ => AV) (.tup []) (fun v r _ => @List.rec AV (fun _ => AV) v (fun _ _ _ => .tup l) r) l
def resK (o : Option (List AV)) (h : H) : R := oc .no (fun l => .ret (one l) h) o
def endK : R → Func → (TypeId → Option TI) → R := (@R.rec (fun _ => Func → (TypeId → Option TI) → R) (fun _ _ => .no) (fun e a h => fun fn Ty => (@XE.rec (fun _ => Func → (TypeId → Option TI) → Tm → H → R) (fun fn Ty a h => resK (readL Ty h a fn.results.toList) h) (fun _ => fun _ _ _ _ => .no) (fun _ => fun _ _ _ _ => .no) (fun fn Ty a h => resK (readL Ty h a fn.results.toList) h) ) e fn Ty a h) (fun _ _ => fun _ _ => .no) )
def dstOk (n : Nat) (d : Option Tmp) : Bool := oc true (fun d => Nat.blt d n) d
def opsOk (n : Nat) (l : List Oper) : Bool := @List.rec Oper (fun _ => Bool) true (fun o _ r => bi (dstOk n o.dst) r false) l
def codeOk (n : Nat) : Code → Bool
  | .region _ ops d => bi d (bi (drawOk ops) (opsOk n ops.toList) false) (opsOk n ops.toList)
  | .seq a b => bi (codeOk n a) (codeOk n b) false
  | .cond _ a b => bi (codeOk n a) (codeOk n b) false
  | .block _ c => codeOk n c
  | .loop c => codeOk n c
  | .scope c => codeOk n c
  | _ => true
def fnOk (fn : Func) : Bool := bi (fn.name == "runtime.NumGoroutine") false (oc false (codeOk fn.ntmps) fn.body)
def bodyK (o : Option Code) (g : Rc) (fn : Func) (Ty : TypeId → Option TI) (args : List AV) (h : H) : R := oc .no (fun c => endK (g (.code c) (initT args 0 .e) h) fn Ty) o
def callF (o : Option Func) (g : Rc) (Ty : TypeId → Option TI) (args : List AV) (h : H) : R := oc .no (fun fn => bi (fnOk fn) (bodyK fn.body g fn Ty args h) .no) o
def taskF : Task → (TypeId → Option TI) → (FuncId → Option Func) → Ovs → Rc → Tm → H → R := (@Task.rec (fun _ => (TypeId → Option TI) → (FuncId → Option Func) → Ovs → Rc → Tm → H → R) (fun c => fun _ _ _ g a h => codeF c g a h) (fun b c => fun _ _ _ g a h => scopeK (g (.code c) a h) g b) (fun ops l => fun Ty _ Ov g a h => opsF l Ty Ov g ops a h) (fun f args => fun Ty Fn _ g _ h => callF (Fn f) g Ty args h) (fun ops l L pd => fun Ty _ Ov g a h => drawF l Ty Ov g ops L pd a h) )
def run (Ty : TypeId → Option TI) (Fn : FuncId → Option Func) (Ov : Ovs) (f : Nat) : Rc := @Nat.rec (fun _ => Rc) (fun _ _ _ => .no) (fun _ g t a h => taskF t Ty Fn Ov g a h) f
end
end Go.Proofs.YtimjbojoeacaeaaDoor.Kx
