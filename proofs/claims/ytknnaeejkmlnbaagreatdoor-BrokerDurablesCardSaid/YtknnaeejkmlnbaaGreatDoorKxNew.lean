/- Parts of my evaluator, one behind the other: KxEv KxBase KxRel KxOps KxNum KxPure KxNew. -/
import GoSem.Step
import Derived.WalkKit
import Derived.Laws.Cells
import Derived.Laws.StructEq
import Derived.Laws.Strings
import Derived.IntWalk
/- An evaluator for runs of a program whose data is known, made for the kernel: values with block numbers of their own, finite maps, the operations, code. Plain definitions; what they have to do with the model is shown elsewhere. -/
namespace Go.Proofs.YtknnaeejkmlnbaaGreatDoor.Kx
noncomputable section

def bi {β : Type} (c : Bool) (t e : β) : β := @Bool.rec (fun _ => β) e t c
def oc {α β : Type} (n : β) (s : α → β) (o : Option α) : β := @Option.rec α (fun _ => β) n s o
/-- The number is written out before the rest goes on. -/
def nF {β : Type} (n : Nat) (k : Nat → β) : β := @Nat.rec (fun _ => β) (k (nat_lit 0)) (fun m _ => k (Nat.succ m)) n

/-! Finite maps from numbers. -/
inductive P where
  | z
  | a (p : P)
  | b (p : P)
inductive T (α : Type) where
  | e
  | n (v : Option α) (l r : T α)
def pthF (f : Nat) : Nat → P := @Nat.rec (fun _ => Nat → P) (fun _ => .z)
  (fun _ g k => bi (Nat.beq k (nat_lit 0)) .z (bi (Nat.beq (Nat.mod k (nat_lit 2)) (nat_lit 1)) (.a (g (Nat.div k (nat_lit 2)))) (.b (g (Nat.sub (Nat.div k (nat_lit 2)) (nat_lit 1)))))) f
def pth (k : Nat) : P := pthF (Nat.succ k) k
def T.getP {α : Type} (t : T α) : P → Option α :=
  @T.rec α (fun _ => P → Option α) (fun _ => none) (fun v _ _ gl gr p => @P.rec (fun _ => Option α) v (fun p _ => gl p) (fun p _ => gr p) p) t
def T.setP {α : Type} (x : α) (p : P) : T α → T α :=
  @P.rec (fun _ => T α → T α)
    (fun t => @T.rec α (fun _ => T α) (.n (some x) .e .e) (fun _ l r _ _ => .n (some x) l r) t)
    (fun _ g t => @T.rec α (fun _ => T α) (.n none (g .e) .e) (fun v l r _ _ => .n v (g l) r) t)
    (fun _ g t => @T.rec α (fun _ => T α) (.n none .e (g .e)) (fun v l r _ _ => .n v l (g r)) t) p
def T.get {α : Type} (t : T α) (k : Nat) : Option α := t.getP (pth k)
def T.set {α : Type} (t : T α) (k : Nat) (x : α) : T α := T.setP x (pth k) t

/-! Values. -/
inductive Cap where
  | k (n : Nat)
  | v (s k : Nat)
/-- An int that is known by a letter: a times the letter's number and c; at least lo, at most hi. -/
structure Xi where
  k : Nat
  a : Int
  c : Int
  lo : Int
  hi : Int
inductive AV where
  | any
  | bool (b : Bool)
  | int (k : IntKind) (n : Int)
  | str (l : List Nat)
  | nilp
  | ptr (b o : Nat)
  | nils
  | slc (b o len : Nat) (cap : Cap)
  | nilm
  | map (b : Nat)
  | fn (f : Fn) (first cap : List AV)
  | nilf
  | ifc (t : TypeId) (v : AV)
  | nili
  | agg (l : List AV)
  | tup (l : List AV)
  | xslc (n : Nat) (ge : Bool)
  | xnat (n : Nat)
  | xres (k m : Nat) (r : Int)
  | xi (x : Xi)
  | xz (b n L : Nat)
/-- An iterator: over a text, over a map. -/
inductive It where
  | s (l : List Nat) (pos : Nat)
  | m (b since : Nat) (seen : List Nat) (last : Nat)
  | b (m : Nat) (t : TypeId)
inductive AObj where
  | cells (l : List AV) (t : TypeId)
  | map (es : List (AV × AV × Nat)) (clock : Nat)
  | sit (it : It)
  | dead
inductive TK where
  | bool | int (k : IntKind) | str | slice (e : TypeId) | ptr (e : TypeId) | map (k e : TypeId) | struct (fs : List (Nat × TypeId)) | arr (n : Nat) (e : TypeId) | iface | func | other
structure TI where
  kind : TK
  size : Nat
  bytes : Nat
  zero : List AV
  eqs : Bool

def kOf : TypeDesc → TK := (@TypeDesc.rec (fun _ => TK) (.other) (.bool) (fun k => .int k) (fun _ => .other) (fun _ => .other) (.str) (.other) (fun e => .ptr e) (fun e => .slice e) (fun n e => .arr n e) (fun k e => .map k e) (fun _ _ => .other) (fun fs => .struct (fs.toList.map fun f => (f.offset, f.type))) (fun _ _ _ => .func) (fun _ => .iface) (fun _ => .other) (fun _ _ => .other) )
/-! Lists. -/
def lenA {α : Type} (l : List α) : Nat → Nat := @List.rec α (fun _ => Nat → Nat) (fun n => n) (fun _ _ g n => nF n fun n => g (Nat.succ n)) l
def len {α : Type} (l : List α) : Nat := lenA l (nat_lit 0)
def drp {α : Type} (n : Nat) : List α → List α := @Nat.rec (fun _ => List α → List α) (fun l => l) (fun _ g l => @List.rec α (fun _ => List α) [] (fun _ r _ => g r) l) n
def tak {α : Type} (n : Nat) : List α → List α := @Nat.rec (fun _ => List α → List α) (fun _ => []) (fun _ g l => @List.rec α (fun _ => List α) [] (fun x r _ => x :: g r) l) n
def idx {α : Type} (n : Nat) : List α → Option α := @Nat.rec (fun _ => List α → Option α) (fun l => @List.rec α (fun _ => Option α) none (fun x _ _ => some x) l) (fun _ g l => @List.rec α (fun _ => Option α) none (fun _ r _ => g r) l) n
def app {α : Type} (x y : List α) : List α := @List.rec α (fun _ => List α) y (fun a _ r => a :: r) x
def ovr {α : Type} (ys : List α) : List α → List α := @List.rec α (fun _ => List α → List α) (fun l => l) (fun y _ g l => y :: g (drp (nat_lit 1) l)) ys
def putL {α : Type} (ys : List α) (o : Nat) : List α → List α := @Nat.rec (fun _ => List α → List α) (fun l => ovr ys l) (fun _ g l => @List.rec α (fun _ => List α) [] (fun x r _ => x :: g r) l) o
def sub (l : List AV) (o n : Nat) : Option (List AV) := bi (Nat.ble (Nat.add o n) (len l)) (some (tak n (drp o l))) none
def put (o : Nat) (ys l : List AV) : Option (List AV) := bi (Nat.ble (Nat.add o (len ys)) (len l)) (some (putL ys o l)) none
def repl (z : List AV) (n : Nat) : List AV := @Nat.rec (fun _ => List AV) [] (fun _ g => app z g) n

/-! Views of a value. -/
def asBool : AV → Option Bool := (@AV.rec (fun _ => Option Bool) (fun _ => Unit) (none) (fun b => some b) (fun _ _ => none) (fun _ => none) (none) (fun _ _ => none) (none) (fun _ _ _ _ => none) (none) (fun _ => none) (fun _ _ _ _ _ => none) (none) (fun _ _ _ => none) (none) (fun _ _ => none) (fun _ _ => none) (fun _ _ => none) (fun _ => none) (fun _ _ _ => none) (fun _ => none) (fun _ _ _ => none) () (fun _ _ _ _ => ()))
def asInt : AV → Option (IntKind × Int) := (@AV.rec (fun _ => Option (IntKind × Int)) (fun _ => Unit) (none) (fun _ => none) (fun k n => some (k, n)) (fun _ => none) (none) (fun _ _ => none) (none) (fun _ _ _ _ => none) (none) (fun _ => none) (fun _ _ _ _ _ => none) (none) (fun _ _ _ => none) (none) (fun _ _ => none) (fun _ _ => none) (fun _ _ => none) (fun _ => none) (fun _ _ _ => none) (fun _ => none) (fun _ _ _ => none) () (fun _ _ _ _ => ()))
def asStr : AV → Option (List Nat) := (@AV.rec (fun _ => Option (List Nat)) (fun _ => Unit) (none) (fun _ => none) (fun _ _ => none) (fun l => some l) (none) (fun _ _ => none) (none) (fun _ _ _ _ => none) (none) (fun _ => none) (fun _ _ _ _ _ => none) (none) (fun _ _ _ => none) (none) (fun _ _ => none) (fun _ _ => none) (fun _ _ => none) (fun _ => none) (fun _ _ _ => none) (fun _ => none) (fun _ _ _ => none) () (fun _ _ _ _ => ()))
def asPtr : AV → Option (Nat × Nat) := (@AV.rec (fun _ => Option (Nat × Nat)) (fun _ => Unit) (none) (fun _ => none) (fun _ _ => none) (fun _ => none) (none) (fun b o => some (b, o)) (none) (fun _ _ _ _ => none) (none) (fun _ => none) (fun _ _ _ _ _ => none) (none) (fun _ _ _ => none) (none) (fun _ _ => none) (fun _ _ => none) (fun _ _ => none) (fun _ => none) (fun _ _ _ => none) (fun _ => none) (fun _ _ _ => none) () (fun _ _ _ _ => ()))
structure Slc where
  b : Nat
  o : Nat
  len : Nat
  cap : Cap
def asSlc : AV → Option Slc := (@AV.rec (fun _ => Option Slc) (fun _ => Unit) (none) (fun _ => none) (fun _ _ => none) (fun _ => none) (none) (fun _ _ => none) (none) (fun b o n c => some ⟨b, o, n, c⟩) (none) (fun _ => none) (fun _ _ _ _ _ => none) (none) (fun _ _ _ => none) (none) (fun _ _ => none) (fun _ _ => none) (fun _ _ => none) (fun _ => none) (fun _ _ _ => none) (fun _ => none) (fun _ _ _ => none) () (fun _ _ _ _ => ()))
def asMap : AV → Option Nat := (@AV.rec (fun _ => Option Nat) (fun _ => Unit) (none) (fun _ => none) (fun _ _ => none) (fun _ => none) (none) (fun _ _ => none) (none) (fun _ _ _ _ => none) (none) (fun b => some b) (fun _ _ _ _ _ => none) (none) (fun _ _ _ => none) (none) (fun _ _ => none) (fun _ _ => none) (fun _ _ => none) (fun _ => none) (fun _ _ _ => none) (fun _ => none) (fun _ _ _ => none) () (fun _ _ _ _ => ()))
def asAgg : AV → Option (List AV) := (@AV.rec (fun _ => Option (List AV)) (fun _ => Unit) (none) (fun _ => none) (fun _ _ => none) (fun _ => none) (none) (fun _ _ => none) (none) (fun _ _ _ _ => none) (none) (fun _ => none) (fun _ _ _ _ _ => none) (none) (fun _ _ _ => none) (none) (fun l _ => some l) (fun _ _ => none) (fun _ _ => none) (fun _ => none) (fun _ _ _ => none) (fun _ => none) (fun _ _ _ => none) () (fun _ _ _ _ => ()))
def asTup : AV → Option (List AV) := (@AV.rec (fun _ => Option (List AV)) (fun _ => Unit) (none) (fun _ => none) (fun _ _ => none) (fun _ => none) (none) (fun _ _ => none) (none) (fun _ _ _ _ => none) (none) (fun _ => none) (fun _ _ _ _ _ => none) (none) (fun _ _ _ => none) (none) (fun _ _ => none) (fun l _ => some l) (fun _ _ => none) (fun _ => none) (fun _ _ _ => none) (fun _ => none) (fun _ _ _ => none) () (fun _ _ _ _ => ()))
def cellsOf : AV → List AV := (@AV.rec (fun _ => AV → List AV) (fun _ => Unit) (fun v => [v]) (fun _ => fun v => [v]) (fun _ _ => fun v => [v]) (fun _ => fun v => [v]) (fun v => [v]) (fun _ _ => fun v => [v]) (fun v => [v]) (fun _ _ _ _ => fun v => [v]) (fun v => [v]) (fun _ => fun v => [v]) (fun _ _ _ _ _ => fun v => [v]) (fun v => [v]) (fun _ _ _ => fun v => [v]) (fun v => [v]) (fun l _ => fun _ => l) (fun _ _ => fun v => [v]) (fun _ _ => fun v => [v]) (fun _ => fun v => [v]) (fun _ _ _ => fun v => [v]) (fun _ => fun v => [v]) (fun _ _ _ => fun v => [v]) () (fun _ _ _ _ => ())) |> fun f v => f v v
def isNilm : AV → Bool := (@AV.rec (fun _ => Bool) (fun _ => Unit) (false) (fun _ => false) (fun _ _ => false) (fun _ => false) (false) (fun _ _ => false) (false) (fun _ _ _ _ => false) (true) (fun _ => false) (fun _ _ _ _ _ => false) (false) (fun _ _ _ => false) (false) (fun _ _ => false) (fun _ _ => false) (fun _ _ => false) (fun _ => false) (fun _ _ _ => false) (fun _ => false) (fun _ _ _ => false) () (fun _ _ _ _ => ()))
def isNils : AV → Bool := (@AV.rec (fun _ => Bool) (fun _ => Unit) (false) (fun _ => false) (fun _ _ => false) (fun _ => false) (false) (fun _ _ => false) (true) (fun _ _ _ _ => false) (false) (fun _ => false) (fun _ _ _ _ _ => false) (false) (fun _ _ _ => false) (false) (fun _ _ => false) (fun _ _ => false) (fun _ _ => false) (fun _ => false) (fun _ _ _ => false) (fun _ => false) (fun _ _ _ => false) () (fun _ _ _ _ => ()))
def okV : AV → Bool := (@AV.rec (fun _ => Bool) (fun _ => Unit) (false) (fun _ => true) (fun _ _ => true) (fun _ => true) (true) (fun _ _ => true) (true) (fun _ _ _ _ => true) (true) (fun _ => true) (fun _ _ _ _ _ => true) (true) (fun _ _ _ => true) (true) (fun _ _ => true) (fun _ _ => false) (fun _ _ => true) (fun _ => true) (fun _ _ _ => true) (fun _ => true) (fun _ _ _ => true) () (fun _ _ _ _ => ()))
def natI : Int → Option Nat := (@Int.rec (fun _ => Option Nat) (fun n => some n) (fun _ => none) )
def intNat : AV → Option Nat := (@AV.rec (fun _ => Option Nat) (fun _ => Unit) (none) (fun _ => none) (fun _ n => natI n) (fun _ => none) (none) (fun _ _ => none) (none) (fun _ _ _ _ => none) (none) (fun _ => none) (fun _ _ _ _ _ => none) (none) (fun _ _ _ => none) (none) (fun _ _ => none) (fun _ _ => none) (fun _ _ => none) (fun _ => none) (fun _ _ _ => none) (fun _ => none) (fun _ _ _ => none) () (fun _ _ _ _ => ()))

/-! Constants, operands. -/
def byteL (l : List UInt8) : List Nat := @List.rec UInt8 (fun _ => List Nat) [] (fun c _ r => c.toNat :: r) l
def zz (a c : Nat) : AV := bi (Nat.beq a (nat_lit 0)) (bi (Nat.beq c (nat_lit 0)) .nils .any) .any
def ofV1 : Value → AV := (@Value.rec (fun _ => AV) (fun _ => Unit) (fun _ => Unit) (fun b => .bool b) (fun k n => .int k n) (fun _ _ => .any) (fun _ _ _ => .any) (fun s => .str (byteL s.data.toList)) (fun a => oc .nilp (fun _ => .any) a) (fun a n c => oc (zz n c) (fun _ => .any) a) (fun r => oc .nilm (fun _ => .any) r) (fun _ => .any) (fun _ _ _ _ _ => .any) (.nilf) (fun _ _ _ => .any) (.nili) (fun _ _ => .any) (fun _ _ => .any) (fun _ _ => ()) () (fun _ _ _ _ => ()))
def ofVs (l : List Value) : List AV := @List.rec Value (fun _ => List AV) [] (fun v _ r => ofV1 v :: r) l
def cellOk : AV → Bool := (@AV.rec (fun _ => Bool) (fun _ => Unit) (false) (fun _ => true) (fun _ _ => true) (fun _ => true) (true) (fun _ _ => true) (true) (fun _ _ _ _ => true) (true) (fun _ => true) (fun _ _ _ _ _ => true) (true) (fun _ _ _ => true) (true) (fun _ _ => false) (fun _ _ => false) (fun _ _ => true) (fun _ => true) (fun _ _ _ => true) (fun _ => true) (fun _ _ _ => true) () (fun _ _ _ _ => ()))
def allCell (l : List AV) : Bool := @List.rec AV (fun _ => Bool) true (fun v _ r => bi (cellOk v) r false) l
def aggC (l : List AV) : AV := bi (allCell l) (.agg l) .any
def ofV (v : Value) : AV := (@Value.rec (fun _ => Value → AV) (fun _ => Unit) (fun _ => Unit) (fun _ => ofV1) (fun _ _ => ofV1) (fun _ _ => ofV1) (fun _ _ _ => ofV1) (fun _ => ofV1) (fun _ => ofV1) (fun _ _ _ => ofV1) (fun _ => ofV1) (fun _ => ofV1) (fun _ _ _ _ _ => ofV1) (ofV1) (fun _ _ _ => ofV1) (ofV1) (fun l _ => fun _ => aggC (ofVs l.toList)) (fun _ _ => ofV1) (fun _ _ => ()) () (fun _ _ _ _ => ())) v v
def zeroCellsOf (z : Value) : List AV := ofVs z.cells.toList
def isAgg : TK → Bool := (@TK.rec (fun _ => Bool) (false) (fun _ => false) (false) (fun _ => false) (fun _ => false) (fun _ _ => false) (fun _ => true) (fun _ _ => true) (false) (false) (false) )
def isAggV : Value → Bool := (@Value.rec (fun _ => Bool) (fun _ => Unit) (fun _ => Unit) (fun _ => false) (fun _ _ => false) (fun _ _ => false) (fun _ _ _ => false) (fun _ => false) (fun _ => false) (fun _ _ _ => false) (fun _ => false) (fun _ => false) (fun _ _ _ _ _ => false) (false) (fun _ _ _ => false) (false) (fun _ _ => true) (fun _ _ => false) (fun _ _ => ()) () (fun _ _ _ _ => ()))
def namesOk (l : List Field) : Bool := @List.rec Field (fun _ => Bool) true (fun f _ r => bi (f.name == "_") false r) l
def fldOk : TypeDesc → Bool := (@TypeDesc.rec (fun _ => Bool) (false) (false) (fun _ => false) (fun _ => false) (fun _ => false) (false) (false) (fun _ => false) (fun _ => false) (fun _ _ => false) (fun _ _ => false) (fun _ _ => false) (fun fs => namesOk fs.toList) (fun _ _ _ => false) (fun _ => false) (fun _ => false) (fun _ _ => false) )
def eqsOf (P : Program) (t : TypeId) (d : TypeDesc) : Bool := bi (P.stoodInHeld t) false (bi (P.eqGuardType P.depth t) false (fldOk d))
def mkTI (P : Program) (t : TypeId) : Option TI := oc none (fun i => oc none (fun d => oc none (fun z => bi (bi (allCell (zeroCellsOf z)) (bi (Nat.beq (len (zeroCellsOf z)) i.size) (bi (isAgg (kOf d)) (isAggV z) (bi (isAggV z) false true)) false) false) (some ⟨kOf d, i.size, i.bytes, zeroCellsOf z, eqsOf P t d⟩) none) i.zero) (P.underlying t)) (P.info? t)
abbrev Tm := T AV
def tmD (o : Option AV) : AV := oc .any (fun v => v) o
def ev : Operand → Tm → AV := (@Operand.rec (fun _ => Tm → AV) (fun t => fun a => tmD (a.get t)) (fun v => fun _ => ofV v) (fun _ => fun _ => .any) (fun f => fun _ => .fn (.func f) [] []) )
def evO (x : Option Operand) (a : Tm) : Option AV := oc none (fun x => some (ev x a)) x
def evL (l : List Operand) : Tm → List AV := @List.rec Operand (fun _ => Tm → List AV) (fun _ => []) (fun x _ g a => ev x a :: g a) l
def prs (l : List (Nat × Operand)) : Tm → List (Nat × AV) := @List.rec (Nat × Operand) (fun _ => Tm → List (Nat × AV)) (fun _ => []) (fun p _ g a => (p.1, ev p.2 a) :: g a) l

structure H where
  m : T AObj
  next : Nat
def H.upd (h : H) (b : Nat) (o : AObj) : H := ⟨h.m.set b o, h.next⟩
inductive XR where
  | no
  | val (v : AV) (h : H)
  | call (f : FuncId) (args : List AV) (h : H)

def elemK : TK → Option TypeId := (@TK.rec (fun _ => Option TypeId) (none) (fun _ => none) (none) (fun e => some e) (fun _ => none) (fun _ _ => none) (fun _ => none) (fun _ _ => none) (none) (none) (none) )
def elemT (t : Option TI) : Option TypeId := oc none (fun ti => elemK ti.kind) t
def mapK : TK → Option (TypeId × TypeId) := (@TK.rec (fun _ => Option (TypeId × TypeId)) (none) (fun _ => none) (none) (fun _ => none) (fun _ => none) (fun k e => some (k, e)) (fun _ => none) (fun _ _ => none) (none) (none) (none) )
def mapT (t : Option TI) : Option (TypeId × TypeId) := oc none (fun ti => mapK ti.kind) t
def szOf (Ty : TypeId → Option TI) (t : TypeId) : Option Nat := oc none (fun ti => some ti.size) (Ty t)
def objCells (o : Option AObj) : Option (List AV × TypeId) := oc none ((@AObj.rec (fun _ => Option (List AV × TypeId)) (fun l t => some (l, t)) (fun _ _ => none) (fun _ => none) (none) )) o
structure Mp where
  es : List (AV × AV × Nat)
  clock : Nat
def objMap (o : Option AObj) : Option Mp := oc none ((@AObj.rec (fun _ => Option Mp) (fun _ _ => none) (fun es c => some ⟨es, c⟩) (fun _ => none) (none) )) o

/-! What comes of an operation. -/
def kNew (h : H) (o : AObj) (v : Nat → AV) : XR := nF h.next fun n => .val (v n) ⟨h.m.set n o, Nat.succ n⟩
def kBool (h : H) (b : Bool) : XR := bi b (.val (.bool true) h) (.val (.bool false) h)
def kInt (z : Int) (h : H) (k : IntKind) : XR := (@Int.rec (fun _ => H → IntKind → XR) (fun n => fun h k => nF n fun n => .val (.int k (.ofNat n)) h) (fun n => fun h k => nF n fun n => .val (.int k (.negSucc n)) h) ) z h k
def kVal (h : H) (o : Option AV) : XR := oc .no (fun v => .val v h) o
def kAgg (h : H) (o : Option (List AV)) : XR := oc .no (fun l => .val (.agg l) h) o
def kUpd (h : H) (b : Nat) (t : TypeId) (v : AV) (o : Option (List AV)) : XR := oc .no (fun l => .val v (h.upd b (.cells l t))) o
def kBoolO (h : H) (o : Option Bool) : XR := oc .no (kBool h) o

/-! The operations. -/
def xPick (h : H) (c x y : AV) : XR := oc .no (fun b => .val (bi b x y) h) (asBool c)
def xAlloc (h : H) (e : TypeId) (t : Option TI) : XR := oc .no (fun ti => kNew h (.cells ti.zero e) fun n => .ptr n 0) t
def xBox (h : H) (e : TypeId) (v : AV) : XR := bi (okV v) (kNew h (.cells (cellsOf v) e) fun n => .ptr n 0) .no
/-- A part is laid into the cells: at off, of this size. -/
def fill1 (v : AV) (g : List AV → Option (List AV)) (cs : List AV) (pl : Option (Nat × Nat)) : Option (List AV) :=
  bi (okV v) (oc none (fun p => bi (Nat.beq (len (cellsOf v)) p.2) (oc none g (put p.1 (cellsOf v) cs)) none) pl) none
def fillA (place : Nat → Option (Nat × Nat)) (l : List (Nat × AV)) : List AV → Option (List AV) :=
  @List.rec (Nat × AV) (fun _ => List AV → Option (List AV)) (fun cs => some cs) (fun p _ g cs => fill1 p.2 g cs (place p.1)) l
def placeS (Ty : TypeId → Option TI) (fs : List (Nat × TypeId)) (i : Nat) : Option (Nat × Nat) := oc none (fun p => oc none (fun s => some (p.1, s)) (szOf Ty p.2)) (idx i fs)
def placeA (s : Nat) (i : Nat) : Option (Nat × Nat) := some (Nat.mul i s, s)
def allSz (Ty : TypeId → Option TI) (fs : List (Nat × TypeId)) : Bool := @List.rec (Nat × TypeId) (fun _ => Bool) true (fun p _ r => oc false (fun _ => r) (szOf Ty p.2)) fs
def xBuildK : TK → (TypeId → Option TI) → H → List (Nat × AV) → List AV → XR := (@TK.rec (fun _ => (TypeId → Option TI) → H → List (Nat × AV) → List AV → XR) (fun _ _ _ _ => .no) (fun _ => fun _ _ _ _ => .no) (fun _ _ _ _ => .no) (fun _ => fun _ _ _ _ => .no) (fun _ => fun _ _ _ _ => .no) (fun _ _ => fun _ _ _ _ => .no) (fun fs => fun Ty h ps z => bi (allSz Ty fs) (kAgg h (fillA (placeS Ty fs) ps z)) .no) (fun _ e => fun Ty h ps z => oc .no (fun s => kAgg h (fillA (placeA s) ps z)) (szOf Ty e)) (fun _ _ _ _ => .no) (fun _ _ _ _ => .no) (fun _ _ _ _ => .no) )
def xBuild (Ty : TypeId → Option TI) (h : H) (ps : List (Nat × AV)) (t : Option TI) : XR := oc .no (fun ti => xBuildK ti.kind Ty h ps ti.zero) t
def xBuildS (Ty : TypeId → Option TI) (h : H) (n : Nat) (ps : List (Nat × AV)) (e : TypeId) : XR :=
  oc .no (fun te => bi (Nat.ble (Nat.mul n te.size) 16777216) (oc .no (fun cs => kNew h (.cells cs e) fun b => .slc b 0 n (.k n)) (fillA (placeA te.size) ps (repl te.zero n))) .no) (Ty e)
def ld (h : H) (o : Nat) (ti : TI) (l : List AV) : XR := bi (isAgg ti.kind) (kAgg h (sub l o ti.size)) (kVal h (idx o l))
def xLoad (h : H) (x : AV) (t : Option TI) : XR := oc .no (fun p => oc .no (fun ti => oc .no (fun c => ld h p.2 ti c.1) (objCells (h.m.get p.1))) t) (asPtr x)
def st (h : H) (b o size : Nat) (v : List AV) (c : List AV × TypeId) : XR := bi (Nat.beq (len v) size) (kUpd h b c.2 (.tup []) (put o v c.1)) .no
def xStore (h : H) (v x : AV) (t : Option TI) : XR := bi (okV v) (oc .no (fun p => oc .no (fun ti => oc .no (st h p.1 p.2 ti.size (cellsOf v)) (objCells (h.m.get p.1))) t) (asPtr x)) .no
def isFunc : Fn → Bool := (@Fn.rec (fun _ => Bool) (fun _ => true) (fun _ => false) (fun _ _ => false) (fun _ _ _ _ => false) (fun _ => false) )
def notNil : AV → Bool := (@AV.rec (fun _ => Bool) (fun _ => Unit) (false) (fun _ => false) (fun _ _ => false) (fun _ => false) (false) (fun _ _ => true) (false) (fun _ _ _ _ => false) (false) (fun _ => true) (fun f _ _ _ _ => isFunc f) (false) (fun _ _ _ => false) (false) (fun _ _ => false) (fun _ _ => false) (fun _ _ => false) (fun _ => false) (fun _ _ _ => false) (fun _ => false) (fun _ _ _ => false) () (fun _ _ _ _ => ()))
def xNilCheck (h : H) (v : AV) : XR := bi (notNil v) (.val v h) .no

def lbeq (x : List Nat) : List Nat → Bool := @List.rec Nat (fun _ => List Nat → Bool) (fun y => @List.rec Nat (fun _ => Bool) true (fun _ _ _ => false) y)
  (fun a _ g y => @List.rec Nat (fun _ => Bool) false (fun b r _ => bi (Nat.beq a b) (g r) false) y) x
def bless (x : List Nat) : List Nat → Bool := @List.rec Nat (fun _ => List Nat → Bool) (fun y => @List.rec Nat (fun _ => Bool) false (fun _ _ _ => true) y)
  (fun a _ g y => @List.rec Nat (fun _ => Bool) false (fun b r _ => bi (Nat.blt a b) true (bi (Nat.beq a b) (g r) false)) y) x
def ilt : Int → Int → Bool := (@Int.rec (fun _ => Int → Bool) (fun a => (@Int.rec (fun _ => Bool) (fun b => Nat.blt a b) (fun _ => false) )) (fun a => (@Int.rec (fun _ => Bool) (fun _ => true) (fun b => Nat.blt b a) )) )
def ieq : Int → Int → Bool := (@Int.rec (fun _ => Int → Bool) (fun a => (@Int.rec (fun _ => Bool) (fun b => Nat.beq a b) (fun _ => false) )) (fun a => (@Int.rec (fun _ => Bool) (fun _ => false) (fun b => Nat.beq b a) )) )
/-- Wrapped, quickly where it is nought or more. -/
def fwrap (z : Int) (k : IntKind) : Int := (@Int.rec (fun _ => IntKind → Int) (fun n => fun k => (@IntKind.rec (fun _ => Nat → Int) (fun n => IntKind.wrap .i8 (.ofNat n)) (fun n => IntKind.wrap .i16 (.ofNat n)) (fun n => IntKind.wrap .i32 (.ofNat n)) (fun n => bi (Nat.blt n (nat_lit 9223372036854775808)) (.ofNat n) (IntKind.wrap .i64 (.ofNat n))) (fun n => .ofNat (Nat.mod n (nat_lit 256))) (fun n => .ofNat (Nat.mod n (nat_lit 65536))) (fun n => .ofNat (Nat.mod n (nat_lit 4294967296))) (fun n => .ofNat (Nat.mod n (nat_lit 18446744073709551616))) ) k n) (fun n => fun k => k.wrap (.negSucc n)) ) z k
def pw (k : IntKind) : Nat := (@IntKind.rec (fun _ => Nat) (nat_lit 256) (nat_lit 65536) (nat_lit 4294967296) (nat_lit 18446744073709551616) (nat_lit 256) (nat_lit 65536) (nat_lit 4294967296) (nat_lit 18446744073709551616) ) k
/-- As bits. -/
def bv (z : Int) (k : IntKind) : Nat := (@Int.rec (fun _ => IntKind → Nat) (fun n => fun k => Nat.mod n (pw k)) (fun n => fun k => Nat.sub (Nat.sub (pw k) (nat_lit 1)) (Nat.mod n (pw k))) ) z k
def kW (h : H) (k : IntKind) (z : Int) : XR := kInt (fwrap z k) h k
def kB (h : H) (k : IntKind) (n : Nat) : XR := kW h k (.ofNat n)
def shl (h : H) (k : IntKind) (a b : Int) : XR := bi (ilt b 0) .no (kW h k (a * 2 ^ (Nat.min b.toNat k.bits)))
def shr (h : H) (k : IntKind) (a b : Int) : XR := bi (ilt b 0) .no (kInt (a.fdiv (2 ^ (Nat.min b.toNat k.bits))) h k)
def bopI : BinOp → H → IntKind → Int → Int → XR := (@BinOp.rec (fun _ => H → IntKind → Int → Int → XR) (fun h k a b => kW h k (Int.add a b)) (fun h k a b => kW h k (Int.sub a b)) (fun h k a b => kW h k (Int.mul a b)) (fun h k a b => bi (ieq b 0) .no (kW h k (a.tdiv b))) (fun h k a b => bi (ieq b 0) .no (kInt (a.tmod b) h k)) (fun h k a b => kB h k (Nat.land (bv a k) (bv b k))) (fun h k a b => kB h k (Nat.lor (bv a k) (bv b k))) (fun h k a b => kB h k (Nat.xor (bv a k) (bv b k))) (shl) (shr) (fun h k a b => kB h k (Nat.land (bv a k) (Nat.sub (Nat.sub (pw k) 1) (bv b k)))) (fun h _ a b => kBool h (ieq a b)) (fun h _ a b => kBool h (bi (ieq a b) false true)) (fun h _ a b => kBool h (ilt a b)) (fun h _ a b => kBool h (bi (ilt b a) false true)) (fun h _ a b => kBool h (ilt b a)) (fun h _ a b => kBool h (bi (ilt a b) false true)) )
def bopS : BinOp → H → List Nat → List Nat → XR := (@BinOp.rec (fun _ => H → List Nat → List Nat → XR) (fun h a b => bi (Nat.ble (Nat.add (len a) (len b)) 1073741824) (.val (.str (app a b)) h) .no) (fun _ _ _ => .no) (fun _ _ _ => .no) (fun _ _ _ => .no) (fun _ _ _ => .no) (fun _ _ _ => .no) (fun _ _ _ => .no) (fun _ _ _ => .no) (fun _ _ _ => .no) (fun _ _ _ => .no) (fun _ _ _ => .no) (fun h a b => kBool h (lbeq a b)) (fun h a b => kBool h (bi (lbeq a b) false true)) (fun h a b => kBool h (bless a b)) (fun h a b => kBool h (bi (bless b a) false true)) (fun h a b => kBool h (bless b a)) (fun h a b => kBool h (bi (bless a b) false true)) )
def ikN (k : IntKind) : Nat := (@IntKind.rec (fun _ => Nat) (0) (1) (2) (3) (4) (5) (6) (7) ) k
def eqB (x y : AV) : Option Bool := oc none (fun a => oc none (fun b => some (bi a b (bi b false true))) (asBool y)) (asBool x)
def eqPP (Ty : TypeId → Option TI) (e : TypeId) (b o : Nat) (q : Nat × Nat) : Option Bool := bi (Nat.beq b q.1) (oc none (fun s => bi (Nat.beq s 0) none (some (Nat.beq o q.2))) (szOf Ty e)) none
def isNilp : AV → Bool := (@AV.rec (fun _ => Bool) (fun _ => Unit) (false) (fun _ => false) (fun _ _ => false) (fun _ => false) (true) (fun _ _ => false) (false) (fun _ _ _ _ => false) (false) (fun _ => false) (fun _ _ _ _ _ => false) (false) (fun _ _ _ => false) (false) (fun _ _ => false) (fun _ _ => false) (fun _ _ => false) (fun _ => false) (fun _ _ _ => false) (fun _ => false) (fun _ _ _ => false) () (fun _ _ _ _ => ()))
def eqP (Ty : TypeId → Option TI) (e : TypeId) (x y : AV) : Option Bool :=
  oc (bi (isNilp x) (oc (bi (isNilp y) (some true) none) (fun _ => some false) (asPtr y)) none) (fun p => oc (bi (isNilp y) (some false) none) (eqPP Ty e p.1 p.2) (asPtr y)) (asPtr x)
def eqS (x y : AV) : Option Bool := oc (bi (isNils x) (oc (bi (isNils y) (some true) none) (fun _ => some false) (asSlc y)) none) (fun _ => bi (isNils y) (some false) none) (asSlc x)
def eqM (x y : AV) : Option Bool := oc (bi (isNilm x) (oc (bi (isNilm y) (some true) none) (fun _ => some false) (asMap y)) none) (fun _ => bi (isNilm y) (some false) none) (asMap x)
def isFn : AV → Bool := (@AV.rec (fun _ => Bool) (fun _ => Unit) (false) (fun _ => false) (fun _ _ => false) (fun _ => false) (false) (fun _ _ => false) (false) (fun _ _ _ _ => false) (false) (fun _ => false) (fun _ _ _ _ _ => true) (false) (fun _ _ _ => false) (false) (fun _ _ => false) (fun _ _ => false) (fun _ _ => false) (fun _ => false) (fun _ _ _ => false) (fun _ => false) (fun _ _ _ => false) () (fun _ _ _ _ => ()))
def isNilf : AV → Bool := (@AV.rec (fun _ => Bool) (fun _ => Unit) (false) (fun _ => false) (fun _ _ => false) (fun _ => false) (false) (fun _ _ => false) (false) (fun _ _ _ _ => false) (false) (fun _ => false) (fun _ _ _ _ _ => false) (true) (fun _ _ _ => false) (false) (fun _ _ => false) (fun _ _ => false) (fun _ _ => false) (fun _ => false) (fun _ _ _ => false) (fun _ => false) (fun _ _ _ => false) () (fun _ _ _ _ => ()))
def eqF (x y : AV) : Option Bool := bi (isNilf x) (bi (isNilf y) (some true) (bi (isFn y) (some false) none)) (bi (isFn x) (bi (isNilf y) (some false) none) none)
def eqK : TK → (TypeId → Option TI) → AV → AV → Option Bool := (@TK.rec (fun _ => (TypeId → Option TI) → AV → AV → Option Bool) (fun _ x y => eqB x y) (fun _ => fun _ _ _ => none) (fun _ _ _ => none) (fun _ => fun _ x y => eqS x y) (fun e => fun Ty x y => eqP Ty e x y) (fun _ _ => fun _ x y => eqM x y) (fun _ => fun _ _ _ => none) (fun _ _ => fun _ _ _ => none) (fun _ _ _ => none) (fun _ x y => eqF x y) (fun _ _ _ => none) )
def keyI (x y : AV) : Option Bool := oc none (fun p => oc none (fun q => bi (Nat.beq (ikN p.1) (ikN q.1)) (some (ieq p.2 q.2)) none) (asInt y)) (asInt x)
def keyS (x y : AV) : Option Bool := oc none (fun p => oc none (fun q => some (lbeq p q)) (asStr y)) (asStr x)
def keyEq : TK → AV → AV → Option Bool := (@TK.rec (fun _ => AV → AV → Option Bool) (eqB) (fun _ => keyI) (keyS) (fun _ => fun _ _ => none) (fun _ => fun _ _ => none) (fun _ _ => fun _ _ => none) (fun _ => fun _ _ => none) (fun _ _ => fun _ _ => none) (fun _ _ => none) (fun _ _ => none) (fun _ _ => none) )
def eqFs (Ty : TypeId → Option TI) (fs : List (Nat × TypeId)) (l m : List AV) : Option Bool := @List.rec (Nat × TypeId) (fun _ => Option Bool) (some true) (fun f _ r => oc none (fun ti => oc none (fun a => oc none (fun b => oc none (fun c => bi c r (some false)) (keyEq ti.kind a b)) (idx f.1 m)) (idx f.1 l)) (Ty f.2)) fs
def structF : TK → Option (List (Nat × TypeId)) := (@TK.rec (fun _ => Option (List (Nat × TypeId))) (none) (fun _ => none) (none) (fun _ => none) (fun _ => none) (fun _ _ => none) (fun fs => some fs) (fun _ _ => none) (none) (none) (none) )
def eqAg (Ty : TypeId → Option TI) (ti : TI) (fs : List (Nat × TypeId)) (x y : AV) : Option Bool := bi ti.eqs (oc none (fun l => oc none (fun m => eqFs Ty fs l m) (asAgg y)) (asAgg x)) none
def eqT (Ty : TypeId → Option TI) (ti : TI) (x y : AV) : Option Bool := oc (eqK ti.kind Ty x y) (fun fs => eqAg Ty ti fs x y) (structF ti.kind)
def bopO : BinOp → H → (TypeId → Option TI) → Option TI → AV → AV → XR := (@BinOp.rec (fun _ => H → (TypeId → Option TI) → Option TI → AV → AV → XR) (fun _ _ _ _ _ => .no) (fun _ _ _ _ _ => .no) (fun _ _ _ _ _ => .no) (fun _ _ _ _ _ => .no) (fun _ _ _ _ _ => .no) (fun _ _ _ _ _ => .no) (fun _ _ _ _ _ => .no) (fun _ _ _ _ _ => .no) (fun _ _ _ _ _ => .no) (fun _ _ _ _ _ => .no) (fun _ _ _ _ _ => .no) (fun h Ty t x y => oc .no (fun ti => kBoolO h (eqT Ty ti x y)) t) (fun h Ty t x y => oc .no (fun ti => oc .no (fun b => kBool h (bi b false true)) (eqT Ty ti x y)) t) (fun _ _ _ _ _ => .no) (fun _ _ _ _ _ => .no) (fun _ _ _ _ _ => .no) (fun _ _ _ _ _ => .no) )
def asXnat : AV → Option Nat := (@AV.rec (fun _ => Option Nat) (fun _ => Unit) (none) (fun _ => none) (fun _ _ => none) (fun _ => none) (none) (fun _ _ => none) (none) (fun _ _ _ _ => none) (none) (fun _ => none) (fun _ _ _ _ _ => none) (none) (fun _ _ _ => none) (none) (fun _ _ => none) (fun _ _ => none) (fun _ _ => none) (fun n => some n) (fun _ _ _ => none) (fun _ => none) (fun _ _ _ => none) () (fun _ _ _ _ => ()))
def asXi : AV → Option Xi := (@AV.rec (fun _ => Option Xi) (fun _ => Unit) (none) (fun _ => none) (fun _ _ => none) (fun _ => none) (none) (fun _ _ => none) (none) (fun _ _ _ _ => none) (none) (fun _ => none) (fun _ _ _ _ _ => none) (none) (fun _ _ _ => none) (none) (fun _ _ => none) (fun _ _ => none) (fun _ _ => none) (fun _ => none) (fun _ _ _ => none) (fun x => some x) (fun _ _ _ => none) () (fun _ _ _ _ => ()))
structure Xr where
  k : Nat
  m : Nat
  r : Int
def asXres : AV → Option Xr := (@AV.rec (fun _ => Option Xr) (fun _ => Unit) (none) (fun _ => none) (fun _ _ => none) (fun _ => none) (none) (fun _ _ => none) (none) (fun _ _ _ _ => none) (none) (fun _ => none) (fun _ _ _ _ _ => none) (none) (fun _ _ _ => none) (none) (fun _ _ => none) (fun _ _ => none) (fun _ _ => none) (fun _ => none) (fun k m r => some ⟨k, m, r⟩) (fun _ => none) (fun _ _ _ => none) () (fun _ _ _ _ => ()))
/-- A number that is at least n, and one that is known. -/
def ltX (q : Int) (n : Nat) : Bool := ilt q (.ofNat n)
def bopXo : BinOp → H → Nat → Int → XR := (@BinOp.rec (fun _ => H → Nat → Int → XR) (fun _ _ _ => .no) (fun _ _ _ => .no) (fun _ _ _ => .no) (fun _ _ _ => .no) (fun _ _ _ => .no) (fun _ _ _ => .no) (fun _ _ _ => .no) (fun _ _ _ => .no) (fun _ _ _ => .no) (fun _ _ _ => .no) (fun _ _ _ => .no) (fun _ _ _ => .no) (fun _ _ _ => .no) (fun h n q => bi (ilt (.ofNat n) q) .no (.val (.bool false) h)) (fun _ _ _ => .no) (fun h n q => bi (ltX q n) (.val (.bool true) h) .no) (fun h n q => bi (ilt (.ofNat n) q) .no (.val (.bool true) h)) )
def bopX (h : H) (op : BinOp) (n : Nat) (y : AV) : XR := oc .no (fun p => bi (Nat.beq (ikN p.1) 3) (bopXo op h n p.2) .no) (asInt y)
/-- Bounds that no operation passes. -/
def okXi (x : Xi) (h : H) : XR := bi (ilt x.lo (.negSucc (nat_lit 4611686018427387903))) .no (bi (ilt (.ofNat (nat_lit 4611686018427387904)) x.hi) .no (.val (.xi x) h))
def addXi (x : Xi) (q : Int) : Xi := ⟨x.k, x.a, Int.add x.c q, Int.add x.lo q, Int.add x.hi q⟩
def mulXi (x : Xi) (q : Nat) : Xi := ⟨x.k, Int.mul x.a (.ofNat q), Int.mul x.c (.ofNat q), Int.mul x.lo (.ofNat q), Int.mul x.hi (.ofNat q)⟩
def ileq (a b : Int) : Bool := bi (ilt b a) false true
def cmpXi (h : H) (t f : Bool) : XR := bi t (.val (.bool true) h) (bi f (.val (.bool false) h) .no)
def bopXio : BinOp → H → Xi → Int → XR := (@BinOp.rec (fun _ => H → Xi → Int → XR) (fun h x q => okXi (addXi x q) h) (fun h x q => okXi (addXi x (Int.neg q)) h) (fun h x q => oc .no (fun q => okXi (mulXi x q) h) (natI q)) (fun _ _ _ => .no) (fun _ _ _ => .no) (fun _ _ _ => .no) (fun _ _ _ => .no) (fun _ _ _ => .no) (fun _ _ _ => .no) (fun _ _ _ => .no) (fun _ _ _ => .no) (fun h x q => cmpXi h false (bi (ilt q x.lo) true (ilt x.hi q))) (fun h x q => cmpXi h (bi (ilt q x.lo) true (ilt x.hi q)) false) (fun h x q => cmpXi h (ilt x.hi q) (ileq q x.lo)) (fun h x q => cmpXi h (ileq x.hi q) (ilt q x.lo)) (fun h x q => cmpXi h (ilt q x.lo) (ileq x.hi q)) (fun h x q => cmpXi h (ileq q x.lo) (ilt x.hi q)) )
def bopXi (h : H) (op : BinOp) (x : Xi) (y : AV) : XR := oc .no (fun p => bi (Nat.beq (ikN p.1) 3) (bopXio op h x p.2) .no) (asInt y)
/-- A known number, and one that is at least n. -/
def bopYo : BinOp → H → Int → Nat → XR := (@BinOp.rec (fun _ => H → Int → Nat → XR) (fun _ _ _ => .no) (fun _ _ _ => .no) (fun _ _ _ => .no) (fun _ _ _ => .no) (fun _ _ _ => .no) (fun _ _ _ => .no) (fun _ _ _ => .no) (fun _ _ _ => .no) (fun _ _ _ => .no) (fun _ _ _ => .no) (fun _ _ _ => .no) (fun _ _ _ => .no) (fun _ _ _ => .no) (fun h q n => bi (ltX q n) (.val (.bool true) h) .no) (fun _ _ _ => .no) (fun _ _ _ => .no) (fun _ _ _ => .no) )
def bopY (h : H) (op : BinOp) (p : IntKind × Int) (y : AV) : XR := oc .no (fun n => bi (Nat.beq (ikN p.1) 3) (bopYo op h p.2 n) .no) (asXnat y)
/-- A number known by a residue: k: 0: by its word, 1: by the sign's own, 2: a word. -/
def bopRo : BinOp → H → Xr → IntKind × Int → XR := (@BinOp.rec (fun _ => H → Xr → IntKind × Int → XR) (fun _ _ _ => .no) (fun _ _ _ => .no) (fun _ _ _ => .no) (fun _ _ _ => .no) (fun h x p => bi (Nat.beq x.k 1) (bi (Nat.beq (ikN p.1) 3) (bi (ieq p.2 (.ofNat x.m)) (bi (Nat.blt 0 x.m) (.val (.int .i64 x.r) h) .no) .no) .no) (bi (Nat.beq x.k 2) (bi (Nat.beq (ikN p.1) 7) (bi (ieq p.2 (.ofNat x.m)) (bi (Nat.blt 0 x.m) (.val (.int .u64 x.r) h) .no) .no) .no) .no)) (fun h x p => bi (Nat.beq x.k 0) (bi (Nat.beq (ikN p.1) 3) (bi (ieq p.2 7) (bi (Nat.beq x.m 8) (.val (.int .i64 x.r) h) .no) .no) .no) .no) (fun _ _ _ => .no) (fun _ _ _ => .no) (fun _ _ _ => .no) (fun _ _ _ => .no) (fun _ _ _ => .no) (fun _ _ _ => .no) (fun _ _ _ => .no) (fun _ _ _ => .no) (fun _ _ _ => .no) (fun _ _ _ => .no) (fun _ _ _ => .no) )
def bopR (h : H) (op : BinOp) (x : Xr) (y : AV) : XR := oc .no (fun p => bopRo op h x p) (asInt y)
def bop3 (Ty : TypeId → Option TI) (h : H) (op : BinOp) (t : Option TI) (x y : AV) : XR := oc (oc (bopO op h Ty t x y) (fun r => bopR h op r y) (asXres x)) (fun n => bopX h op n y) (asXnat x)
def bop4 (Ty : TypeId → Option TI) (h : H) (op : BinOp) (t : Option TI) (x y : AV) : XR := oc (bop3 Ty h op t x y) (fun z => bopXi h op z y) (asXi x)
def bop2 (Ty : TypeId → Option TI) (h : H) (op : BinOp) (t : Option TI) (x y : AV) : XR := oc (bop4 Ty h op t x y) (fun a => oc .no (fun b => bopS op h a b) (asStr y)) (asStr x)
def isSh : BinOp → Bool := (@BinOp.rec (fun _ => Bool) (false) (false) (false) (false) (false) (false) (false) (false) (true) (true) (false) (false) (false) (false) (false) (false) (false) )
def binop (Ty : TypeId → Option TI) (h : H) (op : BinOp) (t : Option TI) (x y : AV) : XR := oc (bop2 Ty h op t x y) (fun p => oc (bopY h op p y) (fun q => bi (bi (Nat.beq (ikN p.1) (ikN q.1)) true (isSh op)) (bopI op h p.1 p.2 q.2) .no) (asInt y)) (asInt x)
def maskI (k : IntKind) : Int := (@IntKind.rec (fun _ => Int) (Int.negSucc 0) (Int.negSucc 0) (Int.negSucc 0) (Int.negSucc 0) (Int.ofNat 255) (Int.ofNat 65535) (Int.ofNat 4294967295) (Int.ofNat 18446744073709551615) ) k
def unop (h : H) : UnOp → AV → XR := fun u x => (@UnOp.rec (fun _ => H → AV → XR) (fun h x => oc .no (fun p => kW h p.1 (Int.sub 0 p.2)) (asInt x)) (fun h x => oc .no (fun p => bopI .xor h p.1 (maskI p.1) p.2) (asInt x)) (fun h x => oc .no (fun b => kBool h (bi b false true)) (asBool x)) (fun _ _ => .no) ) u h x

def optNat (d : Nat) (o : Option AV) : Option Nat := oc (some d) intNat o
def byteK (k : IntKind) (n : Int) : Option Nat := bi (Nat.beq (ikN k) 4) (oc none (fun n => bi (Nat.blt n 256) (some n) none) (natI n)) none
def byteN : AV → Option Nat := (@AV.rec (fun _ => Option Nat) (fun _ => Unit) (none) (fun _ => none) (fun k n => byteK k n) (fun _ => none) (none) (fun _ _ => none) (none) (fun _ _ _ _ => none) (none) (fun _ => none) (fun _ _ _ _ _ => none) (none) (fun _ _ _ => none) (none) (fun _ _ => none) (fun _ _ => none) (fun _ _ => none) (fun _ => none) (fun _ _ _ => none) (fun _ => none) (fun _ _ _ => none) () (fun _ _ _ _ => ()))
def strBytes (l : List AV) : Option (List Nat) := @List.rec AV (fun _ => Option (List Nat)) (some []) (fun v _ r => oc none (fun n => oc none (fun l => some (n :: l)) r) (byteN v)) l
def u8s (l : List Nat) : List AV := @List.rec Nat (fun _ => List AV) [] (fun n _ r => .int .u8 (.ofNat n) :: r) l
def lenOf : AV → Option Nat := (@AV.rec (fun _ => Option Nat) (fun _ => Unit) (none) (fun _ => none) (fun _ _ => none) (fun l => some (len l)) (none) (fun _ _ => none) (some 0) (fun _ _ n _ => some n) (none) (fun _ => none) (fun _ _ _ _ _ => none) (none) (fun _ _ _ => none) (none) (fun _ _ => none) (fun _ _ => none) (fun _ _ => none) (fun _ => none) (fun _ _ _ => none) (fun _ => none) (fun _ n _ => some n) () (fun _ _ _ _ => ()))
def cellsAt (h : H) (b o n : Nat) : Option (List AV) := oc none (fun c => sub c.1 o n) (objCells (h.m.get b))
def firstCells : AV → H → Nat → Nat → Option (List AV) := (@AV.rec (fun _ => H → Nat → Nat → Option (List AV)) (fun _ => Unit) (fun _ _ _ => none) (fun _ => fun _ _ _ => none) (fun _ _ => fun _ _ _ => none) (fun l => fun _ _ n => some (u8s (tak n l))) (fun _ _ _ => none) (fun _ _ => fun _ _ _ => none) (fun _ _ _ => some []) (fun b o _ _ => fun h size n => cellsAt h b o (Nat.mul n size)) (fun _ _ _ => none) (fun _ => fun _ _ _ => none) (fun _ _ _ _ _ => fun _ _ _ => none) (fun _ _ _ => none) (fun _ _ _ => fun _ _ _ => none) (fun _ _ _ => none) (fun _ _ => fun _ _ _ => none) (fun _ _ => fun _ _ _ => none) (fun _ _ => fun _ _ _ => none) (fun _ => fun _ _ _ => none) (fun _ _ _ => fun _ _ _ => none) (fun _ => fun _ _ _ => none) (fun _ _ _ => fun _ _ _ => none) () (fun _ _ _ _ => ()))
def capOk (n size : Nat) (c : Cap) : Bool := (@Cap.rec (fun _ => Nat → Nat → Bool) (fun c => fun n _ => Nat.ble n c) (fun s _ => fun _ size => Nat.beq s size) ) c n size
def kGrow (h : H) (e : TypeId) (te : TI) (n : Nat) (l : List AV) : XR := bi (Nat.ble n 1048576) (bi (Nat.ble te.bytes 1048576) (bi (Nat.beq te.size 0) .no (kNew h (.cells l e) fun b => .slc b 0 n (.v te.size 0))) .no) .no
def appGrow (h : H) (e : TypeId) (te : TI) (t b need : Nat) (new : List AV) (cap : Cap) (old : List AV) : XR :=
  (@Cap.rec (fun _ => H → TypeId → TI → Nat → Nat → Nat → List AV → List AV → XR) (fun c => fun h e te _ _ need new old => bi (Nat.ble need c) .no (kGrow h e te need (app old new))) (fun s _ => fun h e te t b need new old => bi (Nat.beq t e) (bi (Nat.beq s te.size) (kGrow (h.upd b .dead) e te need (app old new)) .no) .no) ) cap h e te t b need new old
def app2 (h : H) (e : TypeId) (te : TI) (s : Slc) (n : Nat) (new : List AV) (c : List AV × TypeId) : XR :=
  bi (bi (Nat.ble (Nat.add s.o (Nat.mul (Nat.add s.len n) te.size)) (len c.1)) (capOk (Nat.add s.len n) te.size s.cap) false)
    (nF (Nat.add s.len n) fun m => kUpd h s.b c.2 (.slc s.b s.o m s.cap) (put (Nat.add s.o (Nat.mul s.len te.size)) new c.1))
    (oc .no (fun old => nF (Nat.add s.len n) fun m => appGrow h e te c.2 s.b m new s.cap old) (sub c.1 s.o (Nat.mul s.len te.size)))
def app1 (h : H) (e : TypeId) (te : TI) (n : Nat) (s : AV) (new : List AV) : XR :=
  oc (bi (isNils s) (bi (Nat.beq n 0) (.val .nils h) (kGrow h e te n new)) .no) (fun s => oc .no (app2 h e te s n new) (objCells (h.m.get s.b))) (asSlc s)
def isStr : AV → Bool := (@AV.rec (fun _ => Bool) (fun _ => Unit) (false) (fun _ => false) (fun _ _ => false) (fun _ => true) (false) (fun _ _ => false) (false) (fun _ _ _ _ => false) (false) (fun _ => false) (fun _ _ _ _ _ => false) (false) (fun _ _ _ => false) (false) (fun _ _ => false) (fun _ _ => false) (fun _ _ => false) (fun _ => false) (fun _ _ _ => false) (fun _ => false) (fun _ _ _ => false) () (fun _ _ _ _ => ()))
def strOk (x : AV) (size : Nat) : Bool := bi (isStr x) (Nat.beq size 1) true
def xAppend (Ty : TypeId → Option TI) (h : H) (s x : AV) (t : Option TypeId) : XR :=
  oc .no (fun e => oc .no (fun te => oc .no (fun n => bi (strOk x te.size) (oc .no (app1 h e te n s) (firstCells x h te.size n)) .no) (lenOf x)) (Ty e)) t
def isIntK : TK → Bool := (@TK.rec (fun _ => Bool) (false) (fun _ => true) (false) (fun _ => false) (fun _ => false) (fun _ _ => false) (fun _ => false) (fun _ _ => false) (false) (false) (false) )
def keyXi (z : Xi) (y : AV) : Option Bool := oc none (fun q => bi (Nat.beq (ikN q.1) 3) (bi (ilt q.2 z.lo) (some false) (bi (ilt z.hi q.2) (some false) none)) none) (asInt y)
/-- Keys, one of them perhaps known by bounds. -/
def keyEqM (kk : TK) (x y : AV) : Option Bool := oc (keyEq kk x y) (fun z => bi (isIntK kk) (keyXi z y) none) (asXi x)
def findL (kk : TK) (k : AV) (l : List (AV × AV × Nat)) : Nat → Option (Option (Nat × AV × Nat)) :=
  @List.rec (AV × AV × Nat) (fun _ => Nat → Option (Option (Nat × AV × Nat))) (fun _ => some none) (fun p _ g i => oc none (fun b => bi b (some (some (i, p.2))) (g (Nat.succ i))) (keyEqM kk k p.1)) l
def keyKind : TK → Bool := (@TK.rec (fun _ => Bool) (true) (fun _ => true) (true) (fun _ => false) (fun _ => false) (fun _ _ => false) (fun _ => false) (fun _ _ => false) (false) (false) (false) )
def findK (kt : Option TI) (k : AV) (l : List (AV × AV × Nat)) : Option (Option (Nat × AV × Nat)) := oc none (fun ti => bi (keyKind ti.kind) (findL ti.kind k l 0) none) kt
def setAt (v : AV) (l : List (AV × AV × Nat)) : Nat → List (AV × AV × Nat) :=
  @List.rec (AV × AV × Nat) (fun _ => Nat → List (AV × AV × Nat)) (fun _ => []) (fun p r g i => bi (Nat.beq i 0) ((p.1, v, p.2.2) :: r) (p :: g (Nat.sub i 1))) l
def delAt (l : List (AV × AV × Nat)) : Nat → List (AV × AV × Nat) :=
  @List.rec (AV × AV × Nat) (fun _ => Nat → List (AV × AV × Nat)) (fun _ => []) (fun p r g i => bi (Nat.beq i 0) r (p :: g (Nat.sub i 1))) l
def bornAt (n : Nat) (l : List (AV × AV × Nat)) : Nat → Option Nat :=
  @List.rec (AV × AV × Nat) (fun _ => Nat → Option Nat) (fun _ => none) (fun p _ g i => bi (Nat.beq p.2.2 n) (some i) (g (Nat.succ i))) l
def zeroOf (ti : TI) : AV := bi (isAgg ti.kind) (.agg ti.zero) (@List.rec AV (fun _ => AV) .any (fun v _ _ => v) ti.zero)
def lenS : AV → H → XR := (@AV.rec (fun _ => H → XR) (fun _ => Unit) (fun _ => .no) (fun _ => fun _ => .no) (fun _ _ => fun _ => .no) (fun _ => fun _ => .no) (fun _ => .no) (fun _ _ => fun _ => .no) (fun h => kInt (.ofNat 0) h .i64) (fun _ _ n _ => fun h => kInt (.ofNat n) h .i64) (fun _ => .no) (fun _ => fun _ => .no) (fun _ _ _ _ _ => fun _ => .no) (fun _ => .no) (fun _ _ _ => fun _ => .no) (fun _ => .no) (fun _ _ => fun _ => .no) (fun _ _ => fun _ => .no) (fun n ge => fun h => bi ge (.val (.xnat n) h) (kInt (.ofNat n) h .i64)) (fun _ => fun _ => .no) (fun _ _ _ => fun _ => .no) (fun _ => fun _ => .no) (fun _ n _ => fun h => kInt (.ofNat n) h .i64) () (fun _ _ _ _ => ()))
def lenM : AV → H → XR := (@AV.rec (fun _ => H → XR) (fun _ => Unit) (fun _ => .no) (fun _ => fun _ => .no) (fun _ _ => fun _ => .no) (fun _ => fun _ => .no) (fun _ => .no) (fun _ _ => fun _ => .no) (fun _ => .no) (fun _ _ _ _ => fun _ => .no) (fun h => kInt (.ofNat 0) h .i64) (fun b => fun h => oc .no (fun m => kInt (.ofNat (len m.es)) h .i64) (objMap (h.m.get b))) (fun _ _ _ _ _ => fun _ => .no) (fun _ => .no) (fun _ _ _ => fun _ => .no) (fun _ => .no) (fun _ _ => fun _ => .no) (fun _ _ => fun _ => .no) (fun _ _ => fun _ => .no) (fun _ => fun _ => .no) (fun _ _ _ => fun _ => .no) (fun _ => fun _ => .no) (fun _ _ _ => fun _ => .no) () (fun _ _ _ _ => ()))
def lenK : TK → AV → H → XR := (@TK.rec (fun _ => AV → H → XR) (fun _ _ => .no) (fun _ => fun _ _ => .no) (fun x h => oc .no (fun l => kInt (.ofNat (len l)) h .i64) (asStr x)) (fun _ => lenS) (fun _ => fun _ _ => .no) (fun _ _ => lenM) (fun _ => fun _ _ => .no) (fun n _ => fun _ h => kInt (.ofNat n) h .i64) (fun _ _ => .no) (fun _ _ => .no) (fun _ _ => .no) )
def xLen (x : AV) (h : H) (t : Option TI) : XR := oc .no (fun ti => lenK ti.kind x h) t
def copy1 (h : H) (n : Nat) (d : AV) (cs : List AV) : XR :=
  oc (bi (isNils d) (.val (.int .i64 (.ofNat 0)) h) .no) (fun s => oc .no (fun c => kUpd h s.b c.2 (.int .i64 (.ofNat n)) (put s.o cs c.1)) (objCells (h.m.get s.b))) (asSlc d)
def xCopy (h : H) (d s : AV) (size : Option Nat) : XR :=
  oc .no (fun size => oc .no (fun n => oc .no (fun m => nF (Nat.min n m) fun k => bi (strOk s size) (oc .no (copy1 h k d) (firstCells s h size k)) .no) (lenOf d)) (lenOf s)) size
def del1 (h : H) (b : Nat) (m : Mp) (r : Option (Nat × AV × Nat)) : XR := oc (.val (.tup []) h) (fun p => .val (.tup []) (h.upd b (.map (delAt m.es p.1) m.clock))) r
def xDelete (Ty : TypeId → Option TI) (h : H) (k x : AV) (t : Option (TypeId × TypeId)) : XR := oc .no (fun q => oc .no (fun b => oc .no (fun m => oc .no (del1 h b m) (findK (Ty q.1) k m.es)) (objMap (h.m.get b))) (asMap x)) t
structure Si where
  l : List Nat
  pos : Nat
def objSit (o : Option AObj) : Option It := oc none ((@AObj.rec (fun _ => Option It) (fun _ _ => none) (fun _ _ => none) (fun it => some it) (none) )) o
def clrM (h : H) (b : Nat) : XR := oc .no (fun m => .val (.tup []) (h.upd b (.map [] m.clock))) (objMap (h.m.get b))
def clrS (h : H) (te : TI) (s : Slc) : XR := oc .no (fun c => kUpd h s.b c.2 (.tup []) (put s.o (repl te.zero s.len) c.1)) (objCells (h.m.get s.b))
def clrK : TK → (TypeId → Option TI) → H → AV → XR := (@TK.rec (fun _ => (TypeId → Option TI) → H → AV → XR) (fun _ _ _ => .no) (fun _ => fun _ _ _ => .no) (fun _ _ _ => .no) (fun e => fun Ty h x => oc (bi (isNils x) (.val (.tup []) h) .no) (fun s => oc .no (fun te => clrS h te s) (Ty e)) (asSlc x)) (fun _ => fun _ _ _ => .no) (fun _ _ => fun _ h x => oc (bi (isNilm x) (.val (.tup []) h) .no) (clrM h) (asMap x)) (fun _ => fun _ _ _ => .no) (fun _ _ => fun _ _ _ => .no) (fun _ _ _ => .no) (fun _ _ _ => .no) (fun _ _ _ => .no) )
def xClear (Ty : TypeId → Option TI) (h : H) (x : AV) (t : Option TI) : XR := oc .no (fun ti => clrK ti.kind Ty h x) t
def rgM (h : H) (x : AV) : XR := oc .no (fun b => oc .no (fun m => kNew h (.sit (.m b m.clock [] m.clock)) fun n => .ptr n 0) (objMap (h.m.get b))) (asMap x)
def rgK : TK → H → AV → XR := (@TK.rec (fun _ => H → AV → XR) (fun _ _ => .no) (fun _ => fun _ _ => .no) (fun h x => oc .no (fun l => kNew h (.sit (.s l (nat_lit 0))) fun n => .ptr n 0) (asStr x)) (fun _ => fun _ _ => .no) (fun _ => fun _ _ => .no) (fun _ _ => fun h x => rgM h x) (fun _ => fun _ _ => .no) (fun _ _ => fun _ _ => .no) (fun _ _ => .no) (fun _ _ => .no) (fun _ _ => .no) )
def xRange (h : H) (x : AV) (t : Option TI) : XR := oc .no (fun ti => rgK ti.kind h x) t
def nx1 (h : H) (b : Nat) (s : Si) : XR := oc (.val (.tup [.bool false]) h) (fun c => bi (Nat.blt c (nat_lit 128)) (nF (Nat.succ s.pos) fun p => .val (.tup [.bool true, .int .i64 (.ofNat s.pos), .int .i32 (.ofNat c)]) (h.upd b (.sit (.s s.l p)))) .no) (idx s.pos s.l)
def memN (n : Nat) (l : List Nat) : Bool := @List.rec Nat (fun _ => Bool) false (fun x _ r => bi (Nat.beq x n) true r) l
def nilN (l : List Nat) : Bool := @List.rec Nat (fun _ => Bool) true (fun _ _ _ => false) l
/-- Over a map of at most one entry: nothing is left to be drawn. -/
def nxE (h : H) (b mb since : Nat) (seen : List Nat) (last clock : Nat) (e : AV × AV × Nat) : XR := bi (memN e.2.2 seen) (bi (Nat.blt e.2.2 last) (.val (.tup [.bool false]) h) .no) (bi (bi (nilN seen) true (Nat.blt e.2.2 last)) (bi (Nat.blt e.2.2 since) (.val (.tup [.bool true, e.1, e.2.1]) (h.upd b (.sit (.m mb since (app seen [e.2.2]) clock)))) .no) .no)
def nxM (h : H) (b mb since : Nat) (seen : List Nat) (last : Nat) (m : Mp) : XR := @List.rec (AV × AV × Nat) (fun _ => XR) (.val (.tup [.bool false]) h) (fun e r _ => @List.rec (AV × AV × Nat) (fun _ => XR) (nxE h b mb since seen last m.clock e) (fun _ _ _ => .no) r) m.es
def nxI (h : H) (isS : Bool) (b : Nat) : It → XR := (@It.rec (fun _ => XR) (fun l pos => bi isS (nx1 h b ⟨l, pos⟩) .no) (fun mb since seen last => bi isS .no (oc .no (nxM h b mb since seen last) (objMap (h.m.get mb)))) (fun _ _ => .no) )
def xNext (h : H) (x : AV) (isS : Bool) : XR := oc .no (fun p => bi (Nat.beq p.2 (nat_lit 0)) (oc .no (nxI h isS p.1) (objSit (h.m.get p.1))) .no) (asPtr x)
def lastN (l : List Nat) : Option Nat := @List.rec Nat (fun _ => Option Nat) none (fun x _ r => oc (some x) (fun y => some y) r) l
def findE (n : Nat) (l : List (AV × AV × Nat)) : Option (AV × AV) := @List.rec (AV × AV × Nat) (fun _ => Option (AV × AV)) none (fun e _ r => bi (Nat.beq e.2.2 n) (some (e.1, e.2.1)) r) l
def enM (h : H) (last n : Nat) (m : Mp) : XR := bi (Nat.beq m.clock last) (oc .no (fun e => .val (.tup [e.1, e.2]) h) (findE n m.es)) .no
def enI (h : H) : It → XR := (@It.rec (fun _ => H → XR) (fun _ _ => fun _ => .no) (fun mb _ seen last => fun h => oc .no (fun n => oc .no (enM h last n) (objMap (h.m.get mb))) (lastN seen)) (fun _ _ => fun _ => .no) ) |> fun f i => f i h
/-- What the last step came to. -/
def xEntry (h : H) (x : AV) : XR := oc .no (fun p => bi (Nat.beq p.2 (nat_lit 0)) (oc .no (enI h) (objSit (h.m.get p.1))) .no) (asPtr x)
def xMax (h : H) (x y : AV) : XR := oc .no (fun p => oc .no (fun q => kInt (bi (ilt p.2 q.2) q.2 p.2) h p.1) (asInt y)) (asInt x)
def minX (h : H) (n : Nat) (y : AV) : XR := oc .no (fun q => bi (Nat.beq (ikN q.1) 3) (bi (ilt (.ofNat n) q.2) .no (.val (.int .i64 q.2) h)) .no) (asInt y)
def xMin (h : H) (x y : AV) : XR := oc (oc .no (fun n => minX h n y) (asXnat x)) (fun p => oc .no (fun q => kInt (bi (ilt q.2 p.2) q.2 p.2) h p.1) (asInt y)) (asInt x)
def hd2 {α : Type} (k : α → α → XR) (l : List α) : XR := @List.rec α (fun _ => XR) .no (fun x r _ => @List.rec α (fun _ => XR) .no (fun y s _ => @List.rec α (fun _ => XR) (k x y) (fun _ _ _ => .no) s) r) l
def hd1 {α : Type} (k : α → XR) (l : List α) : XR := @List.rec α (fun _ => XR) .no (fun x r _ => @List.rec α (fun _ => XR) (k x) (fun _ _ _ => .no) r) l
def intK : TK → Bool := (@TK.rec (fun _ => Bool) (false) (fun _ => true) (false) (fun _ => false) (fun _ => false) (fun _ _ => false) (fun _ => false) (fun _ _ => false) (false) (false) (false) )
def notInt (t : Option TI) : Bool := oc false (fun ti => bi (intK ti.kind) false true) t
def xBuiltin : Builtin → (TypeId → Option TI) → H → List TypeId → List AV → XR := (@Builtin.rec (fun _ => (TypeId → Option TI) → H → List TypeId → List AV → XR) (fun Ty h ts l => hd2 (fun s x => hd2 (fun t u => bi (notInt (Ty u)) (xAppend Ty h s x (elemT (Ty t))) .no) ts) l) (fun _ _ _ _ => .no) (fun Ty h ts l => hd1 (fun x => hd1 (fun t => xClear Ty h x (Ty t)) ts) l) (fun _ _ _ _ => .no) (fun _ _ _ _ => .no) (fun Ty h ts l => hd2 (fun d s => hd2 (fun t _ => xCopy h d s (oc none (szOf Ty) (elemT (Ty t)))) ts) l) (fun Ty h ts l => hd2 (fun m k => hd2 (fun t _ => xDelete Ty h k m (mapT (Ty t))) ts) l) (fun _ _ _ _ => .no) (fun Ty h ts l => hd1 (fun x => hd1 (fun t => xLen x h (Ty t)) ts) l) (fun _ _ _ _ => .no) (fun _ h _ l => hd2 (xMax h) l) (fun _ h _ l => hd2 (xMin h) l) (fun _ _ _ _ => .no) (fun _ _ _ _ => .no) (fun _ _ _ _ => .no) (fun _ _ _ _ => .no) (fun _ _ _ _ => .no) (fun _ _ _ _ => .no) (fun _ _ _ _ => .no) (fun _ _ _ _ => .no) (fun _ _ _ _ => .no) (fun _ _ _ _ => .no) (fun _ _ _ _ => .no) (fun _ _ _ _ => .no) (fun _ _ _ _ => .no) (fun _ _ _ _ => .no) )
def sliceStr (h : H) (l : List Nat) (lo hi : Option Nat) : XR :=
  oc .no (fun a => oc .no (fun b => bi (Nat.ble a b) (bi (Nat.ble b (len l)) (.val (.str (tak (Nat.sub b a) (drp a l))) h) .no) .no) hi) lo
def isZ (o : Option Nat) : Bool := oc false (fun n => Nat.beq n 0) o
def sliceNil (h : H) (lo hi : Option Nat) (m : Bool) : XR := bi (isZ lo) (bi (isZ hi) (bi m (.val .nils h) .no) .no) .no
def reach (h : H) (s : Slc) (u size : Nat) : Bool := (@Cap.rec (fun _ => H → Slc → Nat → Nat → Bool) (fun c => fun _ _ u _ => Nat.ble u c) (fun x _ => fun h s u size => bi (Nat.beq x size) (bi (Nat.ble u s.len) true (bi (Nat.beq size 0) false (oc false (fun c => Nat.ble (Nat.add s.o (Nat.mul u size)) (len c.1)) (objCells (h.m.get s.b))))) false) ) s.cap h s u size
def cut (h : H) (s : Slc) (size l u : Nat) : XR := (@Cap.rec (fun _ => H → Slc → Nat → Nat → Nat → XR) (fun c => fun h s size l u => nF (bi (Nat.beq c l) s.o (Nat.add s.o (Nat.mul l size))) fun o => nF (Nat.sub u l) fun n => nF (Nat.sub c l) fun c => .val (.slc s.b o n (.k c)) h) (fun x k => fun h s size l u => nF (Nat.add s.o (Nat.mul l size)) fun o => nF (Nat.sub u l) fun n => nF (Nat.add k l) fun k => .val (.slc s.b o n (.v x k)) h) ) s.cap h s size l u
def cutM (h : H) (s : Slc) (size l u m : Nat) : XR := bi (Nat.ble l u) (bi (Nat.ble u m) (bi (Nat.ble m s.len) (nF (bi (Nat.beq m l) s.o (Nat.add s.o (Nat.mul l size))) fun o => nF (Nat.sub u l) fun n => nF (Nat.sub m l) fun c => .val (.slc s.b o n (.k c)) h) .no) .no) .no
def isSome {α : Type} (o : Option α) : Bool := oc false (fun _ => true) o
def isNone {α : Type} (o : Option α) : Bool := oc true (fun _ => false) o
def sliceS (h : H) (size : Nat) (s : Slc) (mx hi0 : Option AV) (lo hi : Option Nat) : XR :=
  oc .no (fun l => oc .no (fun u => oc (bi (Nat.ble l u) (bi (reach h s u size) (cut h s size l u) .no) .no) (fun m => bi (isNone hi0) .no (oc .no (cutM h s size l u) (intNat m))) mx) hi) lo
def sliceA (h : H) (b o n size : Nat) (mx : Option AV) (lo hi : Option Nat) : XR :=
  oc .no (fun l => oc .no (fun u => oc (bi (Nat.ble l u) (bi (Nat.ble u n) (nF (bi (Nat.beq n l) o (Nat.add o (Nat.mul l size))) fun o => nF (Nat.sub u l) fun m => nF (Nat.sub n l) fun c => .val (.slc b o m (.k c)) h) .no) .no) (fun _ => .no) mx) hi) lo
def xzPair (lo hi mx : Option AV) : Option (Xi × Xi) := oc (oc none (fun lo => oc none (fun hi => oc none (fun x => oc none (fun y => some (x, y)) (asXi hi)) (asXi lo)) hi) lo) (fun _ => none) mx
/-- A cut at a place that is known by a letter: cells of one. -/
def sliceX (h : H) (size : Nat) (s : Slc) (p : Xi × Xi) : XR :=
  bi (Nat.beq size (nat_lit 1)) (bi (Nat.beq p.1.k p.2.k) (bi (ieq p.1.a p.2.a) (bi (ileq (.ofNat (nat_lit 0)) p.1.lo) (bi (ileq p.2.hi (.ofNat s.len)) (oc .no (fun n => bi (Nat.beq n (nat_lit 0)) .no (nF n fun n => nF (Nat.add s.o s.len) fun L => .val (.xz s.b n L) h)) (natI (Int.sub p.2.c p.1.c))) .no) .no) .no) .no) .no
def sliceK : TK → (TypeId → Option TI) → H → AV → Option AV → Option AV → Option AV → XR := (@TK.rec (fun _ => (TypeId → Option TI) → H → AV → Option AV → Option AV → Option AV → XR) (fun _ _ _ _ _ _ => .no) (fun _ => fun _ _ _ _ _ _ => .no) (fun _ h x lo hi mx => bi (isNone mx) (oc .no (fun l => sliceStr h l (optNat 0 lo) (optNat (len l) hi)) (asStr x)) .no) (fun e => fun Ty h x lo hi mx => oc .no (fun size => oc (bi (isNils x) (sliceNil h (optNat 0 lo) (optNat 0 hi) (isNone mx)) .no) (fun s => oc (sliceS h size s mx hi (optNat 0 lo) (optNat s.len hi)) (fun p => sliceX h size s p) (xzPair lo hi mx)) (asSlc x)) (szOf Ty e)) (fun _ => fun _ _ _ _ _ _ => .no) (fun _ _ => fun _ _ _ _ _ _ => .no) (fun _ => fun _ _ _ _ _ _ => .no) (fun n e => fun Ty h x lo hi mx => oc .no (fun p => oc .no (fun size => sliceA h p.1 p.2 n size mx (optNat 0 lo) (optNat n hi)) (szOf Ty e)) (asPtr x)) (fun _ _ _ _ _ _ => .no) (fun _ _ _ _ _ _ => .no) (fun _ _ _ _ _ _ => .no) )
def xSlice (Ty : TypeId → Option TI) (h : H) (x : AV) (lo hi mx : Option AV) (t : Option TI) : XR := oc .no (fun ti => sliceK ti.kind Ty h x lo hi mx) t
def cvBytes (h : H) (s : Slc) : XR := oc .no (fun cs => oc .no (fun l => .val (.str l) h) (strBytes cs)) (cellsAt h s.b s.o s.len)
def u8K : TK → Bool := (@TK.rec (fun _ => Bool) (false) (fun k => Nat.beq (ikN k) 4) (false) (fun _ => false) (fun _ => false) (fun _ _ => false) (fun _ => false) (fun _ _ => false) (false) (false) (false) )
def u8T (t : Option TI) : Bool := oc false (fun ti => u8K ti.kind) t
def srcU8 (Ty : TypeId → Option TI) (s : Option TI) : Bool := oc false (fun e => u8T (Ty e)) (elemT s)
def cvR (h : H) (k : IntKind) (x : AV) : XR := oc .no (fun r => bi (Nat.beq r.k 0) (bi (Nat.beq (ikN k) 7) (.val (.xres 2 r.m r.r) h) .no) .no) (asXres x)
def convK : TK → (TypeId → Option TI) → H → Option TI → AV → XR := (@TK.rec (fun _ => (TypeId → Option TI) → H → Option TI → AV → XR) (fun _ _ _ _ => .no) (fun k => fun _ h _ x => oc (cvR h k x) (fun p => kW h k p.2) (asInt x)) (fun Ty h s x => oc (bi (srcU8 Ty s) (oc (bi (isNils x) (.val (.str []) h) .no) (cvBytes h) (asSlc x)) .no) (fun l => .val (.str l) h) (asStr x)) (fun _ => fun _ _ _ _ => .no) (fun _ => fun _ _ _ _ => .no) (fun _ _ => fun _ _ _ _ => .no) (fun _ => fun _ _ _ _ => .no) (fun _ _ => fun _ _ _ _ => .no) (fun _ _ _ _ => .no) (fun _ _ _ _ => .no) (fun _ _ _ _ => .no) )
def xConvert (Ty : TypeId → Option TI) (h : H) (x : AV) (s t : Option TI) : XR := oc .no (fun td => convK td.kind Ty h s x) t
def mkS (h : H) (e l c : Nat) (te : TI) : XR := bi (Nat.ble l c) (bi (bi (Nat.ble c 70368744177664) (Nat.ble (Nat.mul c te.bytes) 70368744177664) false) (kNew h (.cells (repl te.zero c) e) fun n => .slc n 0 l (.k c)) .no) .no
def xMakeSlice (Ty : TypeId → Option TI) (h : H) (l c : Option Nat) (t : Option TypeId) : XR := oc .no (fun e => oc .no (fun l => oc .no (fun c => oc .no (mkS h e l c) (Ty e)) c) l) t
def fieldOf : TK → Nat → Option (Nat × TypeId) := (@TK.rec (fun _ => Nat → Option (Nat × TypeId)) (fun _ => none) (fun _ => fun _ => none) (fun _ => none) (fun _ => fun _ => none) (fun _ => fun _ => none) (fun _ _ => fun _ => none) (fun fs => fun i => idx i fs) (fun _ _ => fun _ => none) (fun _ => none) (fun _ => none) (fun _ => none) )
def xFieldAddr (Ty : TypeId → Option TI) (h : H) (f : Nat) (x : AV) (t : Option TI) : XR := oc .no (fun p => oc .no (fun ti => oc .no (fun q => oc .no (fun s => bi (Nat.beq s 0) .no (nF (Nat.add p.2 q.1) fun o => .val (.ptr p.1 o) h)) (szOf Ty q.2)) (fieldOf ti.kind f)) t) (asPtr x)
def part (h : H) (l : List AV) (o : Nat) (t : Option TI) : XR := oc .no (fun ti => bi (isAgg ti.kind) (kAgg h (sub l o ti.size)) (kVal h (idx o l))) t
def xField (Ty : TypeId → Option TI) (h : H) (f : Nat) (x : AV) (t : Option TI) : XR := oc .no (fun l => oc .no (fun ti => oc .no (fun q => part h l q.1 (Ty q.2)) (fieldOf ti.kind f)) t) (asAgg x)
def ia (h : H) (b o i n : Nat) (s : Option Nat) : XR := oc .no (fun s => bi (Nat.blt i n) (nF (Nat.add o (Nat.mul i s)) fun o => .val (.ptr b o) h) .no) s
def iaK : TK → (TypeId → Option TI) → H → Nat → AV → XR := (@TK.rec (fun _ => (TypeId → Option TI) → H → Nat → AV → XR) (fun _ _ _ _ => .no) (fun _ => fun _ _ _ _ => .no) (fun _ _ _ _ => .no) (fun e => fun Ty h i x => oc .no (fun s => ia h s.b s.o i s.len (szOf Ty e)) (asSlc x)) (fun _ => fun _ _ _ _ => .no) (fun _ _ => fun _ _ _ _ => .no) (fun _ => fun _ _ _ _ => .no) (fun n e => fun Ty h i x => oc .no (fun p => ia h p.1 p.2 i n (szOf Ty e)) (asPtr x)) (fun _ _ _ _ => .no) (fun _ _ _ _ => .no) (fun _ _ _ _ => .no) )
def xIndexAddr (Ty : TypeId → Option TI) (h : H) (x : AV) (i : Option Nat) (t : Option TI) : XR := oc .no (fun i => oc .no (fun ti => iaK ti.kind Ty h i x) t) i
def ixK : TK → (TypeId → Option TI) → H → Nat → AV → XR := (@TK.rec (fun _ => (TypeId → Option TI) → H → Nat → AV → XR) (fun _ _ _ _ => .no) (fun _ => fun _ _ _ _ => .no) (fun _ h i x => oc .no (fun l => oc .no (fun n => .val (.int .u8 (.ofNat n)) h) (idx i l)) (asStr x)) (fun _ => fun _ _ _ _ => .no) (fun _ => fun _ _ _ _ => .no) (fun _ _ => fun _ _ _ _ => .no) (fun _ => fun _ _ _ _ => .no) (fun n e => fun Ty h i x => oc .no (fun l => bi (Nat.blt i n) (oc .no (fun s => part h l (Nat.mul i s) (Ty e)) (szOf Ty e)) .no) (asAgg x)) (fun _ _ _ _ => .no) (fun _ _ _ _ => .no) (fun _ _ _ _ => .no) )
def xIndex (Ty : TypeId → Option TI) (h : H) (x : AV) (i : Option Nat) (t : Option TI) : XR := oc .no (fun i => oc .no (fun ti => ixK ti.kind Ty h i x) t) i
def lkRes (h : H) (ok : Bool) (te : TI) (r : Option (Nat × AV × Nat)) : XR := oc (.val (bi ok (.tup [zeroOf te, .bool false]) (zeroOf te)) h) (fun p => .val (bi ok (.tup [p.2.1, .bool true]) p.2.1) h) r
def lk1 (h : H) (ok : Bool) (kt : Option TI) (k x : AV) (te : TI) : XR := oc (bi (isNilm x) (oc .no (lkRes h ok te) (findK kt k [])) .no) (fun b => oc .no (fun m => oc .no (lkRes h ok te) (findK kt k m.es)) (objMap (h.m.get b))) (asMap x)
def xLookup (Ty : TypeId → Option TI) (h : H) (ok : Bool) (m k : AV) (t : Option (TypeId × TypeId)) : XR := oc .no (fun q => oc .no (lk1 h ok (Ty q.1) k m) (Ty q.2)) t
def mu (h : H) (b : Nat) (k v : AV) (m : Mp) (r : Option (Nat × AV × Nat)) : XR := oc (.val (.tup []) (h.upd b (.map (app m.es [(k, v, m.clock)]) (Nat.succ m.clock)))) (fun p => .val (.tup []) (h.upd b (.map (setAt v m.es p.1) m.clock))) r
def xMapUpdate (Ty : TypeId → Option TI) (h : H) (k v x : AV) (t : Option (TypeId × TypeId)) : XR := oc .no (fun q => oc .no (fun b => oc .no (fun m => oc .no (mu h b k v m) (findK (Ty q.1) k m.es)) (objMap (h.m.get b))) (asMap x)) t
def me (h : H) (b : Nat) (k : AV) (te : TI) (m : Mp) (r : Option (Nat × AV × Nat)) : XR := oc (.val (.tup [zeroOf te, .int .i64 (.ofNat m.clock)]) (h.upd b (.map (app m.es [(k, zeroOf te, m.clock)]) (Nat.succ m.clock)))) (fun p => .val (.tup [p.2.1, .int .i64 (.ofNat p.2.2)]) h) r
def me1 (h : H) (kt : Option TI) (k x : AV) (te : TI) : XR := oc .no (fun b => oc .no (fun m => oc .no (me h b k te m) (findK kt k m.es)) (objMap (h.m.get b))) (asMap x)
def xMapEntry (Ty : TypeId → Option TI) (h : H) (m k : AV) (t : Option (TypeId × TypeId)) : XR := oc .no (fun q => oc .no (me1 h (Ty q.1) k m) (Ty q.2)) t
def xEntryStore (h : H) (v x : AV) (born : Option Nat) : XR := oc .no (fun b => oc .no (fun m => oc .no (fun n => oc .no (fun i => .val (.tup []) (h.upd b (.map (setAt v m.es i) m.clock))) (bornAt n m.es 0)) born) (objMap (h.m.get b))) (asMap x)
def xExtract (h : H) (i : Nat) (x : AV) : XR := oc .no (fun l => kVal h (idx i l)) (asTup x)
def fnId : Fn → Option FuncId := (@Fn.rec (fun _ => Option FuncId) (fun f => some f) (fun _ => none) (fun _ _ => none) (fun _ _ _ _ => none) (fun _ => none) )
def callV : AV → List AV → H → XR := (@AV.rec (fun _ => List AV → H → XR) (fun _ => Unit) (fun _ _ => .no) (fun _ => fun _ _ => .no) (fun _ _ => fun _ _ => .no) (fun _ => fun _ _ => .no) (fun _ _ => .no) (fun _ _ => fun _ _ => .no) (fun _ _ => .no) (fun _ _ _ _ => fun _ _ => .no) (fun _ _ => .no) (fun _ => fun _ _ => .no) (fun f x y _ _ => fun vs h => oc .no (fun f => .call f (app x (app vs y)) h) (fnId f)) (fun _ _ => .no) (fun _ _ _ => fun _ _ => .no) (fun _ _ => .no) (fun _ _ => fun _ _ => .no) (fun _ _ => fun _ _ => .no) (fun _ _ => fun _ _ => .no) (fun _ => fun _ _ => .no) (fun _ _ _ => fun _ _ => .no) (fun _ => fun _ _ => .no) (fun _ _ _ => fun _ _ => .no) () (fun _ _ _ _ => ()))
def xCall : Callee → (TypeId → Option TI) → Tm → H → List Operand → List TypeId → XR := (@Callee.rec (fun _ => (TypeId → Option TI) → Tm → H → List Operand → List TypeId → XR) (fun f => fun _ a h l _ => callV (ev f a) (evL l a) h) (fun _ _ => fun _ _ _ _ _ => .no) (fun b => fun Ty a h l ts => xBuiltin b Ty h ts (evL l a)) )

def xop : Op → (TypeId → Option TI) → Tm → H → XR := (@Op.rec (fun _ => (TypeId → Option TI) → Tm → H → XR) (fun x => fun _ a h => .val (ev x a) h) (fun x => fun _ a h => .val (ev x a) h) (fun c x y => fun _ a h => xPick h (ev c a) (ev x a) (ev y a)) (fun e => fun Ty _ h => xAlloc h e (Ty e)) (fun e x => fun _ a h => xBox h e (ev x a)) (fun t ps => fun Ty a h => xBuild Ty h (prs ps.toList a) (Ty t)) (fun t n ps => fun Ty a h => oc .no (xBuildS Ty h n (prs ps.toList a)) (elemT (Ty t))) (fun t m k v => fun Ty a h => xMapUpdate Ty h (ev k a) (ev v a) (ev m a) (mapT (Ty t))) (fun t x => fun Ty a h => xLoad h (ev x a) (Ty t)) (fun t x y => fun Ty a h => xStore h (ev y a) (ev x a) (Ty t)) (fun _ => fun _ _ _ => .no) (fun _ => fun _ _ _ => .no) (fun x => fun _ a h => xNilCheck h (ev x a)) (fun op t x y _ => fun Ty a h => binop Ty h op (Ty t) (ev x a) (ev y a)) (fun op _ x => fun _ a h => unop h op (ev x a)) (fun s d x => fun Ty a h => bi (isSome (Ty s)) (xConvert Ty h (ev x a) (Ty s) (Ty d)) .no) (fun _ _ => fun _ _ _ => .no) (fun _ _ => fun _ _ _ => .no) (fun f x y => fun _ a h => .val (.fn f (evL x.toList a) (evL y.toList a)) h) (fun _ r => fun _ _ h => bi (isNone r) (kNew h (.map [] 0) .map) .no) (fun _ _ => fun _ _ _ => .no) (fun t l c => fun Ty a h => xMakeSlice Ty h (intNat (ev l a)) (intNat (ev c a)) (elemT (Ty t))) (fun t x lo hi mx => fun Ty a h => xSlice Ty h (ev x a) (evO lo a) (evO hi a) (evO mx a) (Ty t)) (fun t x f => fun Ty a h => xFieldAddr Ty h f (ev x a) (Ty t)) (fun t x f => fun Ty a h => xField Ty h f (ev x a) (Ty t)) (fun t x i => fun Ty a h => xIndexAddr Ty h (ev x a) (intNat (ev i a)) (Ty t)) (fun t x i => fun Ty a h => xIndex Ty h (ev x a) (intNat (ev i a)) (Ty t)) (fun t x i ok => fun Ty a h => xLookup Ty h ok (ev x a) (ev i a) (mapT (Ty t))) (fun t m k v => fun Ty a h => xMapUpdate Ty h (ev k a) (ev v a) (ev m a) (mapT (Ty t))) (fun t m k => fun Ty a h => xMapEntry Ty h (ev m a) (ev k a) (mapT (Ty t))) (fun _ m s v => fun _ a h => xEntryStore h (ev v a) (ev m a) (intNat (ev s a))) (fun t x => fun Ty a h => xRange h (ev x a) (Ty t)) (fun x s => fun _ a h => xNext h (ev x a) s) (fun x => fun _ a h => xEntry h (ev x a)) (fun _ _ _ _ => fun _ _ _ => .no) (fun x i => fun _ a h => xExtract h i (ev x a)) (fun c => fun Ty a h => xCall c.callee Ty a h c.args.toList c.argTypes.toList) (fun _ => fun _ _ _ => .no) (fun _ => fun _ _ _ => .no) (fun _ => fun _ _ _ => .no) (fun _ _ => fun _ _ _ => .no) (fun _ _ _ => fun _ _ _ => .no) (fun _ _ => fun _ _ _ => .no) )

/-! Code. -/
inductive XE where
  | normal
  | exit (id : Nat)
  | goto (l : Nat)
  | ret
inductive R where
  | no
  | mk (e : XE) (a : Tm) (h : H)
  | ret (v : AV) (h : H)
/-- An operation of a region whose order is drawn: its place, as a bit, those that it waits for, all that are ahead of it. -/
structure OX where
  i : Nat
  bit : Nat
  m : Nat
  b : Nat
  o : Oper
/-- An operation that only read, and what it told. -/
structure RdE where
  i : Nat
  bit : Nat
  o : Oper
  a : Tm
  v : AV
inductive Task where
  | code (c : Code)
  | scope (b c : Code)
  | ops (ops : Array Oper) (l : List Oper)
  | call (f : FuncId) (args : List AV)
  | draw (ops : Array Oper) (l : List OX) (L : Nat) (pd : List RdE)
abbrev Rc := Task → Tm → H → R

def rd (h : H) (x : AV) (t : Option TI) : Option AV :=
  oc none (fun p => oc none (fun ti => oc none (fun c => bi (isAgg ti.kind) (oc none (fun l => some (.agg l)) (sub c.1 p.2 ti.size)) (idx p.2 c.1)) (objCells (h.m.get p.1))) t) (asPtr x)
def rd1 : ResultVar → (TypeId → Option TI) → H → Tm → Option AV := (@ResultVar.rec (fun _ => (TypeId → Option TI) → H → Tm → Option AV) (fun t => fun _ _ a => some (tmD (a.get t))) (fun t ty => fun Ty h a => rd h (tmD (a.get t)) (Ty ty)) )
def readL (Ty : TypeId → Option TI) (h : H) (a : Tm) (l : List ResultVar) : Option (List AV) := @List.rec ResultVar (fun _ => Option (List AV)) (some []) (fun x _ r => oc none (fun v => oc none (fun l => some (v :: l)) r) (rd1 x Ty h a)) l
def initT (l : List AV) : Nat → Tm → Tm := @List.rec AV (fun _ => Nat → Tm → Tm) (fun _ t => t) (fun v _ g i t => g (Nat.succ i) (t.set i v)) l
def putD (d : Option Tmp) (v : AV) (a : Tm) : Tm := oc a (fun d => a.set d v) d

/-! A region whose order is drawn: what waits for what. -/
def edgeB : Ground → Bool := (@Ground.rec (fun _ => Bool) (true) (true) (true) (true) (fun _ => false) (fun _ => false) )
def wL (l : List Edge) : Nat := @List.rec Edge (fun _ => Nat) (nat_lit 0) (fun e _ r => bi (edgeB e.ground) (Nat.lor (Nat.shiftLeft (nat_lit 1) e.on) r) r) l
def clL (bs : T Nat) (l : List Edge) : Nat := @List.rec Edge (fun _ => Nat) (nat_lit 0) (fun e _ r => bi (edgeB e.ground) (Nat.lor (oc (nat_lit 0) (fun n => n) (bs.get e.on)) r) r) l
def prepL (l : List Oper) : Nat → T Nat → List OX := @List.rec Oper (fun _ => Nat → T Nat → List OX) (fun _ _ => []) (fun o _ g i bs => nF i fun i => nF (wL o.after.toList) fun m => nF (Nat.lor m (clL bs o.after.toList)) fun b => nF (Nat.shiftLeft (nat_lit 1) i) fun bit => OX.mk i bit m b o :: g (Nat.succ i) (bs.set i b)) l
def prep (ops : Array Oper) : List OX := prepL ops.toList (nat_lit 0) .e
def hasB (b bit : Nat) : Bool := bi (Nat.beq (Nat.land b bit) (nat_lit 0)) false true
def allL {α : Type} (p : α → Bool) (l : List α) : Bool := @List.rec α (fun _ => Bool) true (fun x _ r => bi (p x) r false) l
def dstIs (t : Nat) (o : Option Tmp) : Bool := oc false (fun d => Nat.beq d t) o
def dk1 (X : List OX) (y : OX) (t : Nat) : Bool := allL (fun x => bi (dstIs t x.o.dst) (bi (Nat.beq x.i y.i) true (bi (hasB y.b x.bit) true (hasB x.b y.bit))) true) X
def dk2 (X : List OX) (y : OX) : Bool := oc true (fun t => allL (fun x => bi (dstIs t x.o.dst) (Nat.beq x.i y.i) true) X) y.o.dst
def tmL (l : List Operand) : List Nat := @List.rec Operand (fun _ => List Nat) [] (fun x _ r => (@Operand.rec (fun _ => List Nat → List Nat) (fun t => fun r => t :: r) (fun _ => fun r => r) (fun _ => fun r => r) (fun _ => fun r => r) ) x r) l
def gdL (ops : Array Oper) (o : Oper) : List Nat := oc [] (fun p => oc [] (fun q => oc [] (fun d => [d]) q.dst) (idx p.1 ops.toList)) o.guard
def looksL (ops : Array Oper) (o : Oper) : List Nat := app (gdL ops o) (tmL o.op.operands.toList)
def dk (ops : Array Oper) (X : List OX) : Bool := allL (fun y => bi (Nat.blt y.m y.bit) (bi (allL (dk1 X y) (looksL ops y.o)) (dk2 X y) false) false) X
def drawOk (ops : Array Oper) : Bool := dk ops (prep ops)
def seqK : R → Rc → Code → R := (@R.rec (fun _ => Rc → Code → R) (fun _ _ => .no) (fun e a h => fun g y => (@XE.rec (fun _ => Rc → Code → Tm → H → R) (fun g y a h => g (.code y) a h) (fun id => fun _ _ a h => .mk (.exit id) a h) (fun l => fun _ _ a h => .mk (.goto l) a h) (fun _ _ a h => .mk .ret a h) ) e g y a h) (fun _ _ => fun _ _ => .no) )
def condK (b : Option Bool) (g : Rc) (x y : Code) (a : Tm) (h : H) : R := oc .no (fun b => bi b (g (.code x) a h) (g (.code y) a h)) b
def blockK : R → Nat → R := (@R.rec (fun _ => Nat → R) (fun _ => .no) (fun e a h => fun id => (@XE.rec (fun _ => Nat → Tm → H → R) (fun _ a h => .mk .normal a h) (fun j => fun id a h => bi (Nat.beq j id) (.mk .normal a h) (.mk (.exit j) a h)) (fun l => fun _ a h => .mk (.goto l) a h) (fun _ a h => .mk .ret a h) ) e id a h) (fun _ _ => fun _ => .no) )
def codeF : Code → Rc → Tm → H → R := (@Code.rec (fun _ => Rc → Tm → H → R) (fun _ a h => .mk .normal a h) (fun _ ops d => fun g a h => bi d (g (.draw ops (prep ops) (nat_lit 0) []) a h) (g (.ops ops ops.toList) a h)) (fun x y _ _ => fun g a h => seqK (g (.code x) a h) g y) (fun c x y _ _ => fun g a h => condK (asBool (ev c a)) g x y a h) (fun id c _ => fun g a h => blockK (g (.code c) a h) id) (fun c _ => fun g a h => seqK (g (.code c) a h) g (.loop c)) (fun _ _ _ _ _ _ => fun _ _ _ => .no) (fun id => fun _ a h => .mk (.exit id) a h) (fun c _ => fun g a h => g (.scope c c) a h) (fun _ => fun _ a h => .mk .normal a h) (fun l => fun _ a h => .mk (.goto l) a h) (fun _ a h => .mk .ret a h) (fun _ => fun _ _ _ => .no) )
def gotoK (o : Option Code) (g : Rc) (b : Code) (l : Nat) (a : Tm) (h : H) : R := oc (.mk (.goto l) a h) (fun rest => g (.scope b rest) a h) o
def scopeK : R → Rc → Code → R := (@R.rec (fun _ => Rc → Code → R) (fun _ _ => .no) (fun e a h => fun g b => (@XE.rec (fun _ => Rc → Code → Tm → H → R) (fun _ _ a h => .mk .normal a h) (fun id => fun _ _ a h => .mk (.exit id) a h) (fun l => fun g b a h => gotoK (findLabel b l) g b l a h) (fun _ _ a h => .mk .ret a h) ) e g b a h) (fun _ _ => fun _ _ => .no) )
/-- What a guard says: none: not known. -/
def wantV : AV → Bool → Option Bool := (@AV.rec (fun _ => Bool → Option Bool) (fun _ => Unit) (fun _ => none) (fun b => fun want => some (bi want b (bi b false true))) (fun _ _ => fun _ => none) (fun _ => fun _ => none) (fun _ => none) (fun _ _ => fun _ => none) (fun _ => none) (fun _ _ _ _ => fun _ => none) (fun _ => none) (fun _ => fun _ => none) (fun _ _ _ _ _ => fun _ => none) (fun _ => none) (fun _ _ _ => fun _ => none) (fun _ => none) (fun _ _ => fun _ => none) (fun _ _ => fun _ => some false) (fun _ _ => fun _ => none) (fun _ => fun _ => none) (fun _ _ _ => fun _ => none) (fun _ => fun _ => none) (fun _ _ _ => fun _ => none) () (fun _ _ _ _ => ()))
def wantD (o : Option Oper) (want : Bool) (a : Tm) : Option Bool := oc none (fun o => oc none (fun d => wantV (tmD (a.get d)) want) o.dst) o
def wants (gd : Option (Nat × Bool)) (ops : Array Oper) (a : Tm) : Option Bool := oc (some true) (fun p => wantD (idx p.1 ops.toList) p.2 a) gd
abbrev Ovs := FuncId → Option (List AV → H → XR)
def ovR : XR → R → R := (@XR.rec (fun _ => R → R) (fun r => r) (fun v h => fun _ => .ret v h) (fun _ _ _ => fun r => r) )
def callK (Ov : Ovs) (g : Rc) (f : FuncId) (args : List AV) (h : H) : R := oc (g (.call f args) .e h) (fun x => ovR (x args h) (g (.call f args) .e h)) (Ov f)
def retK : R → Rc → Array Oper → List Oper → Option Tmp → Tm → R := (@R.rec (fun _ => Rc → Array Oper → List Oper → Option Tmp → Tm → R) (fun _ _ _ _ _ => .no) (fun _ _ _ => fun _ _ _ _ _ => .no) (fun v h => fun g ops r d a => g (.ops ops r) (putD d v a) h) )
def opK : XR → Ovs → Rc → Array Oper → List Oper → Option Tmp → Tm → R := (@XR.rec (fun _ => Ovs → Rc → Array Oper → List Oper → Option Tmp → Tm → R) (fun _ _ _ _ _ _ => .no) (fun v h => fun _ g ops r d a => g (.ops ops r) (putD d v a) h) (fun f args h => fun Ov g ops r d a => retK (callK Ov g f args h) g ops r d a) )
def op1 (o : Oper) (Ty : TypeId → Option TI) (Ov : Ovs) (g : Rc) (ops : Array Oper) (r : List Oper) (a : Tm) (h : H) : R := oc .no (fun b => bi b (opK (xop o.op Ty a h) Ov g ops r o.dst a) (g (.ops ops r) (putD o.dst (.tup []) a) h)) (wants o.guard ops a)
def opsF (l : List Oper) (Ty : TypeId → Option TI) (Ov : Ovs) (g : Rc) (ops : Array Oper) (a : Tm) (h : H) : R := @List.rec Oper (fun _ => R) (.mk .normal a h) (fun o r _ => op1 o Ty Ov g ops r a h) l
/-! A region whose order is drawn, in one order; reads are looked at again behind each write that they don't wait for. -/
inductive KD where
  | pure
  | read
  | alloc
  | eff
def kdB : Builtin → KD := (@Builtin.rec (fun _ => KD) (.eff) (.eff) (.eff) (.eff) (.eff) (.eff) (.eff) (.eff) (.read) (.eff) (.pure) (.pure) (.eff) (.eff) (.eff) (.eff) (.eff) (.eff) (.eff) (.eff) (.eff) (.eff) (.eff) (.eff) (.eff) (.eff) )
def kdC : Callee → KD := (@Callee.rec (fun _ => KD) (fun _ => .eff) (fun _ _ => .eff) (fun b => kdB b) )
def kd : Op → KD := (@Op.rec (fun _ => KD) (fun _ => .pure) (fun _ => .pure) (fun _ _ _ => .pure) (fun _ => .alloc) (fun _ _ => .alloc) (fun _ _ => .pure) (fun _ _ _ => .alloc) (fun _ _ _ _ => .eff) (fun _ _ => .read) (fun _ _ _ => .eff) (fun _ => .eff) (fun _ => .eff) (fun _ => .pure) (fun _ _ _ _ _ => .pure) (fun _ _ _ => .pure) (fun _ _ _ => .read) (fun _ _ => .eff) (fun _ _ => .eff) (fun _ _ _ => .pure) (fun _ _ => .alloc) (fun _ _ => .eff) (fun _ _ _ => .alloc) (fun _ _ _ _ _ => .read) (fun _ _ _ => .pure) (fun _ _ _ => .pure) (fun _ _ _ => .pure) (fun _ _ _ => .pure) (fun _ _ _ _ => .read) (fun _ _ _ _ => .eff) (fun _ _ _ => .eff) (fun _ _ _ _ => .eff) (fun _ _ => .eff) (fun _ _ => .eff) (fun _ => .eff) (fun _ _ _ _ => .eff) (fun _ _ => .pure) (fun c => kdC c.callee) (fun _ => .eff) (fun _ => .eff) (fun _ => .eff) (fun _ _ => .eff) (fun _ _ _ => .eff) (fun _ _ => .eff) )
def isAny : AV → Bool := (@AV.rec (fun _ => Bool) (fun _ => Unit) (true) (fun _ => false) (fun _ _ => false) (fun _ => false) (false) (fun _ _ => false) (false) (fun _ _ _ _ => false) (false) (fun _ => false) (fun _ _ _ _ _ => false) (false) (fun _ _ _ => false) (false) (fun _ _ => false) (fun _ _ => false) (fun _ _ => false) (fun _ => false) (fun _ _ _ => false) (fun _ => false) (fun _ _ _ => false) () (fun _ _ _ _ => ()))
def eqXslc (n : Nat) (ge : Bool) : AV → Bool := (@AV.rec (fun _ => Nat → Bool → Bool) (fun _ => Unit) (fun _ _ => false) (fun _ => fun _ _ => false) (fun _ _ => fun _ _ => false) (fun _ => fun _ _ => false) (fun _ _ => false) (fun _ _ => fun _ _ => false) (fun _ _ => false) (fun _ _ _ _ => fun _ _ => false) (fun _ _ => false) (fun _ => fun _ _ => false) (fun _ _ _ _ _ => fun _ _ => false) (fun _ _ => false) (fun _ _ _ => fun _ _ => false) (fun _ _ => false) (fun _ _ => fun _ _ => false) (fun _ _ => fun _ _ => false) (fun m g => fun n ge => bi (Nat.beq n m) (bi ge g (bi g false true)) false) (fun _ => fun _ _ => false) (fun _ _ _ => fun _ _ => false) (fun _ => fun _ _ => false) (fun _ _ _ => fun _ _ => false) () (fun _ _ _ _ => ())) |> fun f v => f v n ge
def eqXi (x : Xi) (y : AV) : Bool := oc false (fun z => bi (Nat.beq x.k z.k) (bi (ieq x.a z.a) (bi (ieq x.c z.c) (bi (ieq x.lo z.lo) (ieq x.hi z.hi) false) false) false) false) (asXi y)
def eqXnat (n : Nat) (y : AV) : Bool := oc false (fun m => Nat.beq n m) (asXnat y)
def eqXres (k m : Nat) (r : Int) (y : AV) : Bool := oc false (fun x => bi (Nat.beq k x.k) (bi (Nat.beq m x.m) (ieq r x.r) false) false) (asXres y)
def isNili : AV → Bool := (@AV.rec (fun _ => Bool) (fun _ => Unit) (false) (fun _ => false) (fun _ _ => false) (fun _ => false) (false) (fun _ _ => false) (false) (fun _ _ _ _ => false) (false) (fun _ => false) (fun _ _ _ _ _ => false) (false) (fun _ _ _ => false) (true) (fun _ _ => false) (fun _ _ => false) (fun _ _ => false) (fun _ => false) (fun _ _ _ => false) (fun _ => false) (fun _ _ _ => false) () (fun _ _ _ _ => ()))
def capEq : Cap → Cap → Bool := (@Cap.rec (fun _ => Cap → Bool) (fun n => (@Cap.rec (fun _ => Bool) (fun m => Nat.beq n m) (fun _ _ => false) )) (fun s k => (@Cap.rec (fun _ => Bool) (fun _ => false) (fun r j => bi (Nat.beq s r) (Nat.beq k j) false) )) )
def slcEq (b o n : Nat) (c : Cap) (s : Slc) : Bool := bi (Nat.beq b s.b) (bi (Nat.beq o s.o) (bi (Nat.beq n s.len) (capEq c s.cap) false) false) false
def avEq : AV → AV → Bool := @AV.rec (fun _ => AV → Bool) (fun _ => List AV → Bool)
  isAny (fun b y => oc false (fun c => bi b c (bi c false true)) (asBool y)) (fun k n y => oc false (fun p => bi (Nat.beq (ikN k) (ikN p.1)) (ieq n p.2) false) (asInt y)) (fun l y => oc false (fun m => lbeq l m) (asStr y))
  isNilp (fun b o y => oc false (fun p => bi (Nat.beq b p.1) (Nat.beq o p.2) false) (asPtr y)) isNils (fun b o n c y => oc false (slcEq b o n c) (asSlc y)) isNilm (fun b y => oc false (fun c => Nat.beq b c) (asMap y))
  (fun _ _ _ _ _ _ => false) isNilf (fun _ _ _ _ => false) isNili (fun _ g y => oc false g (asAgg y)) (fun _ g y => oc false g (asTup y)) eqXslc eqXnat eqXres eqXi (fun _ _ _ _ => false)
  (fun l => @List.rec AV (fun _ => Bool) true (fun _ _ _ => false) l) (fun _ _ g gr l => @List.rec AV (fun _ => Bool) false (fun y r _ => bi (g y) (gr r) false) l)
abbrev PG := List OX → Nat → Tm → H → List RdE → R
def pVal (x : OX) (g : PG) (kept : List OX) (L : Nat) (a : Tm) (pd : List RdE) : XR → R := fun r => (@XR.rec (fun _ => OX → PG → List OX → Nat → Tm → List RdE → R) (fun _ _ _ _ _ _ => .no) (fun v h => fun x g kept L a pd => nF (Nat.lor L x.bit) fun L => g kept L (putD x.o.dst v a) h pd) (fun _ _ _ => fun _ _ _ _ _ _ => .no) ) r x g kept L a pd
def pRead (x : OX) (g : PG) (kept : List OX) (L : Nat) (a : Tm) (pd : List RdE) : XR → R := fun r => (@XR.rec (fun _ => OX → PG → List OX → Nat → Tm → List RdE → R) (fun _ _ _ _ _ _ => .no) (fun v h => fun x g kept L a pd => nF (Nat.lor L x.bit) fun L => g kept L (putD x.o.dst v a) h (RdE.mk x.i x.bit x.o a v :: pd)) (fun _ _ _ => fun _ _ _ _ _ _ => .no) ) r x g kept L a pd
def passOp : KD → OX → (TypeId → Option TI) → PG → List OX → Nat → Tm → H → List RdE → R := (@KD.rec (fun _ => OX → (TypeId → Option TI) → PG → List OX → Nat → Tm → H → List RdE → R) (fun x Ty g kept L a h pd => pVal x g kept L a pd (xop x.o.op Ty a h)) (fun x Ty g kept L a h pd => pRead x g kept L a pd (xop x.o.op Ty a h)) (fun x Ty g kept L a h pd => pVal x g kept L a pd (xop x.o.op Ty a h)) (fun x _ g kept L a h pd => g (x :: kept) L a h pd) )
def pass1 (x : OX) (Ty : TypeId → Option TI) (ops : Array Oper) (g : PG) (kept : List OX) (L : Nat) (a : Tm) (h : H) (pd : List RdE) : R :=
  bi (Nat.beq (Nat.land x.m L) x.m) (oc .no (fun b => bi b (passOp (kd x.o.op) x Ty g kept L a h pd) (nF (Nat.lor L x.bit) fun L => g kept L (putD x.o.dst (.tup []) a) h pd)) (wants x.o.guard ops a)) (g (x :: kept) L a h pd)
def passF (l : List OX) (Ty : TypeId → Option TI) (ops : Array Oper) (fin : PG) : PG := @List.rec OX (fun _ => PG) fin (fun x _ g => pass1 x Ty ops g) l
def chk1 : XR → RdE → List RdE → Option (List RdE) := (@XR.rec (fun _ => RdE → List RdE → Option (List RdE)) (fun _ _ => none) (fun v _ => fun p l => bi (avEq v p.v) (some (p :: l)) none) (fun _ _ _ => fun _ _ => none) )
def chk (Ty : TypeId → Option TI) (b : Nat) (h : H) (l : List RdE) : Option (List RdE) := @List.rec RdE (fun _ => Option (List RdE)) (some []) (fun p _ r => bi (hasB b p.bit) r (oc none (fun l => chk1 (xop p.o.op Ty p.a h) p l) r)) l
def stage2 (Ty : TypeId → Option TI) (g : Rc) (ops : Array Oper) (e : OX) (r : List OX) (L : Nat) (a : Tm) (pd : List RdE) (v : AV) (h : H) : R := oc .no (fun pd => nF (Nat.lor L e.bit) fun L => g (.draw ops r L pd) (putD e.o.dst v a) h) (chk Ty e.b h pd)
def dret : R → (TypeId → Option TI) → Rc → Array Oper → OX → List OX → Nat → Tm → List RdE → R := (@R.rec (fun _ => (TypeId → Option TI) → Rc → Array Oper → OX → List OX → Nat → Tm → List RdE → R) (fun _ _ _ _ _ _ _ _ => .no) (fun _ _ _ => fun _ _ _ _ _ _ _ _ => .no) (fun v h => fun Ty g ops e r L a pd => stage2 Ty g ops e r L a pd v h) )
def dop : XR → (TypeId → Option TI) → Ovs → Rc → Array Oper → OX → List OX → Nat → Tm → List RdE → R := (@XR.rec (fun _ => (TypeId → Option TI) → Ovs → Rc → Array Oper → OX → List OX → Nat → Tm → List RdE → R) (fun _ _ _ _ _ _ _ _ _ => .no) (fun v h => fun Ty _ g ops e r L a pd => stage2 Ty g ops e r L a pd v h) (fun f args h => fun Ty Ov g ops e r L a pd => dret (callK Ov g f args h) Ty g ops e r L a pd) )
def stage1 (Ty : TypeId → Option TI) (Ov : Ovs) (ops : Array Oper) (g : Rc) (e : OX) (r : List OX) (L : Nat) (a : Tm) (h : H) (pd : List RdE) : R :=
  bi (Nat.beq (Nat.land e.m L) e.m) (bi (allL (fun x => hasB x.b e.bit) r) (oc .no (fun b => bi b (dop (xop e.o.op Ty a h) Ty Ov g ops e r L a pd) .no) (wants e.o.guard ops a)) .no) .no
def stageL (Ty : TypeId → Option TI) (Ov : Ovs) (ops : Array Oper) (g : Rc) (l : List OX) (L : Nat) (a : Tm) (h : H) (pd : List RdE) : R := @List.rec OX (fun _ => R) (.mk .normal a h) (fun e r _ => stage1 Ty Ov ops g e r L a h pd) l
def revL {α : Type} (l : List α) : List α → List α := @List.rec α (fun _ => List α → List α) (fun r => r) (fun x _ g r => g (x :: r)) l
def drawF (l : List OX) (Ty : TypeId → Option TI) (Ov : Ovs) (g : Rc) (ops : Array Oper) (L : Nat) (pd : List RdE) (a : Tm) (h : H) : R := passF l Ty ops (fun kept L a h pd => stageL Ty Ov ops g (revL kept []) L a h pd) [] L a h pd
def one (l : List AV) : AV := @List.rec AV (fun _ => AV) (.tup []) (fun v r _ => @List.rec AV (fun _ => AV) v (fun _ _ _ => .tup l) r) l
def resK (o : Option (List AV)) (h : H) : R := oc .no (fun l => .ret (one l) h) o
def endK : R → Func → (TypeId → Option TI) → R := (@R.rec (fun _ => Func → (TypeId → Option TI) → R) (fun _ _ => .no) (fun e a h => fun fn Ty => (@XE.rec (fun _ => Func → (TypeId → Option TI) → Tm → H → R) (fun fn Ty a h => resK (readL Ty h a fn.results.toList) h) (fun _ => fun _ _ _ _ => .no) (fun _ => fun _ _ _ _ => .no) (fun fn Ty a h => resK (readL Ty h a fn.results.toList) h) ) e fn Ty a h) (fun _ _ => fun _ _ => .no) )
def dstOk (n : Nat) (d : Option Tmp) : Bool := oc true (fun d => Nat.blt d n) d
def opsOk (n : Nat) (l : List Oper) : Bool := @List.rec Oper (fun _ => Bool) true (fun o _ r => bi (dstOk n o.dst) r false) l
def codeOk (n : Nat) : Code → Bool
  | .region _ ops d => bi d (bi (drawOk ops) (opsOk n ops.toList) false) (opsOk n ops.toList)
  | .seq a b => bi (codeOk n a) (codeOk n b) false
  | .cond _ a b => bi (codeOk n a) (codeOk n b) false
  | .block _ c => codeOk n c
  | .loop c => codeOk n c
  | .scope c => codeOk n c
  | _ => true
def fnOk (fn : Func) : Bool := bi (fn.name == "runtime.NumGoroutine") false (oc false (codeOk fn.ntmps) fn.body)
def bodyK (o : Option Code) (g : Rc) (fn : Func) (Ty : TypeId → Option TI) (args : List AV) (h : H) : R := oc .no (fun c => endK (g (.code c) (initT args 0 .e) h) fn Ty) o
def callF (o : Option Func) (g : Rc) (Ty : TypeId → Option TI) (args : List AV) (h : H) : R := oc .no (fun fn => bi (fnOk fn) (bodyK fn.body g fn Ty args h) .no) o
def taskF : Task → (TypeId → Option TI) → (FuncId → Option Func) → Ovs → Rc → Tm → H → R := (@Task.rec (fun _ => (TypeId → Option TI) → (FuncId → Option Func) → Ovs → Rc → Tm → H → R) (fun c => fun _ _ _ g a h => codeF c g a h) (fun b c => fun _ _ _ g a h => scopeK (g (.code c) a h) g b) (fun ops l => fun Ty _ Ov g a h => opsF l Ty Ov g ops a h) (fun f args => fun Ty Fn _ g _ h => callF (Fn f) g Ty args h) (fun ops l L pd => fun Ty _ Ov g a h => drawF l Ty Ov g ops L pd a h) )
def run (Ty : TypeId → Option TI) (Fn : FuncId → Option Func) (Ov : Ovs) (f : Nat) : Rc := @Nat.rec (fun _ => Rc) (fun _ _ _ => .no) (fun _ g t a h => taskF t Ty Fn Ov g a h) f
end
end Go.Proofs.YtknnaeejkmlnbaaGreatDoor.Kx

/- The evaluator's maps and lists: what they hold. -/
namespace Go.Proofs.YtknnaeejkmlnbaaGreatDoor.Kx

@[simp] theorem bi_true {β : Type} (t e : β) : bi true t e = t := rfl
@[simp] theorem bi_false {β : Type} (t e : β) : bi false t e = e := rfl
theorem bi_eq {β : Type} (c : Bool) (t e : β) : bi c t e = if c then t else e := by cases c <;> rfl
@[simp] theorem oc_none {α β : Type} (n : β) (s : α → β) : oc n s none = n := rfl
@[simp] theorem oc_some {α β : Type} (n : β) (s : α → β) (a : α) : oc n s (some a) = s a := rfl
@[simp] theorem nF_eq {β : Type} (n : Nat) (k : Nat → β) : nF n k = k n := by cases n <;> rfl

/-! Maps. -/
def P.val : P → Nat
  | .z => 0
  | .a p => 2 * p.val + 1
  | .b p => 2 * p.val + 2
theorem pthF_val (f k : Nat) (h : k < f) : (pthF f k).val = k := by
  induction f generalizing k with
  | zero => omega
  | succ f ih =>
    show (bi (Nat.beq k 0) P.z (bi (Nat.beq (k % 2) 1) (P.a (pthF f (k / 2))) (P.b (pthF f (k / 2 - 1))))).val = k
    rw [bi_eq, bi_eq]
    by_cases h0 : k = 0
    · subst h0; rfl
    · rw [if_neg (by simp [h0])]
      by_cases h1 : k % 2 = 1
      · rw [if_pos (by simp [h1]), P.val, ih _ (by omega)]; omega
      · rw [if_neg (by simp [h1]), P.val, ih _ (by omega)]; omega
theorem pth_val (k : Nat) : (pth k).val = k := pthF_val _ _ (Nat.lt_succ_self k)
theorem pth_inj {j k : Nat} (h : pth j = pth k) : j = k := by rw [← pth_val j, ← pth_val k, h]
@[simp] theorem getP_nz {α : Type} (v : Option α) (l r : T α) : (T.n v l r).getP .z = v := rfl
@[simp] theorem getP_na {α : Type} (v : Option α) (l r : T α) (p : P) : (T.n v l r).getP (.a p) = l.getP p := rfl
@[simp] theorem getP_nb {α : Type} (v : Option α) (l r : T α) (p : P) : (T.n v l r).getP (.b p) = r.getP p := rfl
@[simp] theorem getP_ee {α : Type} (p : P) : (T.e : T α).getP p = none := rfl
@[simp] theorem setP_ze {α : Type} (x : α) : T.setP x .z .e = .n (some x) .e .e := rfl
@[simp] theorem setP_ae {α : Type} (x : α) (p : P) : T.setP x (.a p) .e = .n none (T.setP x p .e) .e := rfl
@[simp] theorem setP_be {α : Type} (x : α) (p : P) : T.setP x (.b p) .e = .n none .e (T.setP x p .e) := rfl
@[simp] theorem setP_zn {α : Type} (x : α) (v : Option α) (l r : T α) : T.setP x .z (.n v l r) = .n (some x) l r := rfl
@[simp] theorem setP_an {α : Type} (x : α) (p : P) (v : Option α) (l r : T α) : T.setP x (.a p) (.n v l r) = .n v (T.setP x p l) r := rfl
@[simp] theorem setP_bn {α : Type} (x : α) (p : P) (v : Option α) (l r : T α) : T.setP x (.b p) (.n v l r) = .n v l (T.setP x p r) := rfl
theorem getP_setP_same {α : Type} (x : α) (p : P) (t : T α) : (T.setP x p t).getP p = some x := by
  induction p generalizing t with
  | z => cases t <;> simp
  | a p ih => cases t <;> simp [ih]
  | b p ih => cases t <;> simp [ih]
theorem getP_setP_ne {α : Type} (x : α) (p q : P) (t : T α) (h : p ≠ q) : (T.setP x p t).getP q = t.getP q := by
  induction p generalizing t q with
  | z => cases t <;> cases q <;> simp at h ⊢
  | a p ih => cases t <;> cases q <;> simp at h ⊢ <;> exact ih _ _ h
  | b p ih => cases t <;> cases q <;> simp at h ⊢ <;> exact ih _ _ h
theorem get_set {α : Type} (t : T α) (j k : Nat) (x : α) : (t.set j x).get k = if j = k then some x else t.get k := by
  unfold T.set T.get
  by_cases h : j = k
  · subst h; rw [if_pos rfl, getP_setP_same]
  · rw [if_neg h, getP_setP_ne _ _ _ _ (fun e => h (pth_inj e))]
@[simp] theorem get_e {α : Type} (k : Nat) : (T.e : T α).get k = none := rfl

/-! Lists. -/
theorem lenA_eq {α : Type} (l : List α) (n : Nat) : lenA l n = n + l.length := by
  induction l generalizing n with
  | nil => rfl
  | cons a r ih =>
    show nF n (fun n => lenA r (Nat.succ n)) = _
    rw [nF_eq, ih]
    simp
    omega
@[simp] theorem len_eq {α : Type} (l : List α) : len l = l.length := by unfold len; rw [lenA_eq]; simp
@[simp] theorem drp_eq {α : Type} (n : Nat) (l : List α) : drp n l = l.drop n := by
  induction n generalizing l with
  | zero => rfl
  | succ n ih => cases l with
    | nil => rfl
    | cons a r => exact ih r
@[simp] theorem tak_eq {α : Type} (n : Nat) (l : List α) : tak n l = l.take n := by
  induction n generalizing l with
  | zero => rfl
  | succ n ih => cases l with
    | nil => rfl
    | cons a r => exact congrArg (a :: ·) (ih r)
@[simp] theorem idx_eq {α : Type} (n : Nat) (l : List α) : idx n l = l[n]? := by
  induction n generalizing l with
  | zero => cases l <;> rfl
  | succ n ih => cases l with
    | nil => rfl
    | cons a r => rw [List.getElem?_cons_succ]; exact ih r
@[simp] theorem app_eq {α : Type} (x y : List α) : app x y = x ++ y := by
  induction x with
  | nil => rfl
  | cons a r ih => exact congrArg (a :: ·) ih
@[simp] theorem ovr_eq {α : Type} (ys l : List α) : ovr ys l = ys ++ l.drop ys.length := by
  induction ys generalizing l with
  | nil => rfl
  | cons a r ih =>
    show a :: ovr r (drp 1 l) = _
    rw [ih]
    simp
@[simp] theorem putL_eq {α : Type} (ys : List α) (o : Nat) (l : List α) (h : o ≤ l.length) : putL ys o l = l.take o ++ (ys ++ l.drop (o + ys.length)) := by
  induction o generalizing l with
  | zero =>
    show ovr ys l = _
    simp
  | succ o ih => cases l with
    | nil => simp at h
    | cons a r =>
      show a :: putL ys o r = _
      rw [ih r (by simpa using h)]
      simp [Nat.add_right_comm]
theorem sub_some {l : List AV} {o n : Nat} {r : List AV} (h : sub l o n = some r) : o + n ≤ l.length ∧ r = (l.drop o).take n := by
  unfold sub at h
  rw [bi_eq] at h
  split at h
  · rename_i hc
    injection h with h
    simp at hc h
    exact ⟨hc, h.symm⟩
  · cases h
theorem put_some {l ys : List AV} {o : Nat} {r : List AV} (h : put o ys l = some r) : o + ys.length ≤ l.length ∧ r = l.take o ++ (ys ++ l.drop (o + ys.length)) := by
  unfold put at h
  rw [bi_eq] at h
  split at h
  · rename_i hc
    injection h with h
    simp at hc
    rw [putL_eq _ _ _ (by omega)] at h
    exact ⟨hc, h.symm⟩
  · cases h
theorem repl_length (z : List AV) (n : Nat) : (repl z n).length = n * z.length := by
  induction n with
  | zero => show ([] : List AV).length = _; simp
  | succ n ih =>
    show (app z (repl z n)).length = _
    simp [ih]
    rw [Nat.add_mul]
    omega
theorem repl_succ (z : List AV) (n : Nat) : repl z (n + 1) = z ++ repl z n := by
  show app z (repl z n) = _
  simp
end Go.Proofs.YtknnaeejkmlnbaaGreatDoor.Kx

/- What the evaluator's values and heap have to do with the model's: a value is the model's but for the numbers of blocks. -/
namespace Go.Proofs.YtknnaeejkmlnbaaGreatDoor.Kx

/-- Where blocks lie, from which cell on; of those that may grow in place how many elements they hold, and how many cells each has. -/
structure G where
  pos : Nat → Option (Nat × Nat)
  grow : Nat → Option (Nat × Nat)
  /-- What the letters stand for. -/
  env : Nat → Int
  /-- A block that was laid as it is begins where the model's begins. -/
  z : ∀ b B base, pos b = some (B, base) → grow b = none → base = 0
structure G.le (g g' : G) : Prop where
  env : g'.env = g.env
  pos : ∀ b p, g.pos b = some p → g'.pos b = some p
  grow : ∀ b p, g.grow b = some p → g'.grow b = some p
theorem G.le.refl (g : G) : g.le g := ⟨rfl, fun _ _ h => h, fun _ _ h => h⟩
theorem G.le.trans {g g' g'' : G} (h : g.le g') (h' : g'.le g'') : g.le g'' := ⟨h'.env.trans h.env, fun b p e => h'.pos b p (h.pos b p e), fun b p e => h'.grow b p (h.grow b p e)⟩

def one1 : Value → Bool
  | .agg _ => false
  | .tuple _ => false
  | _ => true

mutual
inductive VR (g : G) : AV → Value → Prop where
  | any (v : Value) : VR g .any v
  | bool (b : Bool) : VR g (.bool b) (.bool b)
  | int (k : IntKind) (n : Int) : VR g (.int k n) (.int k n)
  | str (s : ByteArray) : VR g (.str (byteL s.data.toList)) (.string s)
  | nilp : VR g .nilp (.pointer none)
  | ptr (b o B base : Nat) (h : g.pos b = some (B, base)) : VR g (.ptr b o) (.pointer (some ⟨B, base + o, none⟩))
  | nils : VR g .nils (.slice none 0 0)
  | slck (b o n c B base ro : Nat) (h : g.pos b = some (B, base)) (hn : n ≤ c) (hro : 0 < c → ro = base + o) : VR g (.slc b o n (.k c)) (.slice (some ⟨B, ro, none⟩) n c)
  | slcv (b o n k B base c s ro : Nat) (h : g.pos b = some (B, base)) (hg : g.grow b = some (c, s)) (ho : o = k * s) (hn : k + n ≤ c) (hro : k < c → ro = base + o) : VR g (.slc b o n (.v s k)) (.slice (some ⟨B, ro, none⟩) n (c - k))
  | nilm : VR g .nilm (.map none)
  | map (b B : Nat) (h : g.pos b = some (B, 0)) : VR g (.map b) (.map (some B))
  | fn (f : Fn) (x y : List AV) (x' y' : List Value) (hx : VRs g x x') (hy : VRs g y y') : VR g (.fn f x y) (.func f x'.toArray y'.toArray)
  | nilf : VR g .nilf .nilFunc
  | ifc (t : TypeId) (v : AV) (v' : Value) (h : VR g v v') : VR g (.ifc t v) (.iface t v')
  | nili : VR g .nili .nilIface
  | agg (l : List AV) (l' : List Value) (h : VRs g l l') (h1 : ∀ x ∈ l', one1 x = true) : VR g (.agg l) (.agg l'.toArray)
  | tup (l : List AV) (l' : List Value) (h : VRs g l l') : VR g (.tup l) (.tuple l'.toArray)
  | xslc (a : Option Addr) (n c k : Nat) (ge : Bool) (h : k ≤ n) (he : ge = false → n = k) : VR g (.xslc k ge) (.slice a n c)
  | xnat (k n : Nat) (h : k ≤ n) : VR g (.xnat k) (.int .i64 n)
  | xres0 (m : Nat) (r n : Int) (hn : IntKind.i64.wrap n = n) (h : (n % 18446744073709551616) % m = r) : VR g (.xres 0 m r) (.int .i64 n)
  | xres1 (m : Nat) (r n : Int) (h : Int.tmod n m = r) : VR g (.xres 1 m r) (.int .i64 n)
  | xres2 (m : Nat) (r n : Int) (h0 : 0 ≤ n) (h : n % m = r) : VR g (.xres 2 m r) (.int .u64 n)
  | xi (x : Xi) (n : Int) (h : n = x.a * g.env x.k + x.c) (hl : x.lo ≤ n) (hh : n ≤ x.hi) : VR g (.xi x) (.int .i64 n)
  | xz (b n L B base ro c : Nat) (h : g.pos b = some (B, base)) (hn : n ≤ c) (h1 : base ≤ ro) (h2 : ro + n ≤ base + L) : VR g (.xz b n L) (.slice (some ⟨B, ro, none⟩) n c)
inductive VRs (g : G) : List AV → List Value → Prop where
  | nil : VRs g [] []
  | cons (v : AV) (v' : Value) (l : List AV) (l' : List Value) (h : VR g v v') (hs : VRs g l l') : VRs g (v :: l) (v' :: l')
end

section
variable {g g' : G}
mutual
theorem VR.mono (hl : g.le g') : ∀ {v : AV} {v' : Value}, VR g v v' → VR g' v v'
  | _, _, .any v => .any v
  | _, _, .bool b => .bool b
  | _, _, .int k n => .int k n
  | _, _, .str s => .str s
  | _, _, .nilp => .nilp
  | _, _, .ptr b o B base h => .ptr b o B base (hl.pos _ _ h)
  | _, _, .nils => .nils
  | _, _, .slck b o n c B base ro h hn hro => .slck b o n c B base ro (hl.pos _ _ h) hn hro
  | _, _, .slcv b o n k B base c s ro h hg ho hn hro => .slcv b o n k B base c s ro (hl.pos _ _ h) (hl.grow _ _ hg) ho hn hro
  | _, _, .nilm => .nilm
  | _, _, .map b B h => .map b B (hl.pos _ _ h)
  | _, _, .fn f x y x' y' hx hy => .fn f x y x' y' (VRs.mono hl hx) (VRs.mono hl hy)
  | _, _, .nilf => .nilf
  | _, _, .ifc t v v' h => .ifc t v v' (VR.mono hl h)
  | _, _, .nili => .nili
  | _, _, .agg l l' h h1 => .agg l l' (VRs.mono hl h) h1
  | _, _, .tup l l' h => .tup l l' (VRs.mono hl h)
  | _, _, .xslc a n c k ge h he => .xslc a n c k ge h he
  | _, _, .xnat k n h => .xnat k n h
  | _, _, .xres0 m r n hn h => .xres0 m r n hn h
  | _, _, .xres1 m r n h => .xres1 m r n h
  | _, _, .xres2 m r n h0 h => .xres2 m r n h0 h
  | _, _, .xi x n h h1 h2 => .xi x n (by rw [hl.env]; exact h) h1 h2
  | _, _, .xz b n L B base ro c h hn h1 h2 => .xz b n L B base ro c (hl.pos _ _ h) hn h1 h2
theorem VRs.mono (hl : g.le g') : ∀ {l : List AV} {l' : List Value}, VRs g l l' → VRs g' l l'
  | _, _, .nil => .nil
  | _, _, .cons v v' l l' h hs => .cons v v' l l' (VR.mono hl h) (VRs.mono hl hs)
end
theorem VRs.length {l : List AV} {l' : List Value} (h : VRs g l l') : l.length = l'.length := by
  induction l generalizing l' with
  | nil => cases h; rfl
  | cons a r ih => cases h with | cons _ _ _ _ h hs => simp [ih hs]
theorem VRs.at {l : List AV} {l' : List Value} (h : VRs g l l') {i : Nat} {v : AV} (hv : l[i]? = some v) : ∃ v', l'[i]? = some v' ∧ VR g v v' := by
  induction l generalizing l' i with
  | nil => simp at hv
  | cons a r ih => cases h with
    | cons _ a' _ r' h hs => cases i with
      | zero => simp at hv; subst hv; exact ⟨a', rfl, h⟩
      | succ i => simpa using ih hs (by simpa using hv)
theorem VRs.of_at {l : List AV} {l' : List Value} (hn : l.length = l'.length) (h : ∀ (i : Nat) (v : AV), l[i]? = some v → ∃ v' : Value, l'[i]? = some v' ∧ VR g v v') : VRs g l l' := by
  induction l generalizing l' with
  | nil => cases l' with | nil => exact .nil | cons => simp at hn
  | cons a r ih => cases l' with
    | nil => simp at hn
    | cons a' r' =>
      obtain ⟨v', e, hv⟩ := h 0 a rfl
      simp at e; subst e
      exact .cons _ _ _ _ hv (ih (by simpa using hn) (fun i v hi => by simpa using h (i + 1) v (by simpa using hi)))
theorem VRs.append {x y : List AV} {x' y' : List Value} (hx : VRs g x x') (hy : VRs g y y') : VRs g (x ++ y) (x' ++ y') := by
  induction x generalizing x' with
  | nil => cases hx; exact hy
  | cons a r ih => cases hx with | cons _ _ _ _ h hs => exact .cons _ _ _ _ h (ih hs)
theorem VRs.take {x : List AV} {x' : List Value} (hx : VRs g x x') (n : Nat) : VRs g (x.take n) (x'.take n) := by
  induction x generalizing x' n with
  | nil => cases hx; simp; exact .nil
  | cons a r ih => cases hx with
    | cons _ _ _ _ h hs => cases n with
      | zero => exact .nil
      | succ n => exact .cons _ _ _ _ h (ih hs n)
theorem VRs.drop {x : List AV} {x' : List Value} (hx : VRs g x x') (n : Nat) : VRs g (x.drop n) (x'.drop n) := by
  induction x generalizing x' n with
  | nil => cases hx; simp; exact .nil
  | cons a r ih => cases n with
    | zero => exact hx
    | succ n => cases hx with | cons _ _ _ _ h hs => exact ih hs n
end

/-- A row of cells. -/
structure CR (g : G) (b B base : Nat) (l : List AV) (t : TypeId) (w : World) : Prop where
  ex : ∃ cs fr, w.heap[B]? = some (.cells cs t fr) ∧ (∀ i : Nat, ¬ (fr.1 ≤ i ∧ i < fr.2)) ∧ base + l.length ≤ cs.size ∧
    (∀ i v, l[i]? = some v → ∃ v', cs[base + i]? = some v' ∧ VR g v v' ∧ one1 v' = true) ∧
    (∀ c s, g.grow b = some (c, s) → 0 < s ∧ l.length ≤ c * s ∧ base + c * s ≤ cs.size)
/-- Entries of a map. -/
inductive ER (g : G) : List (AV × AV × Nat) → List MapEntry → Prop where
  | nil : ER g [] []
  | cons (k v : AV) (n : Nat) (k' v' : Value) (l : List (AV × AV × Nat)) (l' : List MapEntry) (hk : VR g k k') (hv : VR g v v') (hs : ER g l l') : ER g ((k, v, n) :: l) (⟨k', v', n⟩ :: l')
theorem ER.mono {g g' : G} (hl : g.le g') {l : List (AV × AV × Nat)} {l' : List MapEntry} (h : ER g l l') : ER g' l l' := by
  induction h with
  | nil => exact .nil
  | cons k v n k' v' l l' hk hv _ ih => exact .cons k v n k' v' l l' (hk.mono hl) (hv.mono hl) ih

/-- Iterators. -/
inductive IR (g : G) : It → Obj → Prop where
  | s (l : List Nat) (pos : Nat) (s : ByteArray) (h : l = byteL s.data.toList) : IR g (.s l pos) (.stringIter s pos)
  | m (b M since : Nat) (seen : List Nat) (last : Nat) (h : g.pos b = some (M, 0)) : IR g (.m b since seen last) (.mapIter (some M) since seen.toArray last)
  | b (m M : Nat) (t : TypeId) (h : g.pos m = some (M, 0)) : IR g (.b m t) (.cells #[.map (some M)] t (0, 0))
theorem IR.mono {g g' : G} (hl : g.le g') {it : It} {ob : Obj} (h : IR g it ob) : IR g' it ob := by
  cases h with
  | s l pos s h => exact .s l pos s h
  | m b M since seen last h => exact .m b M since seen last (hl.pos _ _ h)
  | b m M t h => exact .b m M t (hl.pos _ _ h)
def live (h : H) (b : Nat) : Prop := ∃ o, h.m.get b = some o ∧ o ≠ .dead
structure HR (B0 : Nat) (g : G) (h : H) (w : World) : Prop where
  cells : ∀ b l t B base, h.m.get b = some (.cells l t) → g.pos b = some (B, base) → CR g b B base l t w
  maps : ∀ b es clock B base, h.m.get b = some (.map es clock) → g.pos b = some (B, base) → base = 0 ∧ ∃ es', w.heap[B]? = some (.map es' clock) ∧ ER g es es'.toList
  sits : ∀ b it B base, h.m.get b = some (.sit it) → g.pos b = some (B, base) → base = 0 ∧ ∃ ob, w.heap[B]? = some ob ∧ IR g it ob
  inj : ∀ b b' B base base', live h b → live h b' → g.pos b = some (B, base) → g.pos b' = some (B, base') → b = b'
  low : ∀ b B base, live h b → g.pos b = some (B, base) → B0 ≤ B
  bnd : ∀ b B base, g.pos b = some (B, base) → B < w.heap.size
/-- No block from the next on. -/
structure Fresh (g : G) (h : H) : Prop where
  m : ∀ b, h.next ≤ b → h.m.get b = none
  pos : ∀ b, h.next ≤ b → g.pos b = none
  grow : ∀ b, h.next ≤ b → g.grow b = none

/-- From one state to a later one. -/
structure Tr (B0 : Nat) (g : G) (h : H) (w : World) (g' : G) (h' : H) (w' : World) : Prop where
  hr : HR B0 g' h' w'
  le : g.le g'
  old : ∀ b, b < h.next ∨ h'.next ≤ b → g'.pos b = g.pos b ∧ g'.grow b = g.grow b
  next : h.next ≤ h'.next
  size : w.heap.size ≤ w'.heap.size
  frame : ∀ B, B < w.heap.size → (∀ b base, live h b → g.pos b = some (B, base) → False) → w'.heap[B]? = w.heap[B]?
  afr : ∀ b o, b < h.next → h.m.get b = some o → g.pos b = none → h'.m.get b = some o
  lv : ∀ b, b < h.next → live h' b → live h b
  far : ∀ b, h'.next ≤ b → h'.m.get b = h.m.get b
  new : ∀ b, h.next ≤ b → b < h'.next → g.pos b = none ∧ g.grow b = none
  newp : ∀ b B base, g.pos b = none → g'.pos b = some (B, base) → w.heap.size ≤ B ∨ ∃ b0 base0, live h b0 ∧ g.pos b0 = some (B, base0)
  os : w'.os = w.os
  tape : w'.tape = w.tape
  output : w'.output = w.output

theorem Tr.refl {B0 : Nat} {g : G} {h : H} {w : World} (hr : HR B0 g h w) : Tr B0 g h w g h w :=
  ⟨hr, .refl g, fun _ _ => ⟨rfl, rfl⟩, Nat.le_refl _, Nat.le_refl _, fun _ _ _ => rfl, fun _ _ _ h _ => h, fun _ _ h => h, fun _ _ => rfl, fun _ _ _ => by omega, fun b B base h h' => (by rw [h] at h'; cases h'), rfl, rfl, rfl⟩
theorem HR.world {B0 : Nat} {g : G} {h : H} {w w' : World} (hr : HR B0 g h w) (hw : w'.heap = w.heap) : HR B0 g h w' :=
  ⟨fun b l t B base h1 h2 => ⟨by rw [hw]; exact (hr.cells b l t B base h1 h2).ex⟩, fun b es c B base h1 h2 => by rw [hw]; exact hr.maps b es c B base h1 h2, fun b it B base h1 h2 => by rw [hw]; exact hr.sits b it B base h1 h2, hr.inj, hr.low, fun b B base h => by rw [hw]; exact hr.bnd b B base h⟩
theorem Tr.drew {B0 : Nat} {g : G} {h : H} {w : World} (hr : HR B0 g h w) (n : Nat) : Tr B0 g h w g h { w with drawn := n } :=
  ⟨hr.world rfl, .refl g, fun _ _ => ⟨rfl, rfl⟩, Nat.le_refl _, Nat.le_refl _, fun _ _ _ => rfl, fun _ _ _ h _ => h, fun _ _ h => h, fun _ _ => rfl, fun _ _ _ => by omega, fun b B base h h' => (by rw [h] at h'; cases h'), rfl, rfl, rfl⟩
theorem Tr.live_old {B0 : Nat} {g g' : G} {h h' : H} {w w' : World} (t : Tr B0 g h w g' h' w') {b : Nat} {p : Nat × Nat} (hl : live h' b) (hg : g.pos b = some p) : live h b := by
  rcases Nat.lt_or_ge b h.next with hb | hb
  · exact t.lv b hb hl
  · rcases Nat.lt_or_ge b h'.next with hb' | hb'
    · rw [(t.new b hb hb').1] at hg; cases hg
    · obtain ⟨o, ho, hd⟩ := hl
      rw [t.far b hb'] at ho
      exact ⟨o, ho, hd⟩
theorem Tr.pos_old {B0 : Nat} {g g' : G} {h h' : H} {w w' : World} (t : Tr B0 g h w g' h' w') {b : Nat} {p q : Nat × Nat} (hg : g.pos b = some p) (hg' : g'.pos b = some q) : p = q := by
  have := t.le.pos _ _ hg
  rw [hg'] at this
  injection this with this
  exact this.symm
theorem Tr.trans {B0 : Nat} {g g' g'' : G} {h h' h'' : H} {w w' w'' : World} (t : Tr B0 g h w g' h' w') (u : Tr B0 g' h' w' g'' h'' w'') : Tr B0 g h w g'' h'' w'' where
  hr := u.hr
  le := t.le.trans u.le
  old := fun b hb => by
    have hn := t.next; have hn' := u.next
    have h1 := u.old b (by omega)
    have h2 := t.old b (by omega)
    exact ⟨h1.1.trans h2.1, h1.2.trans h2.2⟩
  next := Nat.le_trans t.next u.next
  size := Nat.le_trans t.size u.size
  frame := fun B hB hno => by
    rw [u.frame B (by have := t.size; omega) (fun b base hl hp => ?_)]
    · exact t.frame B hB hno
    · rcases hg : g.pos b with _ | ⟨B1, base1⟩
      · rcases t.newp b B base hg hp with h1 | ⟨b0, base0, h1, h2⟩
        · omega
        · exact hno b0 base0 h1 h2
      · have e := t.pos_old hg hp
        injection e with e1 e2
        subst e1
        exact hno b base1 (t.live_old hl hg) hg
  afr := fun b o hb ho hg => u.afr b o (by have := t.next; omega) (t.afr b o hb ho hg) (by rw [(t.old b (.inl hb)).1]; exact hg)
  lv := fun b hb hl => t.lv b hb (u.lv b (by have := t.next; omega) hl)
  far := fun b hb => by have := u.next; rw [u.far b hb, t.far b (by omega)]
  new := fun b hb hb' => by
    rcases Nat.lt_or_ge b h'.next with h1 | h1
    · exact t.new b hb h1
    · have h2 := u.new b h1 hb'
      have h3 := t.old b (.inr h1)
      exact ⟨h3.1.symm.trans h2.1, h3.2.symm.trans h2.2⟩
  newp := fun b B base hg hp => by
    rcases hg' : g'.pos b with _ | ⟨B1, base1⟩
    · rcases u.newp b B base hg' hp with h1 | ⟨b0, base0, h1, h2⟩
      · left; have := t.size; omega
      · rcases hg0 : g.pos b0 with _ | ⟨B2, base2⟩
        · exact t.newp b0 B base0 hg0 h2
        · have e := t.pos_old hg0 h2
          injection e with e1 e2
          subst e1
          exact .inr ⟨b0, base2, t.live_old h1 hg0, hg0⟩
    · have e := u.pos_old hg' hp
      injection e with e1 e2
      subst e1
      exact t.newp b _ _ hg hg'
  os := u.os.trans t.os
  tape := u.tape.trans t.tape
  output := u.output.trans t.output
theorem Fresh.tr {B0 : Nat} {g g' : G} {h h' : H} {w w' : World} (f : Fresh g h) (t : Tr B0 g h w g' h' w') : Fresh g' h' where
  m := fun b hb => by rw [t.far b hb]; exact f.m b (Nat.le_trans t.next hb)
  pos := fun b hb => by rw [(t.old b (.inr hb)).1]; exact f.pos b (Nat.le_trans t.next hb)
  grow := fun b hb => by rw [(t.old b (.inr hb)).2]; exact f.grow b (Nat.le_trans t.next hb)

/-! A new block; a block written. -/
def G.add (g : G) (b B base : Nat) (gr : Option (Nat × Nat)) (hz : gr = none → base = 0 := by first | (intro h; cases h; done) | (intro _; rfl)) : G where
  pos := fun x => if x = b then some (B, base) else g.pos x
  grow := fun x => if x = b then gr else g.grow x
  env := g.env
  z := fun x B' base' h1 h2 => by
    by_cases e : x = b
    · rw [if_pos e] at h1 h2
      injection h1 with h1
      injection h1 with _ h1
      rw [← h1]
      exact hz h2
    · rw [if_neg e] at h1 h2
      exact g.z x B' base' h1 h2
theorem G.add_le (g : G) (b B base : Nat) (gr : Option (Nat × Nat)) (h : g.pos b = none) (h' : g.grow b = none) (hz : gr = none → base = 0 := by first | (intro h; cases h; done) | (intro _; rfl)) : g.le (g.add b B base gr hz) where
  env := rfl
  pos := fun x p hx => by
    show (if x = b then _ else _) = _
    rw [if_neg (fun e => by subst e; rw [h] at hx; cases hx)]; exact hx
  grow := fun x p hx => by
    show (if x = b then _ else _) = _
    rw [if_neg (fun e => by subst e; rw [h'] at hx; cases hx)]; exact hx
theorem CR.mono {g g' : G} {b B base : Nat} {l : List AV} {t : TypeId} {w w' : World} (h : CR g b B base l t w) (hl : g.le g') (hg : g'.grow b = g.grow b) (hw : w'.heap[B]? = w.heap[B]?) : CR g' b B base l t w' := by
  obtain ⟨cs, fr, h1, h2, h3, h4, h5⟩ := h.ex
  exact ⟨cs, fr, hw.trans h1, h2, h3, fun i v hv => by
    obtain ⟨v', e, hr, ho⟩ := h4 i v hv
    exact ⟨v', e, hr.mono hl, ho⟩, fun c s hc => h5 c s (hg ▸ hc)⟩
/-- The next block is new in the model too. -/
theorem Tr.alloc {B0 : Nat} {g : G} {h : H} {w w1 : World} (hr : HR B0 g h w) (hB : B0 ≤ w.heap.size) (hp : g.pos h.next = none) (hg : g.grow h.next = none)
    (o : AObj) (ob : Obj) (gr : Option (Nat × Nat)) (hh : w1.heap = w.heap.push ob) (hos : w1.os = w.os) (ht : w1.tape = w.tape) (hou : w1.output = w.output)
    (hc : ∀ l t, o = .cells l t → CR (g.add h.next w.heap.size 0 gr) h.next w.heap.size 0 l t w1)
    (hmp : ∀ es clock, o = .map es clock → ∃ es', ob = .map es' clock ∧ ER g es es'.toList)
    (hsi : ∀ it, o = .sit it → IR (g.add h.next w.heap.size 0 gr) it ob := by intro _ e; cases e) :
    Tr B0 g h w (g.add h.next w.heap.size 0 gr) ⟨h.m.set h.next o, Nat.succ h.next⟩ w1 where
  hr := by
    have hle := G.add_le g h.next w.heap.size 0 gr hp hg
    have hold : ∀ B, B < w.heap.size → w1.heap[B]? = w.heap[B]? := fun B hB => by rw [hh, Array.getElem?_push_lt hB, Array.getElem?_eq_getElem hB]
    have hnew : w1.heap[w.heap.size]? = some ob := by rw [hh]; simp
    have hposne : ∀ x, x ≠ h.next → (g.add h.next w.heap.size 0 gr).pos x = g.pos x := fun x hx => if_neg hx
    have hposeq : (g.add h.next w.heap.size 0 gr).pos h.next = some (w.heap.size, 0) := if_pos rfl
    refine ⟨fun b l t B base h1 h2 => ?_, fun b es c B base h1 h2 => ?_, fun b it B base h1 h2 => ?_, fun b b' B base base' h1 h2 h3 h4 => ?_, fun b B base h1 h2 => ?_, fun b B base h1 => ?_⟩
    · rw [get_set] at h1
      by_cases e : h.next = b
      · subst e
        rw [if_pos rfl] at h1
        rw [hposeq] at h2
        injection h2 with h2
        injection h2 with e1 e2
        subst e1; subst e2
        injection h1 with h1
        exact hc l t h1
      · rw [if_neg e] at h1
        rw [hposne b (fun e' => e e'.symm)] at h2
        exact (hr.cells b l t B base h1 h2).mono hle (if_neg (fun e' => e e'.symm)) (hold B (hr.bnd b B base h2))
    · rw [get_set] at h1
      by_cases e : h.next = b
      · subst e
        rw [if_pos rfl] at h1
        rw [hposeq] at h2
        injection h2 with h2
        injection h2 with e1 e2
        subst e1; subst e2
        injection h1 with h1
        obtain ⟨es', e1, e2⟩ := hmp es c h1
        exact ⟨rfl, es', by rw [hnew, e1], e2.mono hle⟩
      · rw [if_neg e] at h1
        rw [hposne b (fun e' => e e'.symm)] at h2
        obtain ⟨e0, es', e1, e2⟩ := hr.maps b es c B base h1 h2
        exact ⟨e0, es', (hold B (hr.bnd b B base h2)).trans e1, e2.mono hle⟩
    · rw [get_set] at h1
      by_cases e : h.next = b
      · subst e
        rw [if_pos rfl] at h1
        rw [hposeq] at h2
        injection h2 with h2
        injection h2 with e1 e2
        subst e1; subst e2
        injection h1 with h1
        exact ⟨rfl, ob, hnew, hsi it h1⟩
      · rw [if_neg e] at h1
        rw [hposne b (fun e' => e e'.symm)] at h2
        obtain ⟨e0, s, e1, e2⟩ := hr.sits b it B base h1 h2
        exact ⟨e0, s, (hold B (hr.bnd b B base h2)).trans e1, e2.mono hle⟩
    · by_cases e : b = h.next
      · by_cases e' : b' = h.next
        · rw [e, e']
        · subst e
          rw [hposeq] at h3
          injection h3 with h3
          injection h3 with e1 e2
          rw [hposne b' e'] at h4
          have := hr.bnd _ _ _ h4
          omega
      · rw [hposne b e] at h3
        by_cases e' : b' = h.next
        · subst e'
          rw [hposeq] at h4
          injection h4 with h4
          injection h4 with e1 e2
          have := hr.bnd _ _ _ h3
          omega
        · rw [hposne b' e'] at h4
          obtain ⟨o1, h1, h1'⟩ := h1
          obtain ⟨o2, h2, h2'⟩ := h2
          rw [get_set, if_neg (fun x => e x.symm)] at h1
          rw [get_set, if_neg (fun x => e' x.symm)] at h2
          exact hr.inj b b' B base base' ⟨o1, h1, h1'⟩ ⟨o2, h2, h2'⟩ h3 h4
    · by_cases e : b = h.next
      · subst e
        rw [hposeq] at h2
        injection h2 with h2
        injection h2 with e1 e2
        omega
      · rw [hposne b e] at h2
        obtain ⟨o1, h1, h1'⟩ := h1
        rw [get_set, if_neg (fun x => e x.symm)] at h1
        exact hr.low b B base ⟨o1, h1, h1'⟩ h2
    · have : w1.heap.size = w.heap.size + 1 := by rw [hh]; simp
      by_cases e : b = h.next
      · subst e
        rw [hposeq] at h1
        injection h1 with h1
        injection h1 with e1 e2
        omega
      · rw [hposne b e] at h1
        have := hr.bnd _ _ _ h1
        omega
  le := G.add_le g h.next w.heap.size 0 gr hp hg
  old := fun b hb => by
    have hb : b < h.next ∨ h.next + 1 ≤ b := hb
    have hne : b ≠ h.next := by omega
    exact ⟨if_neg hne, if_neg hne⟩
  next := Nat.le_succ _
  size := by rw [hh]; simp
  frame := fun B hB _ => by rw [hh, Array.getElem?_push_lt hB, Array.getElem?_eq_getElem hB]
  afr := fun b o' hb ho _ => by rw [get_set, if_neg (by omega)]; exact ho
  lv := fun b hb hl => by
    obtain ⟨o1, h1, h1'⟩ := hl
    rw [get_set, if_neg (by omega)] at h1
    exact ⟨o1, h1, h1'⟩
  far := fun b hb => by
    have hb : h.next + 1 ≤ b := hb
    rw [get_set, if_neg (by omega)]
  new := fun b hb hb' => by
    have hb' : b < h.next + 1 := hb'
    have : b = h.next := by omega
    subst this
    exact ⟨hp, hg⟩
  newp := fun b B base h1 h2 => by
    by_cases e : b = h.next
    · subst e
      have : (some (w.heap.size, 0) : Option (Nat × Nat)) = some (B, base) := by rw [← h2]; exact (if_pos rfl).symm
      injection this with this
      injection this with e1 e2
      left; omega
    · have : g.pos b = some (B, base) := by rw [← h2]; exact (if_neg e).symm
      rw [h1] at this; cases this
  os := hos
  tape := ht
  output := hou
/-- A block that is there is written. -/
theorem Tr.write {B0 : Nat} {g : G} {h : H} {w w1 : World} (hr : HR B0 g h w) (b B base : Nat) (hl : live h b) (hb : b < h.next) (hp : g.pos b = some (B, base))
    (o : AObj) (hother : ∀ B', B' ≠ B → w1.heap[B']? = w.heap[B']?) (hsz : w1.heap.size = w.heap.size) (hos : w1.os = w.os) (ht : w1.tape = w.tape) (hou : w1.output = w.output)
    (hc : ∀ l t, o = .cells l t → CR g b B base l t w1)
    (hmp : ∀ es clock, o = .map es clock → base = 0 ∧ ∃ es', w1.heap[B]? = some (.map es' clock) ∧ ER g es es'.toList)
    (hsi : ∀ it, o = .sit it → base = 0 ∧ ∃ ob, w1.heap[B]? = some ob ∧ IR g it ob := by intro _ e; cases e) :
    Tr B0 g h w g (h.upd b o) w1 := by
  have hlv : ∀ x, live (h.upd b o) x → live h x := fun x ⟨o1, h1, h1'⟩ => by
    have h1 : (h.m.set b o).get x = some o1 := h1
    rw [get_set] at h1
    by_cases e : b = x
    · subst e; exact hl
    · rw [if_neg e] at h1; exact ⟨o1, h1, h1'⟩
  have hne : ∀ x X basex, x ≠ b → live h x → g.pos x = some (X, basex) → X ≠ B := fun x X basex hx hlx hpx e => by
    subst e
    exact hx (hr.inj x b X basex base hlx hl hpx hp)
  refine ⟨⟨fun x l t X basex h1 h2 => ?_, fun x es c X basex h1 h2 => ?_, fun x it X basex h1 h2 => ?_, fun x x' X b1 b2 h1 h2 h3 h4 => hr.inj x x' X b1 b2 (hlv x h1) (hlv x' h2) h3 h4, fun x X b1 h1 h2 => hr.low x X b1 (hlv x h1) h2, fun x X b1 h1 => by rw [hsz]; exact hr.bnd x X b1 h1⟩,
    .refl g, fun _ _ => ⟨rfl, rfl⟩, Nat.le_refl _, by rw [hsz]; exact Nat.le_refl _, fun X _ hno => hother X (fun e => by subst e; exact hno b base hl hp), fun x o' hx ho hg => ?_, fun x _ hx => hlv x hx, fun x hx => ?_, fun x h1 h2 => ?_, fun x X b1 h1 h2 => (by rw [h1] at h2; cases h2), hos, ht, hou⟩
  · have h1 : (h.m.set b o).get x = some (.cells l t) := h1
    rw [get_set] at h1
    by_cases e : b = x
    · subst e
      rw [if_pos rfl] at h1
      rw [hp] at h2
      injection h2 with h2
      injection h2 with e1 e2
      subst e1; subst e2
      injection h1 with h1
      exact hc l t h1
    · rw [if_neg e] at h1
      exact (hr.cells x l t X basex h1 h2).mono (.refl g) rfl (hother X (hne x X basex (fun e' => e e'.symm) ⟨_, h1, by simp⟩ h2))
  · have h1 : (h.m.set b o).get x = some (.map es c) := h1
    rw [get_set] at h1
    by_cases e : b = x
    · subst e
      rw [if_pos rfl] at h1
      rw [hp] at h2
      injection h2 with h2
      injection h2 with e1 e2
      subst e1; subst e2
      injection h1 with h1
      exact hmp es c h1
    · rw [if_neg e] at h1
      obtain ⟨e0, es', e1, e2⟩ := hr.maps x es c X basex h1 h2
      exact ⟨e0, es', (hother X (hne x X basex (fun e' => e e'.symm) ⟨_, h1, by simp⟩ h2)).trans e1, e2⟩
  · have h1 : (h.m.set b o).get x = some (.sit it) := h1
    rw [get_set] at h1
    by_cases e : b = x
    · subst e
      rw [if_pos rfl] at h1
      rw [hp] at h2
      injection h2 with h2
      injection h2 with e1 e2
      subst e1; subst e2
      injection h1 with h1
      exact hsi it h1
    · rw [if_neg e] at h1
      obtain ⟨e0, s, e1, e2⟩ := hr.sits x it X basex h1 h2
      exact ⟨e0, s, (hother X (hne x X basex (fun e' => e e'.symm) ⟨_, h1, by simp⟩ h2)).trans e1, e2⟩
  · show (h.m.set b o).get x = _
    rw [get_set, if_neg (fun e => by subst e; rw [hp] at hg; cases hg)]
    exact ho
  · have hx : h.next ≤ x := hx
    show (h.m.set b o).get x = _
    rw [get_set, if_neg (by omega)]
  · have h2 : x < h.next := h2
    omega
end Go.Proofs.YtknnaeejkmlnbaaGreatDoor.Kx

/- The evaluator's operations do what the model's do: without writing, and new blocks. -/
namespace Go.Proofs.YtknnaeejkmlnbaaGreatDoor.Kx

section
variable {P : Program} {B0 : Nat} {g : G} {h : H} {w : World}

/-- A value that an operation gives. -/
def VG (P : Program) (B0 : Nat) (g : G) (h : H) (w : World) (s : Sem Value) : XR → Prop
  | .no => True
  | .val v h' => ∃ v' w' g', s.run P w = .ok v' w' ∧ VR g' v v' ∧ Tr B0 g h w g' h' w'
  | .call _ _ _ => False
theorem VG.same (hr : HR B0 g h w) {s : Sem Value} {v : AV} {v' : Value} (hs : s.run P w = .ok v' w) (hv : VR g v v') : VG P B0 g h w s (.val v h) := ⟨v', w, g, hs, hv, .refl hr⟩

theorem asBool_some {x : AV} {b : Bool} (e : asBool x = some b) : x = .bool b := by cases x <;> first | (injection e with e; subst e; rfl) | cases e
theorem asInt_some {x : AV} {p : IntKind × Int} (e : asInt x = some p) : x = .int p.1 p.2 := by cases x <;> first | (injection e with e; subst e; rfl) | cases e
theorem asXnat_some {x : AV} {n : Nat} (e : asXnat x = some n) : x = .xnat n := by cases x <;> first | (injection e with e; subst e; rfl) | cases e
theorem asXi_some {x : AV} {z : Xi} (e : asXi x = some z) : x = .xi z := by cases x <;> first | (injection e with e; subst e; rfl) | cases e
theorem asXres_some {x : AV} {r : Xr} (e : asXres x = some r) : x = .xres r.k r.m r.r := by cases x <;> first | (injection e with e; subst e; rfl) | cases e
theorem asStr_some {x : AV} {l : List Nat} (e : asStr x = some l) : x = .str l := by cases x <;> first | (injection e with e; subst e; rfl) | cases e
theorem asPtr_some {x : AV} {p : Nat × Nat} (e : asPtr x = some p) : x = .ptr p.1 p.2 := by cases x <;> first | (injection e with e; subst e; rfl) | cases e
theorem asSlc_some {x : AV} {s : Slc} (e : asSlc x = some s) : x = .slc s.b s.o s.len s.cap := by cases x <;> first | (injection e with e; subst e; rfl) | cases e
theorem asMap_some {x : AV} {b : Nat} (e : asMap x = some b) : x = .map b := by cases x <;> first | (injection e with e; subst e; rfl) | cases e
theorem asAgg_some {x : AV} {l : List AV} (e : asAgg x = some l) : x = .agg l := by cases x <;> first | (injection e with e; subst e; rfl) | cases e
theorem asTup_some {x : AV} {l : List AV} (e : asTup x = some l) : x = .tup l := by cases x <;> first | (injection e with e; subst e; rfl) | cases e
theorem isNils_true {x : AV} (e : isNils x = true) : x = .nils := by cases x <;> first | rfl | cases e
theorem isNilm_true {x : AV} (e : isNilm x = true) : x = .nilm := by cases x <;> first | rfl | cases e
theorem intNat_some {x : AV} {n : Nat} (e : intNat x = some n) : ∃ k, x = .int k n := by
  cases x <;> first | (exact absurd e (by intro e; cases e)) | skip
  rename_i k z
  cases z with
  | ofNat m => injection e with e; subst e; exact ⟨k, rfl⟩
  | negSucc m => cases e
theorem objCells_some {o : Option AObj} {c : List AV × TypeId} (e : objCells o = some c) : o = some (.cells c.1 c.2) := by
  cases o with
  | none => cases e
  | some o => cases o <;> first | (injection e with e; subst e; rfl) | cases e
theorem objMap_some {o : Option AObj} {m : Mp} (e : objMap o = some m) : o = some (.map m.es m.clock) := by
  cases o with
  | none => cases e
  | some o => cases o <;> first | (injection e with e; subst e; rfl) | cases e
theorem elemK_some {k : TK} {e : TypeId} (h : elemK k = some e) : k = .slice e := by cases k <;> first | (injection h with h; subst h; rfl) | cases h
theorem mapK_some {k : TK} {q : TypeId × TypeId} (h : mapK k = some q) : k = .map q.1 q.2 := by cases k <;> first | (injection h with h; subst h; rfl) | cases h

/-! Constants. -/
theorem ofV1_VR (g : G) (v : Value) : VR g (ofV1 v) v := by
  cases v with
  | bool b => exact .bool b
  | int k n => exact .int k n
  | string s => exact .str s
  | pointer a => cases a with
    | none => exact .nilp
    | some a => exact .any _
  | slice a n c => cases a with
    | none =>
      show VR g (zz n c) _
      unfold zz
      rw [bi_eq, bi_eq]
      split
      · split
        · rename_i h1 h2
          have h1 : n = 0 := by simpa using h1
          have h2 : c = 0 := by simpa using h2
          subst h1; subst h2
          exact .nils
        · exact .any _
      · exact .any _
    | some a => exact .any _
  | map r => cases r with
    | none => exact .nilm
    | some a => exact .any _
  | nilFunc => exact .nilf
  | nilIface => exact .nili
  | _ => exact .any _
theorem ofVs_VRs (g : G) (l : List Value) : VRs g (ofVs l) l := by
  induction l with
  | nil => exact .nil
  | cons a r ih => exact .cons _ _ _ _ (ofV1_VR g a) ih
theorem ofV_eq (v : Value) : (∃ cs, v = .agg cs) ∨ ofV v = ofV1 v := by
  cases v <;> first | exact .inr rfl | exact .inl ⟨_, rfl⟩
theorem cellOk_one {v : AV} {v' : Value} (hc : cellOk v = true) (hv : VR g v v') : one1 v' = true := by
  cases hv <;> first | rfl | cases hc
theorem allCell_one {l : List AV} {l' : List Value} (hc : allCell l = true) (hv : VRs g l l') : ∀ x ∈ l', one1 x = true := by
  induction l generalizing l' with
  | nil => cases hv; intro x hx; cases hx
  | cons a r ih =>
    cases hv with | cons _ a' _ r' h hs =>
    have hc : bi (cellOk a) (allCell r) false = true := hc
    rw [bi_eq] at hc
    split at hc
    · rename_i h1
      intro x hx
      rcases List.mem_cons.1 hx with rfl | hx
      · exact cellOk_one h1 h
      · exact ih hc hs x hx
    · cases hc
theorem ofV_VR (g : G) (v : Value) : VR g (ofV v) v := by
  rcases ofV_eq v with ⟨cs, rfl⟩ | e
  · show VR g (aggC (ofVs cs.toList)) _
    unfold aggC
    cases hc : allCell (ofVs cs.toList)
    · exact .any _
    · exact .agg (ofVs cs.toList) cs.toList (ofVs_VRs g cs.toList) (allCell_one hc (ofVs_VRs g cs.toList))
  · rw [e]
    exact ofV1_VR g v

/-! Types. -/
structure TOk (P : Program) (t : TypeId) (ti : TI) : Prop where
  ex : ∃ i d z, P.info? t = some i ∧ P.underlying t = some d ∧ i.zero = some z ∧ ti = ⟨kOf d, i.size, i.bytes, zeroCellsOf z, eqsOf P t d⟩ ∧ allCell (zeroCellsOf z) = true ∧ (zeroCellsOf z).length = i.size ∧ isAgg (kOf d) = isAggV z
theorem mkTI_some {t : TypeId} {ti : TI} (e : mkTI P t = some ti) : TOk P t ti := by
  unfold mkTI at e
  cases hi : P.info? t with
  | none => rw [hi] at e; cases e
  | some i =>
    cases hd : P.underlying t with
    | none => rw [hi, hd] at e; cases e
    | some d =>
      cases hz : i.zero with
      | none => rw [hi, hd] at e; simp only [oc_some, hz] at e; cases e
      | some z =>
        rw [hi, hd] at e
        simp only [oc_some, hz] at e
        cases ha : allCell (zeroCellsOf z)
        · rw [ha] at e; cases e
        · rw [ha, bi_true] at e
          cases hb : Nat.beq (len (zeroCellsOf z)) i.size
          · rw [hb] at e; cases e
          · rw [hb, bi_true] at e
            have hb := Nat.eq_of_beq_eq_true hb
            rw [len_eq] at hb
            have hag : isAgg (kOf d) = isAggV z ∧ some (TI.mk (kOf d) i.size i.bytes (zeroCellsOf z) (eqsOf P t d)) = some ti := by
              cases h1 : isAgg (kOf d) <;> cases h2 : isAggV z <;> rw [h1, h2] at e <;> first | (cases e; done) | exact ⟨rfl, e⟩
            obtain ⟨hag, e⟩ := hag
            injection e with e
            exact ⟨i, d, z, hi, hd, hz, e.symm, ha, hb, hag⟩
theorem TOk.sizeOf {t : TypeId} {ti : TI} (h : TOk P t ti) (w : World) : (sizeOf t).run P w = .ok ti.size w := by
  obtain ⟨i, d, z, hi, hd, hz, e, ha, hb, hag⟩ := h.ex
  subst e
  simp [Go.sizeOf, run_typeInfo _ hi]
theorem TOk.und {t : TypeId} {ti : TI} (h : TOk P t ti) : ∃ d, P.underlying t = some d ∧ ti.kind = kOf d := by
  obtain ⟨i, d, z, hi, hd, hz, e, ha, hb, hag⟩ := h.ex
  subst e
  exact ⟨d, hd, rfl⟩
theorem TOk.isAgg {t : TypeId} {ti : TI} (h : TOk P t ti) (w : World) : (Go.isAgg t).run P w = .ok (isAgg ti.kind) w := by
  obtain ⟨d, hd, hk⟩ := h.und
  rw [hk]
  cases d <;> simp [Go.isAgg, run_underlying hd] <;> rfl
theorem TOk.slice {t e : TypeId} {ti : TI} (h : TOk P t ti) (hk : ti.kind = .slice e) : P.underlying t = some (.slice e) := by
  obtain ⟨d, hd, hk'⟩ := h.und
  rw [hk] at hk'
  cases d <;> first | (injection hk' with hk'; subst hk'; exact hd) | cases hk'
theorem TOk.arr {t e : TypeId} {n : Nat} {ti : TI} (h : TOk P t ti) (hk : ti.kind = .arr n e) : P.underlying t = some (.array n e) := by
  obtain ⟨d, hd, hk'⟩ := h.und
  rw [hk] at hk'
  cases d <;> first | (injection hk' with hk' hk''; subst hk'; subst hk''; exact hd) | cases hk'
theorem TOk.str {t : TypeId} {ti : TI} (h : TOk P t ti) (hk : ti.kind = .str) : P.underlying t = some .string := by
  obtain ⟨d, hd, hk'⟩ := h.und
  rw [hk] at hk'
  cases d <;> first | exact hd | cases hk'
theorem TOk.int {t : TypeId} {k : IntKind} {ti : TI} (h : TOk P t ti) (hk : ti.kind = .int k) : P.underlying t = some (.int k) := by
  obtain ⟨d, hd, hk'⟩ := h.und
  rw [hk] at hk'
  cases d <;> first | (injection hk' with hk'; subst hk'; exact hd) | cases hk'
theorem TOk.map {t x e : TypeId} {ti : TI} (h : TOk P t ti) (hk : ti.kind = .map x e) : P.underlying t = some (.map x e) := by
  obtain ⟨d, hd, hk'⟩ := h.und
  rw [hk] at hk'
  cases d <;> first | (injection hk' with hk' hk''; subst hk'; subst hk''; exact hd) | cases hk'
theorem TOk.struct {t : TypeId} {fs : List (Nat × TypeId)} {ti : TI} (h : TOk P t ti) (hk : ti.kind = .struct fs) : ∃ fields, P.underlying t = some (.struct fields) ∧ fs = fields.toList.map fun f => (f.offset, f.type) := by
  obtain ⟨d, hd, hk'⟩ := h.und
  rw [hk] at hk'
  cases d <;> first | (injection hk' with hk'; exact ⟨_, hd, hk'⟩) | cases hk'
theorem TOk.zero {t : TypeId} {ti : TI} (h : TOk P t ti) (g : G) : ∃ z, (∀ w, (zeroValue t).run P w = .ok z w) ∧ VRs g ti.zero z.cells.toList ∧ (∀ x ∈ z.cells.toList, one1 x = true) ∧ z.cells.size = ti.size ∧ ti.zero.length = ti.size := by
  obtain ⟨i, d, z, hi, hd, hz, e, ha, hb, hag⟩ := h.ex
  subst e
  have hv : VRs g (zeroCellsOf z) z.cells.toList := ofVs_VRs g _
  refine ⟨z, fun w => by simp [zeroValue, run_typeInfo _ hi, hz], hv, allCell_one ha hv, ?_, hb⟩
  have := hv.length
  simp at this
  show z.cells.size = i.size
  omega
theorem TOk.zero1 {t : TypeId} {ti : TI} (h : TOk P t ti) (g : G) : ∃ z, (∀ w, (zeroValue t).run P w = .ok z w) ∧ VR g (zeroOf ti) z := by
  obtain ⟨i, d, z, hi, hd, hz, e, ha, hb, hag⟩ := h.ex
  subst e
  have hv : VRs g (zeroCellsOf z) z.cells.toList := ofVs_VRs g _
  refine ⟨z, fun w => by simp [zeroValue, run_typeInfo _ hi, hz], ?_⟩
  unfold zeroOf
  dsimp only
  cases hk : Kx.isAgg (kOf d)
  · rw [bi_false]
    rw [hk] at hag
    have hc : z.cells = #[z] := by cases z <;> first | rfl | cases hag
    unfold zeroCellsOf
    rw [hc]
    exact ofV1_VR g z
  · rw [bi_true]
    rw [hk] at hag
    have hc : ∃ cs, z = .agg cs := by cases z <;> first | exact ⟨_, rfl⟩ | cases hag
    obtain ⟨cs, rfl⟩ := hc
    exact .agg _ cs.toList hv (allCell_one ha hv)
theorem TOk.bytes {t : TypeId} {ti : TI} (h : TOk P t ti) : ∃ i, P.info? t = some i ∧ i.bytes = ti.bytes := by
  obtain ⟨i, d, z, hi, hd, hz, e, ha, hb, hag⟩ := h.ex
  subst e
  exact ⟨i, hi, rfl⟩
theorem szOf_some {t : TypeId} {s : Nat} (e : szOf (mkTI P) t = some s) : ∃ ti, mkTI P t = some ti ∧ ti.size = s := by
  unfold szOf at e
  cases ht : mkTI P t with
  | none => rw [ht] at e; cases e
  | some ti => rw [ht] at e; injection e with e; exact ⟨ti, rfl, e⟩
theorem szOf_run {t : TypeId} {s : Nat} (e : szOf (mkTI P) t = some s) (w : World) : (Go.sizeOf t).run P w = .ok s w := by
  obtain ⟨ti, ht, rfl⟩ := szOf_some e
  exact (mkTI_some ht).sizeOf w

/-! Cells. -/
theorem HR.row (hr : HR B0 g h w) {b : Nat} {c : List AV × TypeId} {B base : Nat} (hc : objCells (h.m.get b) = some c) (hp : g.pos b = some (B, base)) : CR g b B base c.1 c.2 w :=
  hr.cells b c.1 c.2 B base (objCells_some hc) hp
theorem CR.cell {b B base : Nat} {l : List AV} {t : TypeId} (hc : CR g b B base l t w) {i : Nat} {v : AV} (hv : l[i]? = some v) : ∃ v', w.cell? ⟨B, base + i, none⟩ = some v' ∧ VR g v v' ∧ one1 v' = true := by
  obtain ⟨cs, fr, h1, h2, h3, h4, h5⟩ := hc.ex
  obtain ⟨v', e, hv', ho⟩ := h4 i v hv
  exact ⟨v', by simp [World.cell?, h1, e], hv', ho⟩
theorem add_none (B o k : Nat) : (⟨B, o, none⟩ : Addr).add k = ⟨B, o + k, none⟩ := by
  unfold Addr.add
  split
  · simp_all
  · rfl
/-- A piece of a row, read. -/
theorem CR.cells {b B base : Nat} {l : List AV} {t : TypeId} (hc : CR g b B base l t w) {o n : Nat} {r : List AV} (hs : sub l o n = some r) :
    ∃ cs : List Value, cs.length = n ∧ VRs g r cs ∧ (∀ x ∈ cs, one1 x = true) ∧ (loadCells ⟨B, base + o, none⟩ n).run P w = .ok cs.toArray w ∧ ∀ (j : Nat) (v : Value), cs[j]? = some v → w.cell? ((⟨B, base + o, none⟩ : Addr).add j) = some v := by
  obtain ⟨h1, rfl⟩ := sub_some hs
  obtain ⟨cs, fr, e1, e2, e3, e4, e5⟩ := hc.ex
  have hlen : ((cs.toList.drop (base + o)).take n).length = n := by simp; omega
  have hcell : ∀ (j : Nat) (v : Value), ((cs.toList.drop (base + o)).take n)[j]? = some v → w.cell? ((⟨B, base + o, none⟩ : Addr).add j) = some v := by
    intro j v hv
    rw [List.getElem?_take] at hv
    split at hv
    · rw [List.getElem?_drop] at hv
      rw [add_none]
      simpa [World.cell?, e1] using hv
    · cases hv
  refine ⟨(cs.toList.drop (base + o)).take n, hlen, VRs.of_at (by simp; omega) (fun i v hv => ?_), fun x hx => ?_, ?_, hcell⟩
  · rw [List.getElem?_take] at hv
    split at hv
    · rename_i hi
      rw [List.getElem?_drop] at hv
      obtain ⟨v', a1, a2, _⟩ := e4 (o + i) v hv
      refine ⟨v', ?_, a2⟩
      rw [List.getElem?_take, if_pos hi, List.getElem?_drop, ← a1, Nat.add_assoc]
      simp
    · cases hv
  · obtain ⟨i, hi⟩ := List.mem_iff_getElem?.1 hx
    have hi' : i < n := by
      have := (List.getElem?_eq_some_iff.1 hi).1
      omega
    rw [List.getElem?_take, if_pos hi', List.getElem?_drop] at hi
    have hlt : o + i < l.length := by omega
    obtain ⟨v', a1, _, a3⟩ := e4 (o + i) _ (List.getElem?_eq_getElem hlt)
    rw [← Nat.add_assoc] at a1
    have : cs[base + o + i]? = some x := by simpa using hi
    rw [this] at a1
    injection a1 with a1
    subst a1
    exact a3
  · have := run_loadCells_list (P := P) w ⟨B, base + o, none⟩ ((cs.toList.drop (base + o)).take n) hcell
    rw [hlen] at this
    exact this

/-! A load. -/
theorem load_good (hr : HR B0 g h w) (t : TypeId) (x : AV) (xv : Value) (hx : VR g x xv) : VG P B0 g h w (Instr.loadAt t xv) (xLoad h x (mkTI P t)) := by
  unfold xLoad
  cases e1 : asPtr x with
  | none => trivial
  | some p =>
    have := asPtr_some e1; subst this
    cases hx with | ptr b o B base hp =>
    cases e2 : mkTI P t with
    | none => trivial
    | some ti =>
      have ht := mkTI_some e2
      simp only [oc_some]
      cases e3 : objCells (h.m.get p.1) with
      | none => trivial
      | some c =>
        simp only [oc_some]
        have hc := hr.row e3 hp
        unfold ld
        cases ha : isAgg ti.kind
        · simp only [bi_false, idx_eq]
          cases e4 : c.1[p.2]? with
          | none => trivial
          | some v =>
            obtain ⟨v', a1, a2, _⟩ := hc.cell e4
            refine VG.same hr ?_ a2
            simp [Instr.loadAt, Instr.sureAddr, loadVar, Sem.run_bind, ht.isAgg, ha, a1, Result.andThen]
        · simp only [bi_true]
          cases e4 : sub c.1 p.2 ti.size with
          | none => trivial
          | some r =>
            obtain ⟨cs, a1, a2, a3, a4, _⟩ := hc.cells (P := P) e4
            refine VG.same hr ?_ (.agg r cs a2 a3)
            simp [Instr.loadAt, Instr.sureAddr, loadVar, Sem.run_bind, ht.isAgg, ha, ht.sizeOf, a4, Result.andThen]
end
end Go.Proofs.YtknnaeejkmlnbaaGreatDoor.Kx

/- The evaluator's numbers and texts. -/
namespace Go.Proofs.YtknnaeejkmlnbaaGreatDoor.Kx
theorem kInt_eq (z : Int) (h : H) (k : IntKind) : kInt z h k = .val (.int k z) h := by
  cases z with
  | ofNat n => exact nF_eq n (fun n => XR.val (.int k (.ofNat n)) h)
  | negSucc n => exact nF_eq n (fun n => XR.val (.int k (.negSucc n)) h)
theorem kBool_eq (h : H) (b : Bool) : kBool h b = .val (.bool b) h := by cases b <;> rfl
theorem pw_eq (k : IntKind) : pw k = 2 ^ k.bits := by cases k <;> rfl
theorem fwrap_eq (z : Int) (k : IntKind) : fwrap z k = k.wrap z := by
  cases z with
  | negSucc n => rfl
  | ofNat n =>
    cases k with
    | i64 =>
      show bi (Nat.blt n 9223372036854775808) (Int.ofNat n) _ = _
      rw [bi_eq]
      split
      · rename_i hc
        have hc : n < 9223372036854775808 := by simpa [Nat.blt_eq] using hc
        simp [IntKind.wrap, IntKind.bits, IntKind.signed]
        omega
      · rfl
    | u8 => show Int.ofNat (n % 256) = _; simp [IntKind.wrap, IntKind.bits, IntKind.signed]
    | u16 => show Int.ofNat (n % 65536) = _; simp [IntKind.wrap, IntKind.bits, IntKind.signed]
    | u32 => show Int.ofNat (n % 4294967296) = _; simp [IntKind.wrap, IntKind.bits, IntKind.signed]
    | u64 => show Int.ofNat (n % 18446744073709551616) = _; simp [IntKind.wrap, IntKind.bits, IntKind.signed]
    | i8 => rfl
    | i16 => rfl
    | i32 => rfl
theorem kW_eq (h : H) (k : IntKind) (z : Int) : kW h k z = .val (.int k (k.wrap z)) h := by unfold kW; rw [kInt_eq, fwrap_eq]
theorem ieq_eq (a b : Int) : ieq a b = (a == b) := by
  cases a with
  | ofNat a => cases b with
    | ofNat b => show Nat.beq a b = _; rw [Bool.eq_iff_iff]; simp; omega
    | negSucc b => show false = _; symm; simp
  | negSucc a => cases b with
    | ofNat b => show false = _; symm; simp
    | negSucc b => show Nat.beq b a = _; rw [Bool.eq_iff_iff]; simp; omega
theorem ilt_eq (a b : Int) : ilt a b = decide (a < b) := by
  cases a with
  | ofNat a => cases b with
    | ofNat b => show Nat.blt a b = _; rw [Bool.eq_iff_iff]; simp [Nat.blt_eq]
    | negSucc b => show false = _; symm; simp; omega
  | negSucc a => cases b with
    | ofNat b => show true = _; symm; simp; omega
    | negSucc b => show Nat.blt b a = _; rw [Bool.eq_iff_iff]; simp [Nat.blt_eq]; omega
theorem bv_eq (z : Int) (k : IntKind) : bv z k = (BitVec.ofInt k.bits z).toNat := by
  cases z with
  | ofNat n => show n % pw k = _; rw [pw_eq]; simp
  | negSucc n =>
    show pw k - 1 - n % pw k = _
    rw [pw_eq, BitVec.toNat_ofInt]
    have hp : 0 < 2 ^ k.bits := Nat.two_pow_pos _
    have hm : n % 2 ^ k.bits < 2 ^ k.bits := Nat.mod_lt _ hp
    have : (Int.negSucc n) % ((2 ^ k.bits : Nat) : Int) = ((2 ^ k.bits - 1 - n % 2 ^ k.bits : Nat) : Int) := by
      rw [Int.negSucc_emod _ (by exact_mod_cast hp)]
      omega
    rw [this]
    rfl
theorem lbeq_eq (a b : List Nat) : lbeq a b = (a == b) := by
  induction a generalizing b with
  | nil => cases b <;> rfl
  | cons x r ih => cases b with
    | nil => rfl
    | cons y s =>
      show bi (Nat.beq x y) (lbeq r s) false = _
      rw [bi_eq, ih, List.cons_beq_cons]
      cases h : Nat.beq x y
      · have : (x == y) = false := beq_eq_false_iff_ne.2 (Nat.ne_of_beq_eq_false h)
        simp [this]
      · have : (x == y) = true := beq_iff_eq.2 (Nat.eq_of_beq_eq_true h)
        simp [this]
theorem byteL_eq (l : List UInt8) : byteL l = l.map (·.toNat) := by
  induction l with
  | nil => rfl
  | cons a r ih => exact congrArg (_ :: ·) ih
theorem byteL_beq (a b : List UInt8) : (byteL a == byteL b) = (a == b) := by
  rw [byteL_eq, byteL_eq]
  induction a generalizing b with
  | nil => cases b <;> rfl
  | cons x r ih => cases b with
    | nil => rfl
    | cons y s =>
      simp only [List.map_cons, List.cons_beq_cons, ih]
      congr 1
      rw [Bool.eq_iff_iff]
      simp [UInt8.toNat_inj]
theorem bless_eq (a b : List UInt8) : bless (byteL a) (byteL b) = Op.bytesLess a b := by
  induction a generalizing b with
  | nil => cases b <;> rfl
  | cons x r ih => cases b with
    | nil => rfl
    | cons y s =>
      show bi (Nat.blt x.toNat y.toNat) true (bi (Nat.beq x.toNat y.toNat) (bless (byteL r) (byteL s)) false) = (decide (x < y) || (x == y && Op.bytesLess r s))
      rw [bi_eq, bi_eq, ih]
      have h1 : Nat.blt x.toNat y.toNat = decide (x < y) := by rw [Bool.eq_iff_iff]; simp [Nat.blt_eq, UInt8.lt_iff_toNat_lt]
      have h2 : Nat.beq x.toNat y.toNat = (x == y) := by rw [Bool.eq_iff_iff]; simp [UInt8.toNat_inj]
      rw [h1, h2]
      cases decide (x < y) <;> cases (x == y) <;> simp
theorem less_or_eq (a b : List UInt8) : (Op.bytesLess a b || a == b) = !(Op.bytesLess b a) := by
  induction a generalizing b with
  | nil => cases b <;> rfl
  | cons x r ih => cases b with
    | nil => rfl
    | cons y s =>
      have h := ih s
      show ((decide (x < y) || (x == y && Op.bytesLess r s)) || (x == y && r == s)) = !(decide (y < x) || (y == x && Op.bytesLess s r))
      by_cases e : x = y
      · subst e
        simpa using h
      · have e1 : (x == y) = false := by simpa using e
        have e2 : (y == x) = false := by simpa using fun e' => e e'.symm
        simp only [e1, e2, Bool.false_and, Bool.or_false]
        rw [Bool.eq_iff_iff]
        simp [UInt8.lt_iff_toNat_lt]
        have : x.toNat ≠ y.toNat := fun e' => e (UInt8.toNat_inj.1 e')
        omega
theorem not_lt_dec (a b : Int) : decide (a ≤ b) = !decide (b < a) := by
  by_cases h : a ≤ b
  · rw [decide_eq_true h, decide_eq_false (by omega)]; rfl
  · rw [decide_eq_false h, decide_eq_true (by omega)]; rfl
theorem kBool_not (h : H) (b : Bool) : kBool h (bi b false true) = .val (.bool (!b)) h := by cases b <;> rfl

section
variable {P : Program} {B0 : Nat} {g : G} {h : H} {w : World}
theorem toList_data (s : ByteArray) : s.toList = s.data.toList := ByteArray.toList_eq s

/-! Numbers. -/
theorem bopI_good (hr : HR B0 g h w) (op : BinOp) (t : TypeId) (k k' : IntKind) (a b : Int) (hk : k = k' ∨ op = .shl ∨ op = .shr) : VG P B0 g h w (binOp op t (.int k a) (.int k' b)) (bopI op h k a b) := by
  have hz : ∀ c : Int, ieq c 0 = false → c ≠ 0 := fun c hc e => by subst e; cases hc
  have hb1 : ∀ (op : BinOp) r, (VG P B0 g h w (pure (.int k (k.wrap ((r : Nat) : Int)))) (kB h k r)) := fun _ r => by
    unfold kB; rw [kW_eq]; exact VG.same hr rfl (.int _ _)
  cases op
  case shl =>
    show VG P B0 g h w _ (bi (ilt b 0) .no (kW h k (a * 2 ^ (Nat.min b.toNat k.bits))))
    rw [ilt_eq, bi_eq]
    split
    · trivial
    · rename_i hb
      rw [kW_eq]
      refine VG.same hr ?_ (.int _ _)
      have : ¬ b < 0 := by simpa using hb
      simp [binOp, Op.shift, this]
  case shr =>
    show VG P B0 g h w _ (bi (ilt b 0) .no (kInt (a.fdiv (2 ^ (Nat.min b.toNat k.bits))) h k))
    rw [ilt_eq, bi_eq]
    split
    · trivial
    · rename_i hb
      rw [kInt_eq]
      refine VG.same hr ?_ (.int _ _)
      have : ¬ b < 0 := by simpa using hb
      simp [binOp, Op.shift, this]
  all_goals (obtain rfl : k = k' := by simpa using hk)
  case add => show VG P B0 g h w _ (kW h k (a + b)); rw [kW_eq]; exact VG.same hr (by simp [binOp, Op.intArith]) (.int _ _)
  case sub => show VG P B0 g h w _ (kW h k (a - b)); rw [kW_eq]; exact VG.same hr (by simp [binOp, Op.intArith]) (.int _ _)
  case mul => show VG P B0 g h w _ (kW h k (a * b)); rw [kW_eq]; exact VG.same hr (by simp [binOp, Op.intArith]) (.int _ _)
  case quo =>
    show VG P B0 g h w _ (bi (ieq b 0) .no (kW h k (a.tdiv b)))
    cases e : ieq b 0
    · rw [bi_false, kW_eq]; exact VG.same hr (by simp [binOp, Op.intDiv, hz b e]) (.int _ _)
    · trivial
  case rem =>
    show VG P B0 g h w _ (bi (ieq b 0) .no (kInt (a.tmod b) h k))
    cases e : ieq b 0
    · rw [bi_false, kInt_eq]; exact VG.same hr (by simp [binOp, Op.intDiv, hz b e]) (.int _ _)
    · trivial
  case and =>
    show VG P B0 g h w _ (kB h k (Nat.land (bv a k) (bv b k)))
    rw [bv_eq, bv_eq]
    have := hb1 .and (Nat.land (BitVec.ofInt k.bits a).toNat (BitVec.ofInt k.bits b).toNat)
    simpa [binOp, Op.intBits] using this
  case or =>
    show VG P B0 g h w _ (kB h k (Nat.lor (bv a k) (bv b k)))
    rw [bv_eq, bv_eq]
    have := hb1 .and (Nat.lor (BitVec.ofInt k.bits a).toNat (BitVec.ofInt k.bits b).toNat)
    simpa [binOp, Op.intBits] using this
  case xor =>
    show VG P B0 g h w _ (kB h k (Nat.xor (bv a k) (bv b k)))
    rw [bv_eq, bv_eq]
    have := hb1 .and (Nat.xor (BitVec.ofInt k.bits a).toNat (BitVec.ofInt k.bits b).toNat)
    simpa [binOp, Op.intBits] using this
  case andNot =>
    show VG P B0 g h w _ (kB h k (Nat.land (bv a k) (pw k - 1 - bv b k)))
    rw [bv_eq, bv_eq, pw_eq]
    have := hb1 .and (Nat.land (BitVec.ofInt k.bits a).toNat (2 ^ k.bits - 1 - (BitVec.ofInt k.bits b).toNat))
    simpa [binOp, Op.intBits, BitVec.toNat_not] using this
  case eql => show VG P B0 g h w _ (kBool h (ieq a b)); rw [kBool_eq, ieq_eq]; exact VG.same hr (by simp [binOp, Op.intCmp]) (.bool _)
  case neq => show VG P B0 g h w _ (kBool h (bi (ieq a b) false true)); rw [kBool_not, ieq_eq]; exact VG.same hr (by simp [binOp, Op.intCmp, bne]) (.bool _)
  case lss => show VG P B0 g h w _ (kBool h (ilt a b)); rw [kBool_eq, ilt_eq]; exact VG.same hr (by simp [binOp, Op.intCmp]) (.bool _)
  case leq => show VG P B0 g h w _ (kBool h (bi (ilt b a) false true)); rw [kBool_not, ilt_eq]; exact VG.same hr (by simp [binOp, Op.intCmp, not_lt_dec]) (.bool _)
  case gtr => show VG P B0 g h w _ (kBool h (ilt b a)); rw [kBool_eq, ilt_eq]; exact VG.same hr (by simp [binOp, Op.intCmp]) (.bool _)
  case geq => show VG P B0 g h w _ (kBool h (bi (ilt a b) false true)); rw [kBool_not, ilt_eq]; exact VG.same hr (by simp [binOp, Op.intCmp, not_lt_dec]) (.bool _)

/-! Texts. -/
theorem bopS_good (hr : HR B0 g h w) (op : BinOp) (t : TypeId) (a b : ByteArray) : VG P B0 g h w (binOp op t (.string a) (.string b)) (bopS op h (byteL a.data.toList) (byteL b.data.toList)) := by
  have hne : ∀ (x : ByteArray), (byteL x.data.toList).length = x.size := fun x => by rw [byteL_eq]; simp
  cases op
  case add =>
    show VG P B0 g h w _ (bi (Nat.ble (Nat.add (len _) (len _)) 1073741824) (.val (.str (app _ _)) h) .no)
    rw [bi_eq]
    split
    · rename_i hc
      have hc : a.size + b.size ≤ 1073741824 := by simpa [hne] using hc
      have hv : VR g (.str (app (byteL a.data.toList) (byteL b.data.toList))) (.string (a ++ b)) := by
        have := VR.str (g := g) (a ++ b)
        rw [app_eq]
        have e : byteL (a ++ b).data.toList = byteL a.data.toList ++ byteL b.data.toList := by
          rw [byteL_eq, byteL_eq, byteL_eq]
          simp [ByteArray.data_append]
        rw [← e]
        exact this
      refine VG.same hr ?_ hv
      have hno : ¬ (((a.size + b.size : Nat) : Int) > IntKind.i64.max) := by
        have : IntKind.i64.max = 9223372036854775807 := by decide
        rw [this]; omega
      show (binOp .add t (.string a) (.string b)).run P w = _
      simp only [binOp, Op.stringOp]
      rw [if_neg hno]
      rfl
    · trivial
  case eql => show VG P B0 g h w _ (kBool h (lbeq _ _)); rw [kBool_eq, lbeq_eq, byteL_beq]; exact VG.same hr (by simp [binOp, Op.stringOp, toList_data]) (.bool _)
  case neq => show VG P B0 g h w _ (kBool h (bi (lbeq _ _) false true)); rw [kBool_not, lbeq_eq, byteL_beq]; exact VG.same hr (by simp [binOp, Op.stringOp, toList_data]) (.bool _)
  case lss => show VG P B0 g h w _ (kBool h (bless _ _)); rw [kBool_eq, bless_eq]; exact VG.same hr (by simp [binOp, Op.stringOp, toList_data]) (.bool _)
  case geq => show VG P B0 g h w _ (kBool h (bi (bless _ _) false true)); rw [kBool_not, bless_eq]; exact VG.same hr (by simp [binOp, Op.stringOp, toList_data]) (.bool _)
  case leq => show VG P B0 g h w _ (kBool h (bi (bless _ _) false true)); rw [kBool_not, bless_eq]; exact VG.same hr (by simp only [binOp, Op.stringOp, toList_data, less_or_eq]; simp) (.bool _)
  case gtr => show VG P B0 g h w _ (kBool h (bless _ _)); rw [kBool_eq, bless_eq]; exact VG.same hr (by simp only [binOp, Op.stringOp, toList_data, less_or_eq]; simp) (.bool _)
  all_goals trivial

/-! Equality. -/
theorem ikN_inj {k k' : IntKind} (h : Nat.beq (ikN k) (ikN k') = true) : k = k' := by cases k <;> cases k' <;> first | rfl | cases h
theorem isNilp_true {x : AV} (e : isNilp x = true) : x = .nilp := by cases x <;> first | rfl | cases e
theorem isNilf_true {x : AV} (e : isNilf x = true) : x = .nilf := by cases x <;> first | rfl | cases e
theorem isFn_true {x : AV} (e : isFn x = true) : ∃ f a b, x = .fn f a b := by cases x <;> first | exact ⟨_, _, _, rfl⟩ | cases e
theorem eqB_some {x y : AV} {b : Bool} (e : eqB x y = some b) : ∃ p q, x = .bool p ∧ y = .bool q ∧ b = (p == q) := by
  unfold eqB at e
  cases h1 : asBool x with
  | none => rw [h1] at e; cases e
  | some p => cases h2 : asBool y with
    | none => rw [h1, h2] at e; cases e
    | some q =>
      rw [h1, h2] at e
      simp only [oc_some] at e
      injection e with e
      exact ⟨p, q, asBool_some h1, asBool_some h2, by rw [← e]; cases p <;> cases q <;> rfl⟩
theorem equal_eq (t : TypeId) (x y : Value) : Op.equal t x y = Op.equalIn (9999 + 1) t x y := rfl
/-- What the model asks of a comparison that is no number's and no text's. -/
structure EqOk (P : Program) (w : World) (t : TypeId) (x y : Value) (b : Bool) : Prop where
  eq : (Op.equal t x y).run P w = .ok b w
  op : binOp .eql t x y = (do pure (.bool (← Op.equal t x y)))
  op' : binOp .neq t x y = (do pure (.bool (!(← Op.equal t x y))))
  gd : ∀ op u v, eqGuard op t u v x y = pure ()
theorem VR.slc_form {b o n : Nat} {c : Cap} {v : Value} (h : VR g (.slc b o n c) v) : ∃ B base m ro, g.pos b = some (B, base) ∧ v = .slice (some ⟨B, ro, none⟩) n m ∧ (0 < n → ro = base + o) := by
  cases h with
  | slck _ _ _ c B base ro h hn hro => exact ⟨B, base, c, ro, h, rfl, fun hp => hro (by omega)⟩
  | slcv _ _ _ k B base c s ro h hg ho hn hro => exact ⟨B, base, c - k, ro, h, rfl, fun hp => hro (by omega)⟩
theorem eqK_ok {t : TypeId} {ti : TI} (ht : TOk P t ti) {x y : AV} {xv yv : Value} (hx : VR g x xv) (hy : VR g y yv) {b : Bool} (e : eqK ti.kind (mkTI P) x y = some b) : EqOk P w t xv yv b := by
  obtain ⟨d, hd, hk⟩ := ht.und
  rw [hk] at e
  have hu : ∀ w, (underlying t).run P w = .ok d w := fun w => run_underlying hd w
  cases d
  case bool =>
    obtain ⟨p, q, rfl, rfl, rfl⟩ := eqB_some e
    cases hx; cases hy
    exact ⟨by rw [equal_eq, Op.equalIn]; simp [hu, Result.andThen], by simp [binOp], by simp [binOp], fun op _ _ => by cases op <;> rfl⟩
  case pointer el =>
    replace e : eqP (mkTI P) el x y = some b := e
    unfold eqP at e
    cases h1 : asPtr x with
    | none =>
      rw [h1] at e
      simp only [oc_none, bi_eq] at e
      split at e
      · rename_i hn
        have := isNilp_true hn; subst this
        cases hx
        cases h2 : asPtr y with
        | none =>
          rw [h2] at e
          simp only [oc_none] at e
          split at e
          · rename_i hn'
            have := isNilp_true hn'; subst this
            cases hy
            injection e with e; subst e
            exact ⟨by rw [equal_eq, Op.equalIn]; simp [hu, Result.andThen], by simp [binOp], by simp [binOp], fun op _ _ => by cases op <;> rfl⟩
          · cases e
        | some q =>
          rw [h2] at e
          have := asPtr_some h2; subst this
          cases hy
          injection e with e; subst e
          exact ⟨by rw [equal_eq, Op.equalIn]; simp [hu, Result.andThen], by simp [binOp], by simp [binOp], fun op _ _ => by cases op <;> rfl⟩
      · cases e
    | some p =>
      rw [h1] at e
      have := asPtr_some h1; subst this
      simp only [oc_some] at e
      cases h2 : asPtr y with
      | none =>
        rw [h2] at e
        simp only [oc_none, bi_eq] at e
        split at e
        · rename_i hn
          have := isNilp_true hn; subst this
          cases hx; cases hy
          injection e with e; subst e
          exact ⟨by rw [equal_eq, Op.equalIn]; simp [hu, Result.andThen], by simp [binOp], by simp [binOp], fun op _ _ => by cases op <;> rfl⟩
        · cases e
      | some q =>
        rw [h2] at e
        have := asPtr_some h2; subst this
        simp only [oc_some, eqPP, bi_eq] at e
        split at e
        · rename_i hb
          have hb := Nat.eq_of_beq_eq_true hb
          cases hs : szOf (mkTI P) el with
          | none => rw [hs] at e; cases e
          | some s =>
            rw [hs] at e
            simp only [oc_some] at e
            split at e
            · cases e
            · rename_i hs0
              have hs0 : s ≠ 0 := fun e => by subst e; exact hs0 rfl
              injection e with e
              cases hx with | ptr _ _ B base hp =>
              cases hy with | ptr _ _ B' base' hp' =>
              rw [← hb, hp] at hp'
              injection hp' with hp'
              injection hp' with e1 e2
              subst e1; subst e2
              have hsz := fun w => szOf_run (P := P) hs w
              refine ⟨?_, by simp [binOp], by simp [binOp], fun op _ _ => by cases op <;> rfl⟩
              subst e
              rw [equal_eq, Op.equalIn]
              simp [hu, hsz, hs0, sameAddr, Result.andThen]
              rw [Bool.eq_iff_iff]
              simp
        · cases e
  case slice el =>
    replace e : eqS x y = some b := e
    unfold eqS at e
    cases h1 : asSlc x with
    | none =>
      rw [h1] at e
      simp only [oc_none, bi_eq] at e
      split at e
      · rename_i hn
        have := isNils_true hn; subst this
        cases hx
        cases h2 : asSlc y with
        | none =>
          rw [h2] at e
          simp only [oc_none] at e
          split at e
          · rename_i hn'
            have := isNils_true hn'; subst this
            cases hy
            injection e with e; subst e
            exact ⟨by rw [equal_eq, Op.equalIn]; simp [hu, Result.andThen], by simp [binOp], by simp [binOp], fun op _ _ => by cases op <;> rfl⟩
          · cases e
        | some q =>
          rw [h2] at e
          have := asSlc_some h2; subst this
          injection e with e; subst e
          obtain ⟨B, base, m, ro, hp, rfl, _⟩ := hy.slc_form
          exact ⟨by rw [equal_eq, Op.equalIn]; simp [hu, Result.andThen], by simp [binOp], by simp [binOp], fun op _ _ => by cases op <;> rfl⟩
      · cases e
    | some p =>
      rw [h1] at e
      have := asSlc_some h1; subst this
      simp only [oc_some, bi_eq] at e
      split at e
      · rename_i hn
        have := isNils_true hn; subst this
        injection e with e; subst e
        cases hy
        obtain ⟨B, base, m, ro, hp, rfl, _⟩ := hx.slc_form
        exact ⟨by rw [equal_eq, Op.equalIn]; simp [hu, Result.andThen], by simp [binOp], by simp [binOp], fun op _ _ => by cases op <;> rfl⟩
      · cases e
  case map kk el =>
    replace e : eqM x y = some b := e
    unfold eqM at e
    cases h1 : asMap x with
    | none =>
      rw [h1] at e
      simp only [oc_none, bi_eq] at e
      split at e
      · rename_i hn
        have := isNilm_true hn; subst this
        cases hx
        cases h2 : asMap y with
        | none =>
          rw [h2] at e
          simp only [oc_none] at e
          split at e
          · rename_i hn'
            have := isNilm_true hn'; subst this
            cases hy
            injection e with e; subst e
            exact ⟨by rw [equal_eq, Op.equalIn]; simp [hu, Result.andThen], by simp [binOp], by simp [binOp], fun op _ _ => by cases op <;> rfl⟩
          · cases e
        | some q =>
          rw [h2] at e
          have := asMap_some h2; subst this
          injection e with e; subst e
          cases hy
          exact ⟨by rw [equal_eq, Op.equalIn]; simp [hu, Result.andThen], by simp [binOp], by simp [binOp], fun op _ _ => by cases op <;> rfl⟩
      · cases e
    | some p =>
      rw [h1] at e
      have := asMap_some h1; subst this
      simp only [oc_some, bi_eq] at e
      split at e
      · rename_i hn
        have := isNilm_true hn; subst this
        injection e with e; subst e
        cases hy
        cases hx
        exact ⟨by rw [equal_eq, Op.equalIn]; simp [hu, Result.andThen], by simp [binOp], by simp [binOp], fun op _ _ => by cases op <;> rfl⟩
      · cases e
  case func pr rs vd =>
    replace e : eqF x y = some b := e
    unfold eqF at e
    simp only [bi_eq] at e
    split at e
    · rename_i h1
      have := isNilf_true h1; subst this
      cases hx
      split at e
      · rename_i h2
        have := isNilf_true h2; subst this
        cases hy
        injection e with e; subst e
        exact ⟨by rw [equal_eq, Op.equalIn]; simp [hu, Result.andThen], by simp [binOp], by simp [binOp], fun op _ _ => by cases op <;> rfl⟩
      · split at e
        · rename_i h2
          obtain ⟨f, a, b, rfl⟩ := isFn_true h2
          cases hy
          injection e with e; subst e
          exact ⟨by rw [equal_eq, Op.equalIn]; simp [hu, Result.andThen], by simp [binOp], by simp [binOp], fun op _ _ => by cases op <;> rfl⟩
        · cases e
    · split at e
      · rename_i h1
        obtain ⟨f, a, b, rfl⟩ := isFn_true h1
        split at e
        · rename_i h2
          have := isNilf_true h2; subst this
          cases hx; cases hy
          injection e with e; subst e
          exact ⟨by rw [equal_eq, Op.equalIn]; simp [hu, Result.andThen], by simp [binOp], by simp [binOp], fun op _ _ => by cases op <;> rfl⟩
        · cases e
      · cases e
  all_goals cases e

/-- The same, by what runs. -/
structure EqRun (P : Program) (w : World) (t : TypeId) (x y : Value) (b : Bool) : Prop where
  op : (binOp .eql t x y).run P w = .ok (.bool b) w
  op' : (binOp .neq t x y).run P w = .ok (.bool (!b)) w
  gd : ∀ op u v, (eqGuard op t u v x y).run P w = .ok () w
theorem EqOk.run {t : TypeId} {x y : Value} {b : Bool} (h : EqOk P w t x y b) : EqRun P w t x y b :=
  ⟨by rw [h.op]; simp [h.eq, Result.andThen], by rw [h.op']; simp [h.eq, Result.andThen], fun op u v => by rw [h.gd]; rfl⟩
theorem structF_some {k : TK} {fs : List (Nat × TypeId)} (h : structF k = some fs) : k = .struct fs := by cases k <;> first | (injection h with h; subst h; rfl) | cases h
theorem namesOk_mem {l : List Field} (h : namesOk l = true) : ∀ f ∈ l, f.name ≠ "_" := by
  induction l with
  | nil => intro f hf; cases hf
  | cons a r ih =>
    replace h : bi (a.name == "_") false (namesOk r) = true := h
    cases ha : a.name == "_"
    · rw [ha, bi_false] at h
      intro f hf
      cases hf with
      | head => simpa using ha
      | tail _ hf => exact ih h f hf
    · rw [ha] at h; cases h
theorem VR.str_form {l : List Nat} {v : Value} (h : VR g (.str l) v) : ∃ s : ByteArray, v = .string s ∧ l = byteL s.data.toList := by
  cases h with | str s => exact ⟨s, rfl, rfl⟩
theorem keyEq_run {t : TypeId} {ti : TI} (ht : TOk P t ti) {x y : AV} {xv yv : Value} (hx : VR g x xv) (hy : VR g y yv) {b : Bool} (e : keyEq ti.kind x y = some b) (d : Nat) (w : World) : isAgg ti.kind = false ∧ (Op.equalIn (d + 1) t xv yv).run P w = .ok b w := by
  cases hk : ti.kind <;> rw [hk] at e <;> try (cases e; done)
  case bool =>
    obtain ⟨p, q, rfl, rfl, rfl⟩ := eqB_some e
    cases hx; cases hy
    obtain ⟨dd, hd, hkd⟩ := ht.und
    rw [hk] at hkd
    cases dd <;> first | (cases hkd; done) | skip
    exact ⟨rfl, run_equalIn_bool' w d t _ _ hd⟩
  case int k =>
    replace e : keyI x y = some b := e
    unfold keyI at e
    cases h1 : asInt x with
    | none => rw [h1] at e; cases e
    | some p =>
      cases h2 : asInt y with
      | none => rw [h1, h2] at e; cases e
      | some q =>
        rw [h1, h2] at e
        simp only [oc_some] at e
        have := asInt_some h1; subst this
        have := asInt_some h2; subst this
        cases hx; cases hy
        cases hkk : Nat.beq (ikN p.1) (ikN q.1)
        · rw [hkk] at e; cases e
        · rw [hkk, bi_true] at e
          injection e with e
          rw [ieq_eq] at e
          subst e
          have := ikN_inj hkk
          rw [← this]
          exact ⟨rfl, run_equalIn_int w d t _ k _ _ (ht.int hk)⟩
  case str =>
    replace e : keyS x y = some b := e
    unfold keyS at e
    cases h1 : asStr x with
    | none => rw [h1] at e; cases e
    | some p =>
      cases h2 : asStr y with
      | none => rw [h1, h2] at e; cases e
      | some q =>
        rw [h1, h2] at e
        simp only [oc_some] at e
        have := asStr_some h1; subst this
        have := asStr_some h2; subst this
        obtain ⟨s, rfl, rfl⟩ := hx.str_form
        obtain ⟨u, rfl, rfl⟩ := hy.str_form
        injection e with e
        subst e
        refine ⟨rfl, ?_⟩
        rw [run_equalIn_string w d t _ _ (ht.str hk), lbeq_eq, byteL_beq, toList_data, toList_data]
theorem eqFs_run {l m : List AV} {l' m' : List Value} (hl : VRs g l l') (hm : VRs g m m') (d : Nat) (w : World) : ∀ (fs : List Field) {b : Bool}, (∀ f ∈ fs, f.name ≠ "_") → eqFs (mkTI P) (fs.map fun f => (f.offset, f.type)) l m = some b → (Op.eqFields (d + 1) l'.toArray m'.toArray fs).run P w = .ok b w
  | [], b, _, e => by injection e with e; subst e; simp [Op.eqFields]
  | f :: r, b, hn, e => by
    replace e : oc none (fun ti => oc none (fun a => oc none (fun b => oc none (fun c => bi c (eqFs (mkTI P) (r.map fun f => (f.offset, f.type)) l m) (some false)) (keyEq ti.kind a b)) (idx f.offset m)) (idx f.offset l)) (mkTI P f.type) = some b := e
    cases ht : mkTI P f.type with
    | none => rw [ht] at e; cases e
    | some ti =>
      rw [ht, oc_some, idx_eq, idx_eq] at e
      cases h1 : l[f.offset]? with
      | none => rw [h1] at e; cases e
      | some a =>
        rw [h1, oc_some] at e
        cases h2 : m[f.offset]? with
        | none => rw [h2] at e; cases e
        | some c =>
          rw [h2, oc_some] at e
          cases h3 : keyEq ti.kind a c with
          | none => rw [h3] at e; cases e
          | some q =>
            rw [h3, oc_some] at e
            obtain ⟨a', e1, va⟩ := hl.at h1
            obtain ⟨c', e2, vc⟩ := hm.at h2
            have hT := mkTI_some ht
            obtain ⟨hag, heq⟩ := keyEq_run hT va vc h3 d w
            have hpa : (Go.part f.type l'.toArray f.offset).run P w = .ok a' w := by simp [Go.part, Sem.run_bind, hT.isAgg, hag, e1, Result.andThen]
            have hpc : (Go.part f.type m'.toArray f.offset).run P w = .ok c' w := by simp [Go.part, Sem.run_bind, hT.isAgg, hag, e2, Result.andThen]
            rw [Op.eqFields, if_pos (hn f (.head _))]
            simp only [Sem.run_bind, hpa, hpc, heq, Result.andThen_ok]
            cases q
            · injection e with e
              subst e
              simp
            · rw [bi_true] at e
              simp only [Bool.not_true, Bool.false_eq_true, if_false]
              exact eqFs_run hl hm d w r (fun x hx => hn x (.tail _ hx)) e
theorem eqT_ok {t : TypeId} {ti : TI} (ht : TOk P t ti) {x y : AV} {xv yv : Value} (hx : VR g x xv) (hy : VR g y yv) {b : Bool} (e : eqT (mkTI P) ti x y = some b) : EqRun P w t xv yv b := by
  unfold eqT at e
  cases hs : structF ti.kind with
  | none => rw [hs, oc_none] at e; exact (eqK_ok ht hx hy e).run
  | some fs =>
    rw [hs, oc_some] at e
    have hk := structF_some hs
    unfold eqAg at e
    cases hq : ti.eqs
    · rw [hq] at e; cases e
    · rw [hq, bi_true] at e
      cases h1 : asAgg x with
      | none => rw [h1] at e; cases e
      | some l =>
        cases h2 : asAgg y with
        | none => rw [h1, h2] at e; cases e
        | some m =>
          rw [h1, h2, oc_some, oc_some] at e
          have hxe : x = .agg l := by cases x <;> first | (injection h1 with h1; subst h1; rfl) | cases h1
          have hye : y = .agg m := by cases y <;> first | (injection h2 with h2; subst h2; rfl) | cases h2
          subst hxe; subst hye
          cases hx with | agg _ l' hl _ =>
          cases hy with | agg _ m' hm _ =>
          obtain ⟨i, d, z, hi0, hd, hz0, rfl, hac, hlen0, hagv⟩ := ht.ex
          replace hq : eqsOf P t d = true := hq
          replace hk : kOf d = .struct fs := hk
          unfold eqsOf at hq
          cases q1 : P.stoodInHeld t
          · rw [q1, bi_false] at hq
            cases q2 : P.eqGuardType P.depth t
            · rw [q2, bi_false] at hq
              cases d <;> first | (cases hk; done) | skip
              rename_i fields
              replace hk : TK.struct (fields.toList.map fun f => (f.offset, f.type)) = .struct fs := hk
              injection hk with hk
              subst hk
              have hn := namesOk_mem (show namesOk fields.toList = true from hq)
              have hf : P.fieldsOf t = fields := by unfold Program.fieldsOf; rw [hd]
              have hr := eqFs_run (P := P) hl hm 9998 w fields.toList hn e
              have hr2 : (Op.equalIn 10000 t (.agg l'.toArray) (.agg m'.toArray)).run P w = .ok b w := by
                rw [show (10000 : Nat) = 9999 + 1 from rfl, run_equalIn_struct w 9999 t _ _ (by rw [hf]; exact hd) q1, hf]
                exact hr
              exact ⟨by rw [run_eql_struct, hr2]; rfl, by rw [run_neq_struct, hr2]; rfl, fun op u v => run_eqGuard_agg w op t u v _ _ q2⟩
            · rw [q2] at hq; cases hq
          · rw [q1] at hq; cases hq
/-- A known number beside one that is at least n. -/
theorem bopY_good (hr : HR B0 g h w) (op : BinOp) (t : TypeId) (u v : Operand) (p : IntKind × Int) (y : AV) (yv : Value) (hy : VR g y yv) :
    VG P B0 g h w (do eqGuard op t u v (.int p.1 p.2) yv; binOp op t (.int p.1 p.2) yv) (bopY h op p y) := by
  unfold bopY
  cases hn : asXnat y with
  | none => trivial
  | some n =>
    have := asXnat_some hn; subst this
    generalize hyy : AV.xnat n = yy at hy
    cases hy <;> cases hyy
    rename_i n' hle
    simp only [oc_some]
    cases hk : Nat.beq (ikN p.1) 3
    · trivial
    rw [bi_true]
    have hk : p.1 = .i64 := ikN_inj (k' := .i64) hk
    rw [hk]
    have hg : eqGuard op t u v (.int .i64 p.2) (.int .i64 n') = pure () := by cases op <;> rfl
    rw [hg]
    cases op <;> try trivial
    show VG P B0 g h w _ (bi (ilt p.2 (.ofNat n)) (.val (.bool true) h) .no)
    rw [ilt_eq]
    cases e : decide (p.2 < Int.ofNat n)
    · trivial
    · have e : p.2 < (n : Int) := by simpa using e
      have e2 : p.2 < (n' : Int) := by omega
      exact VG.same hr (v' := .bool true) (by simp [binOp, Op.intCmp, e2]) (.bool _)
/-- A number that is at least n beside a known one. -/
theorem bopX_good (hr : HR B0 g h w) (op : BinOp) (t : TypeId) (u v : Operand) (n : Nat) (x y : AV) (xv yv : Value) (hxn : x = .xnat n) (hx : VR g x xv) (hy : VR g y yv) :
    VG P B0 g h w (do eqGuard op t u v xv yv; binOp op t xv yv) (bopX h op n y) := by
  cases hx <;> cases hxn
  rename_i n' hle
  unfold bopX
  cases h3 : asInt y with
  | none => trivial
  | some q =>
    have := asInt_some h3; subst this
    cases hy
    simp only [oc_some]
    cases hk : Nat.beq (ikN q.1) 3
    · trivial
    rw [bi_true]
    have hk : q.1 = .i64 := ikN_inj (k' := .i64) hk
    rw [hk]
    have hg : eqGuard op t u v (.int .i64 n') (.int .i64 q.2) = pure () := by cases op <;> rfl
    rw [hg]
    cases op <;> try trivial
    case geq =>
      show VG P B0 g h w _ (bi (ilt (.ofNat n) q.2) .no (.val (.bool true) h))
      rw [ilt_eq]
      cases e : decide (Int.ofNat n < q.2)
      · have e : ¬ ((n : Int) < q.2) := by simpa using e
        have e2 : q.2 ≤ (n' : Int) := by omega
        exact VG.same hr (v' := .bool true) (by simp [binOp, Op.intCmp, e2]) (.bool _)
      · trivial
    case gtr =>
      show VG P B0 g h w _ (bi (ilt q.2 (.ofNat n)) (.val (.bool true) h) .no)
      rw [ilt_eq]
      cases e : decide (q.2 < Int.ofNat n)
      · trivial
      · have e : q.2 < (n : Int) := by simpa using e
        have e2 : q.2 < (n' : Int) := by omega
        exact VG.same hr (v' := .bool true) (by simp [binOp, Op.intCmp, e2]) (.bool _)
    case lss =>
      show VG P B0 g h w _ (bi (ilt (.ofNat n) q.2) .no (.val (.bool false) h))
      rw [ilt_eq]
      cases e : decide (Int.ofNat n < q.2)
      · have e : ¬ ((n : Int) < q.2) := by simpa using e
        have e2 : ¬ ((n' : Int) < q.2) := by omega
        exact VG.same hr (v' := .bool false) (by simp [binOp, Op.intCmp]; omega) (.bool _)
      · trivial
theorem and7 (n : Int) : IntKind.i64.wrap (BitVec.ofInt 64 n &&& BitVec.ofInt 64 7).toNat = (n % 18446744073709551616) % 8 := by
  have h1 : (BitVec.ofInt 64 n &&& BitVec.ofInt 64 7).toNat = (BitVec.ofInt 64 n).toNat % 8 := by
    rw [BitVec.toNat_and]
    exact Nat.and_two_pow_sub_one_eq_mod _ 3
  rw [h1, IntKind.wrap_i64, BitVec.toNat_ofInt]
  omega
/-- A number that is known by a residue. -/
theorem bopR_good (hr : HR B0 g h w) (op : BinOp) (t : TypeId) (u v : Operand) (r : Xr) (y : AV) (xv yv : Value) (hx : VR g (.xres r.k r.m r.r) xv) (hy : VR g y yv) :
    VG P B0 g h w (do eqGuard op t u v xv yv; binOp op t xv yv) (oc (bopO op h (mkTI P) (mkTI P t) (.xres r.k r.m r.r) y) (fun r => bopR h op r y) (some r)) := by
  simp only [oc_some]
  unfold bopR
  cases h3 : asInt y with
  | none => trivial
  | some q =>
    have := asInt_some h3; subst this
    cases hy
    simp only [oc_some]
    have hg : ∀ k n, eqGuard op t u v (.int k n) (.int q.1 q.2) = pure () := fun k n => by cases op <;> rfl
    cases op <;> try trivial
    case rem =>
      show VG P B0 g h w _ (bi (Nat.beq r.k 1) (bi (Nat.beq (ikN q.1) 3) (bi (ieq q.2 (.ofNat r.m)) (bi (Nat.blt 0 r.m) (.val (.int .i64 r.r) h) .no) .no) .no) (bi (Nat.beq r.k 2) (bi (Nat.beq (ikN q.1) 7) (bi (ieq q.2 (.ofNat r.m)) (bi (Nat.blt 0 r.m) (.val (.int .u64 r.r) h) .no) .no) .no) .no))
      cases e1 : Nat.beq r.k 1
      · rw [bi_false]
        cases e2 : Nat.beq r.k 2
        · trivial
        rw [bi_true]
        cases e3 : Nat.beq (ikN q.1) 7
        · trivial
        rw [bi_true]
        cases e4 : ieq q.2 (.ofNat r.m)
        · trivial
        rw [bi_true]
        cases e5 : Nat.blt 0 r.m
        · trivial
        rw [bi_true]
        have f2 := Nat.eq_of_beq_eq_true e2
        have f3 : q.1 = .u64 := ikN_inj (k' := .u64) e3
        have f4 : q.2 = (r.m : Int) := by rw [ieq_eq] at e4; simpa using e4
        have f5 : 0 < r.m := by simpa [Nat.blt_eq] using e5
        obtain ⟨k, m, r'⟩ := r
        dsimp only at hx f2 f4 f5 ⊢
        subst f2
        cases hx with | xres2 _ _ n h0 hn =>
        rw [hg, f3, f4]
        have hm : ¬ ((m : Int) = 0) := by omega
        refine VG.same hr (v' := .int .u64 r') ?_ (.int _ _)
        have : n.tmod m = r' := by rw [Int.tmod_eq_emod_of_nonneg h0]; exact hn
        simp [binOp, Op.intDiv, this]
        omega
      · rw [bi_true]
        cases e3 : Nat.beq (ikN q.1) 3
        · trivial
        rw [bi_true]
        cases e4 : ieq q.2 (.ofNat r.m)
        · trivial
        rw [bi_true]
        cases e5 : Nat.blt 0 r.m
        · trivial
        rw [bi_true]
        have f1 := Nat.eq_of_beq_eq_true e1
        have f3 : q.1 = .i64 := ikN_inj (k' := .i64) e3
        have f4 : q.2 = (r.m : Int) := by rw [ieq_eq] at e4; simpa using e4
        have f5 : 0 < r.m := by simpa [Nat.blt_eq] using e5
        obtain ⟨k, m, r'⟩ := r
        dsimp only at hx f1 f4 f5 ⊢
        subst f1
        cases hx with | xres1 _ _ n hn =>
        rw [hg, f3, f4]
        have hm : ¬ ((m : Int) = 0) := by omega
        refine VG.same hr (v' := .int .i64 r') ?_ (.int _ _)
        simp [binOp, Op.intDiv, hn]
        omega
    case and =>
      show VG P B0 g h w _ (bi (Nat.beq r.k 0) (bi (Nat.beq (ikN q.1) 3) (bi (ieq q.2 7) (bi (Nat.beq r.m 8) (.val (.int .i64 r.r) h) .no) .no) .no) .no)
      cases e1 : Nat.beq r.k 0
      · trivial
      rw [bi_true]
      cases e3 : Nat.beq (ikN q.1) 3
      · trivial
      rw [bi_true]
      cases e4 : ieq q.2 7
      · trivial
      rw [bi_true]
      cases e5 : Nat.beq r.m 8
      · trivial
      rw [bi_true]
      have f1 := Nat.eq_of_beq_eq_true e1
      have f3 : q.1 = .i64 := ikN_inj (k' := .i64) e3
      have f4 : q.2 = 7 := by rw [ieq_eq] at e4; simpa using e4
      have f5 := Nat.eq_of_beq_eq_true e5
      obtain ⟨k, m, r'⟩ := r
      dsimp only at hx f1 f5 ⊢
      subst f1
      subst f5
      cases hx with | xres0 _ _ n _ hn =>
      rw [hg, f3, f4]
      refine VG.same hr (v' := .int .i64 r') ?_ (.int _ _)
      have := and7 n
      simp [binOp, Op.intBits]
      rw [← hn]
      exact this
theorem cmpXi_good (hr : HR B0 g h w) {s : Sem Value} {t f b : Bool} (hs : s.run P w = .ok (.bool b) w) (ht : t = true → b = true) (hf : f = true → b = false) : VG P B0 g h w s (cmpXi h t f) := by
  unfold cmpXi
  cases t
  · rw [bi_false]
    cases f
    · trivial
    · rw [bi_true]
      have := hf rfl
      subst this
      exact VG.same hr hs (.bool _)
  · rw [bi_true]
    have := ht rfl
    subst this
    exact VG.same hr hs (.bool _)
theorem okXi_good (hr : HR B0 g h w) {s : Sem Value} {x : Xi} {m : Int} (hs : s.run P w = .ok (.int .i64 (IntKind.i64.wrap m)) w) (hm : m = x.a * g.env x.k + x.c) (hl : x.lo ≤ m) (hh : m ≤ x.hi) : VG P B0 g h w s (okXi x h) := by
  unfold okXi
  rw [ilt_eq, ilt_eq]
  cases e1 : decide (x.lo < Int.negSucc 4611686018427387903)
  · rw [bi_false]
    cases e2 : decide (Int.ofNat 4611686018427387904 < x.hi)
    · rw [bi_false]
      have e1 : ¬ x.lo < -4611686018427387904 := by simpa using e1
      have e2 : ¬ (4611686018427387904 : Int) < x.hi := by simpa using e2
      have hw : IntKind.i64.wrap m = m := by rw [IntKind.wrap_i64]; omega
      rw [hw] at hs
      exact VG.same hr hs (.xi x m hm hl hh)
    · trivial
  · trivial
theorem bopXi_good (hr : HR B0 g h w) (op : BinOp) (t : TypeId) (u v : Operand) (x : Xi) (y : AV) (xv yv : Value) (hx : VR g (.xi x) xv) (hy : VR g y yv) :
    VG P B0 g h w (do eqGuard op t u v xv yv; binOp op t xv yv) (bopXi h op x y) := by
  cases hx with | xi _ n hn hl hh =>
  unfold bopXi
  cases h3 : asInt y with
  | none => trivial
  | some q =>
    have := asInt_some h3; subst this
    cases hy
    simp only [oc_some]
    cases hk : Nat.beq (ikN q.1) 3
    · trivial
    rw [bi_true]
    have hk : q.1 = .i64 := ikN_inj (k' := .i64) hk
    rw [hk]
    have hg : eqGuard op t u v (.int .i64 n) (.int .i64 q.2) = pure () := by cases op <;> rfl
    rw [hg]
    cases op <;> try trivial
    case add =>
      show VG P B0 g h w _ (okXi (addXi x q.2) h)
      refine okXi_good hr (m := n + q.2) (by simp [binOp, Op.intArith]) ?_ (Int.add_le_add_right hl _) (Int.add_le_add_right hh _)
      show n + q.2 = x.a * g.env x.k + (x.c + q.2)
      omega
    case sub =>
      show VG P B0 g h w _ (okXi (addXi x (-q.2)) h)
      refine okXi_good hr (m := n - q.2) (by simp [binOp, Op.intArith]) ?_ (show x.lo + -q.2 ≤ n - q.2 by omega) (show n - q.2 ≤ x.hi + -q.2 by omega)
      show n - q.2 = x.a * g.env x.k + (x.c + -q.2)
      omega
    case mul =>
      show VG P B0 g h w _ (oc .no (fun q => okXi (mulXi x q) h) (natI q.2))
      cases hq : natI q.2 with
      | none => trivial
      | some m =>
        have hm : q.2 = (m : Int) := by
          cases hq2 : q.2 with
          | ofNat k => rw [hq2] at hq; injection hq with hq; rw [hq]; rfl
          | negSucc k => rw [hq2] at hq; cases hq
        rw [hm]
        simp only [oc_some]
        have h0 : (0 : Int) ≤ (m : Int) := by omega
        refine okXi_good hr (m := n * m) (by simp [binOp, Op.intArith]) ?_ (Int.mul_le_mul_of_nonneg_right hl h0) (Int.mul_le_mul_of_nonneg_right hh h0)
        show n * m = x.a * m * g.env x.k + x.c * m
        rw [hn, Int.add_mul, Int.mul_right_comm]
    case lss =>
      show VG P B0 g h w _ (cmpXi h (ilt x.hi q.2) (ileq q.2 x.lo))
      refine cmpXi_good hr (b := decide (n < q.2)) (by simp [binOp, Op.intCmp]) (fun e => ?_) (fun e => ?_)
      · rw [ilt_eq] at e; simp at e ⊢; omega
      · unfold ileq at e; rw [ilt_eq, bi_eq] at e; simp at e ⊢; omega
    case geq =>
      show VG P B0 g h w _ (cmpXi h (ileq q.2 x.lo) (ilt x.hi q.2))
      refine cmpXi_good hr (b := decide (q.2 ≤ n)) (by simp [binOp, Op.intCmp]) (fun e => ?_) (fun e => ?_)
      · unfold ileq at e; rw [ilt_eq, bi_eq] at e; simp at e ⊢; omega
      · rw [ilt_eq] at e; simp at e ⊢; omega
    case leq =>
      show VG P B0 g h w _ (cmpXi h (ileq x.hi q.2) (ilt q.2 x.lo))
      refine cmpXi_good hr (b := decide (n ≤ q.2)) (by simp [binOp, Op.intCmp]) (fun e => ?_) (fun e => ?_)
      · unfold ileq at e; rw [ilt_eq, bi_eq] at e; simp at e ⊢; omega
      · rw [ilt_eq] at e; simp at e ⊢; omega
    case gtr =>
      show VG P B0 g h w _ (cmpXi h (ilt q.2 x.lo) (ileq x.hi q.2))
      refine cmpXi_good hr (b := decide (q.2 < n)) (by simp [binOp, Op.intCmp]) (fun e => ?_) (fun e => ?_)
      · rw [ilt_eq] at e; simp at e ⊢; omega
      · unfold ileq at e; rw [ilt_eq, bi_eq] at e; simp at e ⊢; omega
    case eql =>
      show VG P B0 g h w _ (cmpXi h false (bi (ilt q.2 x.lo) true (ilt x.hi q.2)))
      refine cmpXi_good hr (b := n == q.2) (by simp [binOp, Op.intCmp]) (fun e => by cases e) (fun e => ?_)
      rw [ilt_eq, ilt_eq, bi_eq] at e
      have : n ≠ q.2 := by
        split at e <;> simp_all <;> omega
      simpa using this
    case neq =>
      show VG P B0 g h w _ (cmpXi h (bi (ilt q.2 x.lo) true (ilt x.hi q.2)) false)
      refine cmpXi_good hr (b := n != q.2) (by simp [binOp, Op.intCmp]) (fun e => ?_) (fun e => by cases e)
      rw [ilt_eq, ilt_eq, bi_eq] at e
      have : n ≠ q.2 := by
        split at e <;> simp_all <;> omega
      simpa using this
/-- Two values and an operator. -/
theorem binop_good (hr : HR B0 g h w) (op : BinOp) (t : TypeId) (u v : Operand) (x y : AV) (xv yv : Value) (hx : VR g x xv) (hy : VR g y yv) :
    VG P B0 g h w (do eqGuard op t u v xv yv; binOp op t xv yv) (binop (mkTI P) h op (mkTI P t) x y) := by
  unfold binop
  cases h1 : asInt x with
  | some p =>
    have := asInt_some h1; subst this
    cases hx
    simp only [oc_some]
    cases h2 : asInt y with
    | none => exact bopY_good hr op t u v p y yv hy
    | some q =>
      have := asInt_some h2; subst this
      cases hy
      simp only [oc_some]
      have hg : eqGuard op t u v (.int p.1 p.2) (.int q.1 q.2) = pure () := by cases op <;> rfl
      rw [hg]
      cases hA : Nat.beq (ikN p.1) (ikN q.1)
      · cases hS : isSh op
        · trivial
        · exact bopI_good (P := P) hr op t p.1 q.1 p.2 q.2 (.inr (by cases op <;> first | exact .inl rfl | exact .inr rfl | cases hS))
      · exact bopI_good (P := P) hr op t p.1 q.1 p.2 q.2 (.inl (ikN_inj hA))
  | none =>
    simp only [oc_none]
    unfold bop2
    cases h2 : asStr x with
    | some a =>
      have := asStr_some h2; subst this
      generalize hxx : AV.str a = xx at hx
      cases hx <;> cases hxx
      rename_i s
      simp only [oc_some]
      cases h3 : asStr y with
      | none => trivial
      | some b =>
        have := asStr_some h3; subst this
        generalize hyy : AV.str b = yy at hy
        cases hy <;> cases hyy
        rename_i s'
        have := bopS_good (P := P) hr op t s s'
        have hg : eqGuard op t u v (.string s) (.string s') = pure () := by cases op <;> rfl
        rw [hg]
        exact this
    | none =>
      simp only [oc_none]
      unfold bop4
      cases hz : asXi x with
      | some z =>
        have := asXi_some hz; subst this
        exact bopXi_good hr op t u v z y xv yv hx hy
      | none =>
      simp only [oc_none]
      unfold bop3
      cases hn : asXnat x with
      | some n =>
        have := asXnat_some hn; subst this
        exact bopX_good hr op t u v n _ y xv yv rfl hx hy
      | none =>
      cases hx' : asXres x with
      | some r =>
        have := asXres_some hx'; subst this
        exact bopR_good hr op t u v r y xv yv hx hy
      | none =>
        simp only [oc_none]
        cases op <;> try trivial
        case eql =>
          show VG P B0 g h w _ (oc .no (fun ti => kBoolO h (eqT (mkTI P) ti x y)) (mkTI P t))
          cases ht : mkTI P t with
          | none => trivial
          | some ti =>
            simp only [oc_some]
            cases he : eqT (mkTI P) ti x y with
            | none => trivial
            | some b =>
              have hk := eqT_ok (w := w) (mkTI_some ht) hx hy he
              unfold kBoolO
              simp only [oc_some]
              rw [kBool_eq]
              exact VG.same hr (by simp [hk.gd, hk.op, Result.andThen]) (.bool _)
        case neq =>
          show VG P B0 g h w _ (oc .no (fun ti => oc .no (fun b => kBool h (bi b false true)) (eqT (mkTI P) ti x y)) (mkTI P t))
          cases ht : mkTI P t with
          | none => trivial
          | some ti =>
            simp only [oc_some]
            cases he : eqT (mkTI P) ti x y with
            | none => trivial
            | some b =>
              have hk := eqT_ok (w := w) (mkTI_some ht) hx hy he
              simp only [oc_some]
              rw [kBool_not]
              exact VG.same hr (by simp [hk.gd, hk.op', Result.andThen]) (.bool _)
theorem unop_good (hr : HR B0 g h w) (op : UnOp) (x : AV) (xv : Value) (hx : VR g x xv) : VG P B0 g h w (Op.unary op xv) (unop h op x) := by
  cases op
  case neg =>
    show VG P B0 g h w _ (oc .no (fun p => kW h p.1 (0 - p.2)) (asInt x))
    cases h1 : asInt x with
    | none => trivial
    | some p =>
      have := asInt_some h1; subst this
      cases hx
      simp only [oc_some]
      rw [kW_eq]
      exact VG.same hr (by simp [Op.unary, Op.intArith]) (.int _ _)
  case not =>
    show VG P B0 g h w _ (oc .no (fun b => kBool h (bi b false true)) (asBool x))
    cases h1 : asBool x with
    | none => trivial
    | some p =>
      have := asBool_some h1; subst this
      cases hx
      simp only [oc_some]
      rw [kBool_not]
      exact VG.same hr (by simp [Op.unary]) (.bool _)
  case xor =>
    show VG P B0 g h w _ (oc .no (fun p => bopI .xor h p.1 (maskI p.1) p.2) (asInt x))
    cases h1 : asInt x with
    | none => trivial
    | some p =>
      obtain ⟨k, n⟩ := p
      have := asInt_some h1; subst this
      cases hx
      simp only [oc_some]
      have e : Op.unary .xor (.int k n) = binOp .xor 0 (.int k (maskI k)) (.int k n) := by cases k <;> rfl
      rw [e]
      exact bopI_good hr .xor 0 k k (maskI k) n (.inl rfl)
  all_goals trivial
end
end Go.Proofs.YtknnaeejkmlnbaaGreatDoor.Kx

/- More of the evaluator's operations: addresses, parts, pieces, lookups. -/
namespace Go.Proofs.YtknnaeejkmlnbaaGreatDoor.Kx
section
variable {P : Program} {B0 : Nat} {g : G} {h : H} {w : World}

theorem kVal_good (hr : HR B0 g h w) {s : Sem Value} {o : Option AV} (hs : ∀ v, o = some v → ∃ v', s.run P w = .ok v' w ∧ VR g v v') : VG P B0 g h w s (kVal h o) := by
  cases o with
  | none => trivial
  | some v => obtain ⟨v', h1, h2⟩ := hs v rfl; exact VG.same hr h1 h2
theorem kAgg_good (hr : HR B0 g h w) {s : Sem Value} {o : Option (List AV)} (hs : ∀ l, o = some l → ∃ v', s.run P w = .ok v' w ∧ VR g (.agg l) v') : VG P B0 g h w s (kAgg h o) := by
  cases o with
  | none => trivial
  | some v => obtain ⟨v', h1, h2⟩ := hs v rfl; exact VG.same hr h1 h2
theorem VR.agg_inv {l : List AV} {v : Value} (hv : VR g (.agg l) v) : ∃ l', v = .agg l'.toArray ∧ VRs g l l' ∧ ∀ x ∈ l', one1 x = true := by
  cases hv with | agg _ l' h1 h2 => exact ⟨l', rfl, h1, h2⟩
theorem VR.tup_inv {l : List AV} {v : Value} (hv : VR g (.tup l) v) : ∃ l', v = .tuple l'.toArray ∧ VRs g l l' := by
  cases hv with | tup _ l' h1 => exact ⟨l', rfl, h1⟩
theorem VR.str_inv {l : List Nat} {v : Value} (hv : VR g (.str l) v) : ∃ s, v = .string s ∧ l = byteL s.data.toList := by
  generalize hx : AV.str l = x at hv
  cases hv <;> cases hx
  exact ⟨_, rfl, rfl⟩
theorem byteL_length (l : List UInt8) : (byteL l).length = l.length := by rw [byteL_eq]; simp

/-! Parts. -/
theorem part_good (hr : HR B0 g h w) (t : TypeId) (l : List AV) (l' : List Value) (hl : VRs g l l') (h1 : ∀ x ∈ l', one1 x = true) (o : Nat) : VG P B0 g h w (Go.part t l'.toArray o) (part h l o (mkTI P t)) := by
  unfold part
  cases ht : mkTI P t with
  | none => trivial
  | some ti =>
    have hT := mkTI_some ht
    simp only [oc_some]
    cases ha : isAgg ti.kind
    · rw [bi_false, idx_eq]
      refine kVal_good hr fun v hv => ?_
      obtain ⟨v', e, hvv⟩ := hl.at hv
      exact ⟨v', by simp [Go.part, Sem.run_bind, hT.isAgg, ha, e, Result.andThen], hvv⟩
    · rw [bi_true]
      refine kAgg_good hr fun r hs => ?_
      obtain ⟨hle, rfl⟩ := sub_some hs
      refine ⟨.agg ((l'.drop o).take ti.size).toArray, ?_, .agg _ _ ((hl.drop o).take _) (fun x hx => h1 x (List.mem_of_mem_drop (List.mem_of_mem_take hx)))⟩
      simp [Go.part, Sem.run_bind, hT.isAgg, ha, hT.sizeOf, Result.andThen]
theorem fieldOf_some {k : TK} {i : Nat} {q : Nat × TypeId} (e : fieldOf k i = some q) : ∃ fs, k = .struct fs ∧ fs[i]? = some q := by
  cases k <;> first | (exact absurd e (by intro e; cases e)) | skip
  rename_i fs
  exact ⟨fs, rfl, by rw [← e]; exact (idx_eq _ _).symm⟩
theorem TOk.field {t : TypeId} {ti : TI} (ht : TOk P t ti) {i : Nat} {q : Nat × TypeId} (e : fieldOf ti.kind i = some q) : ∃ fields f, P.underlying t = some (.struct fields) ∧ fields[i]? = some f ∧ f.offset = q.1 ∧ f.type = q.2 := by
  obtain ⟨fs, hk, hf⟩ := fieldOf_some e
  obtain ⟨fields, hu, rfl⟩ := ht.struct hk
  rw [List.getElem?_map] at hf
  cases hff : fields.toList[i]? with
  | none => rw [hff] at hf; cases hf
  | some f =>
    rw [hff] at hf
    injection hf with hf
    subst hf
    exact ⟨fields, f, hu, by simpa using hff, rfl, rfl⟩
theorem field_good (hr : HR B0 g h w) (t : TypeId) (f : Nat) (x : AV) (xv : Value) (hx : VR g x xv) : VG P B0 g h w (Instr.field t xv f) (xField (mkTI P) h f x (mkTI P t)) := by
  unfold xField
  cases h1 : asAgg x with
  | none => trivial
  | some l =>
    have := asAgg_some h1; subst this
    obtain ⟨l', rfl, hl, ho⟩ := hx.agg_inv
    simp only [oc_some]
    cases ht : mkTI P t with
    | none => trivial
    | some ti =>
      have hT := mkTI_some ht
      simp only [oc_some]
      cases hf : fieldOf ti.kind f with
      | none => trivial
      | some q =>
        simp only [oc_some]
        obtain ⟨fields, fd, hu, hfd, e1, e2⟩ := hT.field hf
        have := part_good (P := P) hr q.2 l l' hl ho q.1
        have e : (Instr.field t (.agg l'.toArray) f).run P w = (Go.part q.2 l'.toArray q.1).run P w := by
          rw [← e1, ← e2]
          simp [Instr.field, Sem.run_bind, run_underlying hu, hfd, Go.asAgg, Result.andThen]
        unfold VG at this ⊢
        rw [e]
        exact this
theorem fieldAddr_good (hr : HR B0 g h w) (t : TypeId) (f : Nat) (x : AV) (xv : Value) (hx : VR g x xv) : VG P B0 g h w (Instr.fieldAt t xv f) (xFieldAddr (mkTI P) h f x (mkTI P t)) := by
  unfold xFieldAddr
  cases h1 : asPtr x with
  | none => trivial
  | some p =>
    have := asPtr_some h1; subst this
    cases hx with | ptr b o B base hp =>
    simp only [oc_some]
    cases ht : mkTI P t with
    | none => trivial
    | some ti =>
      have hT := mkTI_some ht
      simp only [oc_some]
      cases hf : fieldOf ti.kind f with
      | none => trivial
      | some q =>
        simp only [oc_some]
        cases hs : szOf (mkTI P) q.2 with
        | none => trivial
        | some s =>
          simp only [oc_some]
          cases hz : Nat.beq s 0
          · rw [bi_false, nF_eq]
            obtain ⟨fields, fd, hu, hfd, e1, e2⟩ := hT.field hf
            have hs0 : s ≠ 0 := Nat.ne_of_beq_eq_false hz
            refine VG.same hr ?_ (.ptr p.1 _ B base hp)
            have hsz := fun w => szOf_run (P := P) hs w
            rw [← e2] at hsz
            simp [Instr.fieldAt, Sem.run_bind, run_underlying hu, hfd, Instr.sureAddr, fieldPlace, hsz, hs0, Result.andThen, add_none, e1, Nat.add_assoc]
          · trivial
theorem ia_good (hr : HR B0 g h w) (b o i n : Nat) (B base : Nat) (hp : g.pos b = some (B, base)) (e : TypeId) (s : Sem Value)
    (hs : ∀ sz, szOf (mkTI P) e = some sz → i < n → s.run P w = .ok (.pointer (some ⟨B, base + o + i * sz, none⟩)) w) : VG P B0 g h w s (ia h b o i n (szOf (mkTI P) e)) := by
  unfold ia
  cases hz : szOf (mkTI P) e with
  | none => trivial
  | some sz =>
    simp only [oc_some]
    cases hb : Nat.blt i n
    · trivial
    · rw [bi_true, nF_eq]
      have := hs sz hz (by simpa [Nat.blt_eq] using hb)
      refine VG.same hr this ?_
      have := VR.ptr (g := g) b (o + i * sz) B base hp
      rw [← Nat.add_assoc] at this
      exact this
theorem indexAddr_good (hr : HR B0 g h w) (t : TypeId) (x i : AV) (xv iv : Value) (hx : VR g x xv) (hi : VR g i iv) : VG P B0 g h w (Instr.indexAt t xv iv) (xIndexAddr (mkTI P) h x (intNat i) (mkTI P t)) := by
  unfold xIndexAddr
  cases h1 : intNat i with
  | none => trivial
  | some n =>
    obtain ⟨k, rfl⟩ := intNat_some h1
    cases hi
    simp only [oc_some]
    cases ht : mkTI P t with
    | none => trivial
    | some ti =>
      have hT := mkTI_some ht
      simp only [oc_some]
      cases hk : ti.kind
      case arr m e =>
        show VG P B0 g h w _ (oc .no (fun p => ia h p.1 p.2 n m (szOf (mkTI P) e)) (asPtr x))
        cases h2 : asPtr x with
        | none => trivial
        | some p =>
          have := asPtr_some h2; subst this
          cases hx with | ptr b o B base hp =>
          simp only [oc_some]
          refine ia_good hr p.1 p.2 n m B base hp e _ fun sz hz hlt => ?_
          have hsz := fun w => szOf_run (P := P) hz w
          have hlt' : (n : Int) < (m : Int) := by omega
          simp [Instr.indexAt, Sem.run_bind, asIntOf, run_underlying (hT.arr hk), Instr.sureAddr, hsz, Result.andThen, add_none, hlt, Nat.add_assoc]
      case slice e =>
        show VG P B0 g h w _ (oc .no (fun s => ia h s.b s.o n s.len (szOf (mkTI P) e)) (asSlc x))
        cases h2 : asSlc x with
        | none => trivial
        | some s =>
          have := asSlc_some h2; subst this
          obtain ⟨B, base, m, ro, hp, rfl, hro⟩ := hx.slc_form
          simp only [oc_some]
          refine ia_good hr s.b s.o n s.len B base hp e _ fun sz hz hlt => ?_
          obtain rfl := hro (by omega)
          have hsz := fun w => szOf_run (P := P) hz w
          have hlt' : (n : Int) < (s.len : Int) := by omega
          simp [Instr.indexAt, Sem.run_bind, asIntOf, run_underlying (hT.slice hk), hsz, Result.andThen, add_none, hlt, Nat.add_assoc]
      all_goals trivial
theorem index_good (hr : HR B0 g h w) (t : TypeId) (x i : AV) (xv iv : Value) (hx : VR g x xv) (hi : VR g i iv) : VG P B0 g h w (Instr.index t xv iv) (xIndex (mkTI P) h x (intNat i) (mkTI P t)) := by
  unfold xIndex
  cases h1 : intNat i with
  | none => trivial
  | some n =>
    obtain ⟨k, rfl⟩ := intNat_some h1
    cases hi
    simp only [oc_some]
    cases ht : mkTI P t with
    | none => trivial
    | some ti =>
      have hT := mkTI_some ht
      simp only [oc_some]
      cases hk : ti.kind
      case arr m e =>
        show VG P B0 g h w _ (oc .no (fun l => bi (Nat.blt n m) (oc .no (fun s => part h l (n * s) (mkTI P e)) (szOf (mkTI P) e)) .no) (asAgg x))
        cases h2 : asAgg x with
        | none => trivial
        | some l =>
          have := asAgg_some h2; subst this
          obtain ⟨l', rfl, hl, ho⟩ := hx.agg_inv
          simp only [oc_some]
          cases hb : Nat.blt n m
          · trivial
          · rw [bi_true]
            have hlt : n < m := by simpa [Nat.blt_eq] using hb
            cases hz : szOf (mkTI P) e with
            | none => trivial
            | some sz =>
              simp only [oc_some]
              have hsz := fun w => szOf_run (P := P) hz w
              have := part_good (P := P) hr e l l' hl ho (n * sz)
              have e : (Instr.index t (.agg l'.toArray) (.int k (n : Int))).run P w = (Go.part e l'.toArray (n * sz)).run P w := by
                simp [Instr.index, Sem.run_bind, asIntOf, run_underlying (hT.arr hk), hsz, Result.andThen, hlt]
              unfold VG at this ⊢
              rw [e]
              exact this
      case str =>
        show VG P B0 g h w _ (oc .no (fun l => oc .no (fun n => .val (.int .u8 (.ofNat n)) h) (idx n l)) (asStr x))
        cases h2 : asStr x with
        | none => trivial
        | some l =>
          have := asStr_some h2; subst this
          obtain ⟨s, rfl, rfl⟩ := hx.str_inv
          simp only [oc_some, idx_eq]
          cases hb : (byteL s.data.toList)[n]? with
          | none => trivial
          | some c =>
            simp only [oc_some]
            rw [byteL_eq, List.getElem?_map] at hb
            cases hc : s.data.toList[n]? with
            | none => rw [hc] at hb; cases hb
            | some u =>
              rw [hc] at hb
              injection hb with hb
              subst hb
              refine VG.same hr ?_ (.int _ _)
              have hn : n < s.size := by
                have := (List.getElem?_eq_some_iff.1 hc).1
                simpa using this
              have hget : s[n]? = some u := by
                rw [getElem?_pos s n hn]
                have := (List.getElem?_eq_some_iff.1 hc).2
                rw [← this]
                simp
                rfl
              simp [Instr.index, Sem.run_bind, asIntOf, run_underlying (hT.str hk), hget, Result.andThen]
      all_goals trivial
theorem extract_good (hr : HR B0 g h w) (x : AV) (xv : Value) (hx : VR g x xv) (i : Nat) : VG P B0 g h w (Instr.extract xv i) (xExtract h i x) := by
  unfold xExtract
  cases h1 : asTup x with
  | none => trivial
  | some l =>
    have := asTup_some h1; subst this
    obtain ⟨l', rfl, hl⟩ := hx.tup_inv
    simp only [oc_some, idx_eq]
    refine kVal_good hr fun v hv => ?_
    obtain ⟨v', e, hvv⟩ := hl.at hv
    exact ⟨v', by simp [Instr.extract, e], hvv⟩
end
end Go.Proofs.YtknnaeejkmlnbaaGreatDoor.Kx

/- The evaluator's operations that make new blocks. -/
namespace Go.Proofs.YtknnaeejkmlnbaaGreatDoor.Kx
section
variable {P : Program} {B0 : Nat} {g : G} {h : H} {w : World}

theorem CR.new {g' : G} {b B : Nat} {l : List AV} {t : TypeId} {w1 : World} {cs : Array Value} {fr : Nat × Nat} (hw : w1.heap[B]? = some (.cells cs t fr)) (hfr : ∀ i : Nat, ¬ (fr.1 ≤ i ∧ i < fr.2))
    (hl : l.length ≤ cs.size) (hv : ∀ (i : Nat) (v : AV), l[i]? = some v → ∃ v' : Value, cs[i]? = some v' ∧ VR g' v v' ∧ one1 v' = true) (hg : ∀ c s, g'.grow b = some (c, s) → 0 < s ∧ l.length ≤ c * s ∧ c * s ≤ cs.size) : CR g' b B 0 l t w1 :=
  ⟨cs, fr, hw, hfr, by omega, fun i v hi => by rw [Nat.zero_add]; exact hv i v hi, fun c s hc => by rw [Nat.zero_add]; exact hg c s hc⟩
/-- New in the model, and in the evaluator. -/
theorem new_good (hr : HR B0 g h w) (hB : B0 ≤ w.heap.size) (hp : g.pos h.next = none) (hgr : g.grow h.next = none) (l : List AV) (t : TypeId) (vf : Nat → AV) (gr : Option (Nat × Nat)) {s : Sem Value}
    (v' : Value) (w1 : World) (cs : Array Value) (fr : Nat × Nat) (hs : s.run P w = .ok v' w1) (hh : w1.heap = w.heap.push (.cells cs t fr)) (hos : w1.os = w.os) (ht : w1.tape = w.tape) (hou : w1.output = w.output)
    (hfr : ∀ i : Nat, ¬ (fr.1 ≤ i ∧ i < fr.2)) (hl : l.length ≤ cs.size) (hvs : ∀ (i : Nat) (v : AV), l[i]? = some v → ∃ v' : Value, cs[i]? = some v' ∧ VR g v v' ∧ one1 v' = true) (hg : ∀ c s, gr = some (c, s) → 0 < s ∧ l.length ≤ c * s ∧ c * s ≤ cs.size)
    (hv : VR (g.add h.next w.heap.size 0 gr) (vf h.next) v') : VG P B0 g h w s (kNew h (.cells l t) vf) := by
  unfold kNew
  rw [nF_eq]
  refine ⟨v', w1, _, hs, hv, Tr.alloc hr hB hp hgr _ _ gr hh hos ht hou (fun l' t' e => ?_) (fun es c e => by cases e)⟩
  injection e with e1 e2
  subst e1; subst e2
  refine CR.new (cs := cs) (fr := fr) (by rw [hh]; simp) hfr hl (fun i v hi => ?_) (fun c s hc => ?_)
  · obtain ⟨v', a, b, c⟩ := hvs i v hi
    exact ⟨v', a, b.mono (G.add_le g _ _ _ _ hp hgr), c⟩
  · have : gr = some (c, s) := by rw [← hc]; exact (if_pos rfl).symm
    exact hg c s this
theorem new_list (hr : HR B0 g h w) (hB : B0 ≤ w.heap.size) (hp : g.pos h.next = none) (hgr : g.grow h.next = none) (l : List AV) (t : TypeId) (vf : Nat → AV) {s : Sem Value}
    (v' : Value) (cs : List Value) (hs : s.run P w = .ok v' (w.alloc (.cells cs.toArray t))) (hl : VRs g l cs) (h1 : ∀ x ∈ cs, one1 x = true)
    (hv : VR (g.add h.next w.heap.size 0 none) (vf h.next) v') : VG P B0 g h w s (kNew h (.cells l t) vf) :=
  new_good hr hB hp hgr l t vf none v' _ cs.toArray (0, 0) hs rfl rfl rfl rfl (fun i => by simp) (by rw [hl.length]; simp) (fun i v hi => by
    obtain ⟨v', e, hvv⟩ := hl.at hi
    exact ⟨v', by simpa using e, hvv, h1 v' (List.mem_of_getElem? e)⟩) (fun c s e => by cases e) hv
theorem posNew (_hp : g.pos h.next = none) (gr : Option (Nat × Nat)) : (g.add h.next w.heap.size 0 gr).pos h.next = some (w.heap.size, 0) := if_pos rfl

theorem cells_inv {v : AV} {v' : Value} (hk : okV v = true) (hv : VR g v v') : VRs g (cellsOf v) v'.cells.toList ∧ ∀ x ∈ v'.cells.toList, one1 x = true := by
  cases hv
  case agg l l' h1 h2 => exact ⟨h1, h2⟩
  case any => cases hk
  case tup => cases hk
  all_goals refine ⟨.cons _ _ _ _ ?_ .nil, by simp [Value.cells, one1]⟩
  case bool b => exact .bool b
  case int k n => exact .int k n
  case str s => exact .str s
  case nilp => exact .nilp
  case ptr b o B base h => exact .ptr b o B base h
  case nils => exact .nils
  case slck b o n c B base ro h hn hro => exact .slck b o n c B base ro h hn hro
  case slcv b o n k B base c s ro h hg ho hn hro => exact .slcv b o n k B base c s ro h hg ho hn hro
  case nilm => exact .nilm
  case map b B h => exact .map b B h
  case fn f x y x' y' hx hy => exact .fn f x y x' y' hx hy
  case nilf => exact .nilf
  case ifc t v v' h => exact .ifc t v v' h
  case nili => exact .nili
  case xslc a n c k ge h he => exact .xslc a n c k ge h he
  case xnat k n h => exact .xnat k n h
  case xres0 m r n hn h => exact .xres0 m r n hn h
  case xres1 m r n h => exact .xres1 m r n h
  case xres2 m r n h0 h => exact .xres2 m r n h0 h
  case xi x n h h1 h2 => exact .xi x n h h1 h2
  case xz b n L B base ro c h hn h1 h2 => exact .xz b n L B base ro c h hn h1 h2

theorem alloc_good (hr : HR B0 g h w) (hB : B0 ≤ w.heap.size) (hp : g.pos h.next = none) (hgr : g.grow h.next = none) (e : TypeId) : VG P B0 g h w (Instr.alloc e true (.tuple #[])) (xAlloc h e (mkTI P e)) := by
  unfold xAlloc
  cases ht : mkTI P e with
  | none => trivial
  | some ti =>
    obtain ⟨z, hz, hv, h1, _, _⟩ := (mkTI_some ht).zero g
    simp only [oc_some]
    refine new_list hr hB hp hgr ti.zero e _ (.pointer (some ⟨w.heap.size, 0, none⟩)) z.cells.toList ?_ hv h1 (.ptr _ 0 _ 0 (posNew hp _))
    simp [Instr.alloc, Sem.run_bind, hz, Result.andThen, newVar, newRow]
theorem box_good (hr : HR B0 g h w) (hB : B0 ≤ w.heap.size) (hp : g.pos h.next = none) (hgr : g.grow h.next = none) (e : TypeId) (x : AV) (xv : Value) (hx : VR g x xv) : VG P B0 g h w (Instr.box e xv) (xBox h e x) := by
  unfold xBox
  cases hk : okV x
  · trivial
  · obtain ⟨hv, h1⟩ := cells_inv hk hx
    rw [bi_true]
    refine new_list hr hB hp hgr _ e _ (.pointer (some ⟨w.heap.size, 0, none⟩)) xv.cells.toList ?_ hv h1 (.ptr _ 0 _ 0 (posNew hp _))
    simp [Instr.box, Result.andThen, newVar, newRow]
theorem makeMap_good (hr : HR B0 g h w) (hB : B0 ≤ w.heap.size) (hp : g.pos h.next = none) (hgr : g.grow h.next = none) (t : TypeId) : VG P B0 g h w (Instr.makeMap t none) (kNew h (.map [] 0) .map) := by
  unfold kNew
  rw [nF_eq]
  refine ⟨.map (some w.heap.size), w.alloc (.map #[] 0), _, by simp [Instr.makeMap, Result.andThen], .map _ _ (posNew hp none), Tr.alloc hr hB hp hgr _ (.map #[] 0) none rfl rfl rfl rfl (fun _ _ e => by cases e) (fun es c e => ?_)⟩
  injection e with e1 e2
  subst e1; subst e2
  exact ⟨#[], rfl, .nil⟩

/-! Cells laid into cells. -/
theorem foldl_put (off : Nat) : ∀ (vs : List Value) (k : Nat) (cs : Array Value), off + k + vs.length ≤ cs.size →
    ((vs.zipIdx k).foldl (fun cs (p : Value × Nat) => cs.setIfInBounds (off + p.2) p.1) cs).toList = cs.toList.take (off + k) ++ (vs ++ cs.toList.drop (off + k + vs.length))
  | [], k, cs, _ => by simp
  | v :: r, k, cs, hl => by
    simp only [List.length_cons] at hl
    rw [List.zipIdx_cons, List.foldl_cons, foldl_put off r (k + 1) _ (by simp; omega)]
    simp only [Array.toList_setIfInBounds, List.length_cons]
    have h1 : (cs.toList.set (off + k) v).take (off + (k + 1)) = cs.toList.take (off + k) ++ [v] := by
      rw [← Nat.add_assoc, List.take_add_one, List.getElem?_set_self (by simp; omega), List.take_set_of_le (Nat.le_refl _)]
      rfl
    rw [h1, List.drop_set_of_lt (by omega), show off + (k + 1) + r.length = off + k + (r.length + 1) by omega]
    simp
theorem VRs.put {l ys r : List AV} {l' ys' : List Value} {o : Nat} (hl : VRs g l l') (hy : VRs g ys ys') (hp : put o ys l = some r) : o + ys'.length ≤ l'.length ∧ VRs g r (l'.take o ++ (ys' ++ l'.drop (o + ys'.length))) := by
  obtain ⟨h1, rfl⟩ := put_some hp
  rw [hl.length, hy.length] at h1
  refine ⟨h1, (hl.take o).append (hy.append ?_)⟩
  rw [hy.length]
  exact hl.drop _
inductive PRs (g : G) : List (Nat × AV) → List (Nat × Value) → Prop where
  | nil : PRs g [] []
  | cons (i : Nat) (v : AV) (v' : Value) (l : List (Nat × AV)) (l' : List (Nat × Value)) (hv : VR g v v') (hs : PRs g l l') : PRs g ((i, v) :: l) ((i, v') :: l')
theorem fill_good {pl pl' : Nat → Option (Nat × Nat)} (hpl : ∀ i q, pl i = some q → pl' i = some q) {ps : List (Nat × AV)} {ps' : List (Nat × Value)} (hps : PRs g ps ps') :
    ∀ {cs : List AV} {cs' : Array Value} {r : List AV}, VRs g cs cs'.toList → (∀ x ∈ cs'.toList, one1 x = true) → fillA pl ps cs = some r → ∃ r', Instr.fill pl' cs' ps' = some r' ∧ VRs g r r'.toList ∧ (∀ x ∈ r'.toList, one1 x = true) := by
  induction hps with
  | nil => intro cs cs' r hc h1 hf; injection hf with hf; subst hf; exact ⟨cs', rfl, hc, h1⟩
  | cons i v v' l l' hv _ ih =>
    intro cs cs' r hc h1 hf
    have hf : fill1 v (fun cs => fillA pl l cs) cs (pl i) = some r := hf
    unfold fill1 at hf
    cases hk : okV v
    · rw [hk] at hf; cases hf
    · rw [hk, bi_true] at hf
      cases hq : pl i with
      | none => rw [hq] at hf; cases hf
      | some q =>
        rw [hq] at hf
        simp only [oc_some, len_eq] at hf
        obtain ⟨hv1, hv2⟩ := cells_inv hk hv
        cases hb : Nat.beq (cellsOf v).length q.2
        · rw [hb] at hf; cases hf
        · rw [hb, bi_true] at hf
          have hb := Nat.eq_of_beq_eq_true hb
          cases hp : put q.1 (cellsOf v) cs with
          | none => rw [hp] at hf; cases hf
          | some cs1 =>
            rw [hp] at hf
            simp only [oc_some] at hf
            obtain ⟨a1, a2⟩ := hc.put hv1 hp
            have hsz : v'.cells.size = q.2 := by rw [← hb, hv1.length]; simp
            simp only [Array.length_toList] at a1
            have hfold : (v'.cells.zipIdx.foldl (fun cs (p : Value × Nat) => cs.setIfInBounds (q.1 + p.2) p.1) cs').toList = cs'.toList.take q.1 ++ (v'.cells.toList ++ cs'.toList.drop (q.1 + v'.cells.toList.length)) := by
              rw [← Array.foldl_toList, Array.toList_zipIdx]
              have := foldl_put q.1 v'.cells.toList 0 cs' (by simp; omega)
              simpa using this
            obtain ⟨r', e1, e2, e3⟩ := ih (cs' := v'.cells.zipIdx.foldl (fun cs (p : Value × Nat) => cs.setIfInBounds (q.1 + p.2) p.1) cs') (by rw [hfold]; exact a2) (by
              rw [hfold]
              intro x hx
              rcases List.mem_append.1 hx with hx | hx
              · exact h1 x (List.mem_of_mem_take hx)
              · rcases List.mem_append.1 hx with hx | hx
                · exact hv2 x hx
                · exact h1 x (List.mem_of_mem_drop hx)) hf
            refine ⟨r', ?_, e2, e3⟩
            unfold Instr.fill
            rw [hpl i q hq]
            simp only
            rw [if_neg (by simp [hsz]; omega)]
            exact e1
theorem placeS_ok {fs : List (Nat × TypeId)} {fields : Array Field} (hf : fs = fields.toList.map fun f => (f.offset, f.type)) (places : Array (Nat × Nat)) (hpl : ∀ (i : Nat) (f : Field) (s : Nat), fields[i]? = some f → (szOf (mkTI P) f.type) = some s → places[i]? = some (f.offset, s)) : ∀ i q, placeS (mkTI P) fs i = some q → places[i]? = some q := by
  intro i q hq
  unfold placeS at hq
  rw [idx_eq, hf, List.getElem?_map] at hq
  cases hff : fields.toList[i]? with
  | none => rw [hff] at hq; cases hq
  | some f =>
    rw [hff] at hq
    simp only [Option.map_some, oc_some] at hq
    cases hs : szOf (mkTI P) f.type with
    | none => rw [hs] at hq; cases hq
    | some s =>
      rw [hs] at hq
      injection hq with hq
      subst hq
      exact hpl i f s (by simpa using hff) hs

theorem mapM_places {P : Program} {w : World} (l : List Field) (sz : TypeId → Nat) (h : ∀ f ∈ l, (Go.sizeOf f.type).run P w = .ok (sz f.type) w) :
    (l.mapM (m := Sem) fun f => do pure (f.offset, ← Go.sizeOf f.type)).run P w = .ok (l.map fun f => (f.offset, sz f.type)) w := by
  induction l with
  | nil => rfl
  | cons a r ih =>
    rw [List.mapM_cons]
    simp only [Sem.run_bind, h a (List.mem_cons_self), ih (fun f hf => h f (List.mem_cons_of_mem _ hf)), Result.andThen_ok, Sem.run_pure, List.map_cons]
theorem allSz_at {fs : List (Nat × TypeId)} (h : allSz (mkTI P) fs = true) (p : Nat × TypeId) (hp : p ∈ fs) : ∃ s, szOf (mkTI P) p.2 = some s := by
  induction fs with
  | nil => cases hp
  | cons a r ih =>
    have h : oc false (fun _ => allSz (mkTI P) r) (szOf (mkTI P) a.2) = true := h
    cases hs : szOf (mkTI P) a.2 with
    | none => rw [hs] at h; cases h
    | some s =>
      rw [hs] at h
      rcases List.mem_cons.1 hp with rfl | hp
      · exact ⟨s, hs⟩
      · exact ih h hp
theorem build_good (hr : HR B0 g h w) (t : TypeId) (ps : List (Nat × AV)) (ps' : Array (Nat × Value)) (hps : PRs g ps ps'.toList) : VG P B0 g h w (Instr.build t ps') (xBuild (mkTI P) h ps (mkTI P t)) := by
  unfold xBuild
  cases ht : mkTI P t with
  | none => trivial
  | some ti =>
    have hT := mkTI_some ht
    obtain ⟨z, hz, hzv, hz1, _, _⟩ := hT.zero g
    simp only [oc_some]
    cases hk : ti.kind
    case struct fs =>
      show VG P B0 g h w _ (bi (allSz (mkTI P) fs) (kAgg h (fillA (placeS (mkTI P) fs) ps ti.zero)) .no)
      cases ha : allSz (mkTI P) fs
      · trivial
      · rw [bi_true]
        obtain ⟨fields, hu, hfs⟩ := hT.struct hk
        refine kAgg_good hr fun r hf => ?_
        have hall : ∀ f ∈ fields.toList, szOf (mkTI P) f.type = some ((szOf (mkTI P) f.type).getD 0) := fun f hf => by
          obtain ⟨s, hs⟩ := allSz_at ha (f.offset, f.type) (by rw [hfs]; exact List.mem_map.2 ⟨f, hf, rfl⟩)
          rw [hs]; rfl
        have hm := mapM_places (P := P) (w := w) fields.toList (fun t => (szOf (mkTI P) t).getD 0) (fun f hf => szOf_run (hall f hf) w)
        obtain ⟨r', e1, e2, e3⟩ := fill_good (pl' := fun i => (fields.toList.map fun f => (f.offset, (szOf (mkTI P) f.type).getD 0)).toArray[i]?) (placeS_ok hfs _ (fun i f s h1 h2 => by simp [h1, h2])) hps hzv hz1 hf
        refine ⟨.agg r'.toList.toArray, ?_, .agg _ _ e2 e3⟩
        simp only [Instr.build, Sem.run_bind, hz, run_underlying hu, Result.andThen_ok, Array.mapM_eq_mapM_toList, Sem.run_map, hm]
        simp only [e1]
        rfl
    case arr n e =>
      show VG P B0 g h w _ (oc .no (fun s => kAgg h (fillA (placeA s) ps ti.zero)) (szOf (mkTI P) e))
      cases hs : szOf (mkTI P) e with
      | none => trivial
      | some s =>
        simp only [oc_some]
        refine kAgg_good hr fun r hf => ?_
        obtain ⟨r', e1, e2, e3⟩ := fill_good (pl' := fun i => some (i * s, s)) (fun i q hq => hq) hps hzv hz1 hf
        have hsz := fun w => szOf_run (P := P) hs w
        refine ⟨.agg r'.toList.toArray, ?_, .agg _ _ e2 e3⟩
        simp [Instr.build, Sem.run_bind, hz, run_underlying (hT.arr hk), hsz, e1, Result.andThen]
    all_goals trivial
theorem repl_at {z : List AV} (_hz : 0 < z.length) (n i : Nat) (hi : i < n * z.length) : (repl z n)[i]? = z[i % z.length]? := by
  induction n generalizing i with
  | zero => omega
  | succ n ih =>
    rw [repl_succ]
    rcases Nat.lt_or_ge i z.length with h1 | h1
    · rw [List.getElem?_append_left h1, Nat.mod_eq_of_lt h1]
    · rw [List.getElem?_append_right h1, ih _ (by rw [Nat.add_mul] at hi; omega), Nat.mod_eq_sub_mod h1]
theorem zeros_VRs {z : List AV} {zv : Array Value} (hz : VRs g z zv.toList) (h1 : ∀ x ∈ zv.toList, one1 x = true) (n : Nat) :
    VRs g (repl z n) ((Array.range (n * zv.size)).map (zv[· % zv.size]!)).toList ∧ ∀ x ∈ ((Array.range (n * zv.size)).map (zv[· % zv.size]!)).toList, one1 x = true := by
  have hlen : z.length = zv.size := by rw [hz.length]; simp
  have hat : ∀ i v', ((Array.range (n * zv.size)).map (zv[· % zv.size]!)).toList[i]? = some v' → i < n * zv.size ∧ 0 < zv.size ∧ zv[i % zv.size]? = some v' := by
    intro i v' hv
    have hj : i < n * zv.size := by have := (List.getElem?_eq_some_iff.1 hv).1; simpa using this
    have hv : zv[i % zv.size]! = v' := by simpa [hj] using hv
    subst hv
    have hp : 0 < zv.size := by rcases Nat.eq_zero_or_pos zv.size with h0 | h0; rw [h0] at hj; omega; exact h0
    have hm : i % zv.size < zv.size := Nat.mod_lt _ hp
    exact ⟨hj, hp, by rw [getElem!_pos zv _ hm]; exact Array.getElem?_eq_getElem hm⟩
  constructor
  · refine VRs.of_at (by rw [repl_length]; simp [hlen]) fun i v hv => ?_
    have hi : i < n * zv.size := by
      have := (List.getElem?_eq_some_iff.1 hv).1
      rw [repl_length, hlen] at this
      exact this
    have hp : 0 < zv.size := by rcases Nat.eq_zero_or_pos zv.size with h0 | h0; rw [h0] at hi; omega; exact h0
    rw [repl_at (by omega) n i (by rw [hlen]; exact hi), hlen] at hv
    obtain ⟨v', e, hr⟩ := hz.at hv
    refine ⟨v', ?_, hr⟩
    have hm : i % zv.size < zv.size := Nat.mod_lt _ hp
    have e : zv[i % zv.size]? = some v' := by simpa using e
    simp [hi]
    rw [getElem!_pos zv _ hm]
    rw [Array.getElem?_eq_getElem hm] at e
    injection e
  · intro x hx
    obtain ⟨i, hi⟩ := List.mem_iff_getElem?.1 hx
    obtain ⟨_, _, e⟩ := hat i x hi
    exact h1 x (by have := Array.mem_of_getElem? e; simpa using this)
theorem buildSlice_good (hr : HR B0 g h w) (hB : B0 ≤ w.heap.size) (hp : g.pos h.next = none) (hgr : g.grow h.next = none) (t : TypeId) (n : Nat) (ps : List (Nat × AV)) (ps' : Array (Nat × Value)) (hps : PRs g ps ps'.toList) :
    VG P B0 g h w (Instr.buildSlice t n ps') (oc .no (xBuildS (mkTI P) h n ps) (elemT (mkTI P t))) := by
  cases ht : mkTI P t with
  | none => trivial
  | some ti =>
    have hT := mkTI_some ht
    cases hk : elemK ti.kind with
    | none => show VG P B0 g h w _ (oc .no _ (elemK ti.kind)); rw [hk]; trivial
    | some e =>
      show VG P B0 g h w _ (oc .no _ (elemK ti.kind))
      rw [hk]
      have hu := hT.slice (elemK_some hk)
      simp only [oc_some]
      unfold xBuildS
      cases hte : mkTI P e with
      | none => trivial
      | some te =>
        have hTe := mkTI_some hte
        obtain ⟨z, hz, hzv, hz1, hzs, hzl⟩ := hTe.zero g
        simp only [oc_some]
        cases hb : Nat.ble (Nat.mul n te.size) 16777216
        · trivial
        · rw [bi_true]
          have hb : n * te.size ≤ 16777216 := Nat.le_of_ble_eq_true hb
          cases hf : fillA (placeA te.size) ps (repl te.zero n) with
          | none => trivial
          | some cs =>
            simp only [oc_some]
            obtain ⟨a1, a2⟩ := zeros_VRs hzv hz1 n
            obtain ⟨r', e1, e2, e3⟩ := fill_good (pl' := fun i => some (i * te.size, te.size)) (fun i q hq => hq) hps a1 a2 hf
            refine new_list hr hB hp hgr cs e _ (.slice (some ⟨w.heap.size, 0, none⟩) n n) r'.toList ?_ e2 e3 (.slck _ 0 n n _ 0 0 (posNew hp _) (Nat.le_refl _) (fun _ => rfl))
            rw [hzs] at e1
            by_cases h0 : n * te.size = 0
            · simp only [h0] at e1
              simp [Instr.buildSlice, Sem.run_bind, run_underlying hu, hTe.sizeOf, h0, Result.andThen]
              have hz0 : ∀ f : Nat → Value, Array.map f (Array.range 0) = #[] := fun f => by simp
              rw [hz0] at e1 ⊢
              rw [e1]
              simp [newRow]
            · have hnb : ¬ (16777216 < n * te.size) := by omega
              simp [Instr.buildSlice, Sem.run_bind, run_underlying hu, hTe.sizeOf, hz, h0, hnb, Result.andThen, hzs]
              rw [e1]
              simp [newRow]

theorem makeSlice_good (hr : HR B0 g h w) (hB : B0 ≤ w.heap.size) (hp : g.pos h.next = none) (hgr : g.grow h.next = none) (t : TypeId) (l c : AV) (lv cv : Value) (hl : VR g l lv) (hc : VR g c cv) :
    VG P B0 g h w (Instr.makeSlice t lv cv) (xMakeSlice (mkTI P) h (intNat l) (intNat c) (elemT (mkTI P t))) := by
  unfold xMakeSlice
  cases ht : mkTI P t with
  | none => trivial
  | some ti =>
    have hT := mkTI_some ht
    cases hk : elemK ti.kind with
    | none => show VG P B0 g h w _ (oc .no _ (elemK ti.kind)); rw [hk]; trivial
    | some e =>
      show VG P B0 g h w _ (oc .no _ (elemK ti.kind))
      rw [hk]
      have hu := hT.slice (elemK_some hk)
      simp only [oc_some]
      cases h1 : intNat l with
      | none => trivial
      | some n =>
        obtain ⟨k1, rfl⟩ := intNat_some h1
        cases hl
        simp only [oc_some]
        cases h2 : intNat c with
        | none => trivial
        | some m =>
          obtain ⟨k2, rfl⟩ := intNat_some h2
          cases hc
          simp only [oc_some]
          cases hte : mkTI P e with
          | none => trivial
          | some te =>
            have hTe := mkTI_some hte
            obtain ⟨z, hz, hzv, hz1, hzs, hzl⟩ := hTe.zero g
            obtain ⟨i, hi, hib⟩ := hTe.bytes
            simp only [oc_some]
            unfold mkS
            cases hb : Nat.ble n m
            · trivial
            · rw [bi_true]
              cases hb1 : Nat.ble m 70368744177664
              · trivial
              · cases hb2 : Nat.ble (Nat.mul m te.bytes) 70368744177664
                · trivial
                · simp only [bi_true]
                  have hb : n ≤ m := Nat.le_of_ble_eq_true hb
                  have hb1 : m ≤ 70368744177664 := Nat.le_of_ble_eq_true hb1
                  have hb2 : m * te.bytes ≤ 70368744177664 := Nat.le_of_ble_eq_true hb2
                  have w1 : IntKind.i64.wrap (n : Int) = n := IntWalk.i64_in _ (by omega)
                  have w2 : IntKind.i64.wrap (m : Int) = m := IntWalk.i64_in _ (by omega)
                  obtain ⟨a1, a2⟩ := zeros_VRs hzv hz1 m
                  refine new_list hr hB hp hgr _ e _ (.slice (some ⟨w.heap.size, 0, none⟩) n m) _ ?_ a1 a2 (.slck _ 0 n m _ 0 0 (posNew hp _) hb (fun _ => rfl))
                  have hbb : ¬ (281474976710656 < (te.bytes : Int) * (m : Int)) := by
                    have : ((te.bytes : Int) * (m : Int)) = ((m * te.bytes : Nat) : Int) := by rw [Nat.mul_comm]; simp
                    rw [this]
                    omega
                  have hnm : ¬ ((m : Int) < (n : Int)) := by omega
                  rw [hzs]
                  have hm0 : ¬ ((m : Int) < 0) := by omega
                  have hn0 : ¬ ((n : Int) < 0) := by omega
                  have hz0 : ∀ f : Nat → Value, Array.map f (Array.range 0) = #[] := fun f => by simp
                  by_cases h0 : m * te.size = 0
                  · simp [Instr.makeSlice, Sem.run_bind, run_underlying hu, hTe.sizeOf, run_typeInfo _ hi, hib, Go.asInt, Go.asIntOf, w1, w2, hbb, hnm, hm0, hn0, hz0, h0, Result.andThen, newRow]
                  · simp [Instr.makeSlice, Sem.run_bind, run_underlying hu, hTe.sizeOf, run_typeInfo _ hi, hib, Go.asInt, Go.asIntOf, w1, w2, hbb, hnm, hm0, hn0, h0, hz, hzs, Result.andThen, newRow]
                    congr 2
                    apply Array.ext'
                    simp
end
end Go.Proofs.YtknnaeejkmlnbaaGreatDoor.Kx
