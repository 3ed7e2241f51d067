/- THE ABSTRACT MACHINE: values, heap, operations. A deterministic machine over compiled code: no tape, no capacities, no addresses. Nothing here is trusted: Sound.lean proves that what it computes is what the model's calls return. -/
import Derived.Calls
namespace Go.Am
set_option autoImplicit false
noncomputable section

/-- Trees indexed by numbers. -/
inductive Tr (α : Type) where
  | nil
  | node (l : Tr α) (v : Option α) (r : Tr α)
  deriving Inhabited

namespace Tr
variable {α : Type}
/-- By the recursor itself: the kernel runs it. -/
def get (t : Tr α) : Nat → Option α :=
  Tr.rec (fun _ => none) (fun _ v _ l r i => bif Nat.beq i 0 then v else bif Nat.beq (i % 2) 1 then l (i / 2) else r (i / 2 - 1)) t
/-- A tree of one entry. 'd': at least as many as the levels. -/
def one (x : α) (d : Nat) : Nat → Tr α :=
  Nat.rec (fun _ => nil) (fun _ ih i => bif Nat.beq i 0 then node nil (some x) nil else bif Nat.beq (i % 2) 1 then node (ih (i / 2)) none nil else node nil none (ih (i / 2 - 1))) d
def set (t : Tr α) (x : α) : Nat → Tr α :=
  Tr.rec (fun i => one x (i + 1) i)
    (fun l v r sl sr i => bif Nat.beq i 0 then node l (some x) r else bif Nat.beq (i % 2) 1 then node (sl (i / 2)) v r else node l v (sr (i / 2 - 1))) t
end Tr

inductive V where
  | int (k : IntKind) (n : Int)
  | bool (b : Bool)
  | str (s : List UInt8)
  | agg (vs : List V)
  | tuple (vs : List V)
  /-- cell 'o' of heap object 'i' -/
  | ptr (i o : Nat)
  | nilp
  /-- the address of memory that holds v and never changes -/
  | pp (v : V)
  /-- 'n' elements of 'es' cells each ('ag': structs or arrays) from cell 'o' of heap object 'i' on; the capacity, if known -/
  | sl (i o n : Nat) (c : Option Nat) (es : Nat) (ag : Bool)
  /-- a slice that nothing changes any more; 'full': its capacity is its length; if empty: nil or not -/
  | psl (vs : List V) (full : Bool)
  | nils
  | map (i : Nat)
  | pmap (ks vs : List V)
  | nilm
  | fn (f : Nat) (first caps : List V)
  | nilf
  | iface (t : Nat) (v : V)
  | nili

instance : Inhabited V := ⟨.tuple []⟩

def V.undef : V := .tuple []
/-- The cells of a value. -/
def V.flat : V → List V
  | .agg vs => vs
  | .tuple _ => []
  | v => [v]

def V.isTup : V → Bool
  | .tuple _ => true
  | _ => false
/-- Is every heap object's number in a value as 'f' says? -/
def V.allRefs (f : Nat → Bool) (v : V) : Bool :=
  V.rec (motive_1 := fun _ => Bool) (motive_2 := fun _ => Bool) (fun _ _ => true) (fun _ => true) (fun _ => true) (fun _ h => h) (fun _ h => h) (fun i _ => f i) true (fun _ h => h)
    (fun i _ _ _ _ _ => f i) (fun _ _ h => h) true (fun i => f i) (fun _ _ h g => h && g) true (fun _ _ _ h g => h && g) true (fun _ _ h => h) true true (fun _ _ h g => h && g) v
def V.allRefsL (f : Nat → Bool) : List V → Bool
  | [] => true
  | v :: vs => v.allRefs f && allRefsL f vs
/-- Holds it no heap object's number? -/
def V.pure (v : V) : Bool := v.allRefs fun _ => false
def V.pureL (vs : List V) : Bool := V.allRefsL (fun _ => false) vs
/-- Are all heap objects' numbers in it below m? -/
def V.lt (m : Nat) (v : V) : Bool := v.allRefs fun i => Nat.blt i m

mutual
/-- The same value, by its text. -/
def V.same : V → V → Bool
  | .int j a, .int k b => j == k && a == b
  | .bool a, .bool b => a == b
  | .str a, .str b => a == b
  | .agg a, .agg b => sameL a b
  | .tuple a, .tuple b => sameL a b
  | .ptr i o, .ptr j p => Nat.beq i j && Nat.beq o p
  | .nilp, .nilp => true
  | .pp a, .pp b => a.same b
  | .sl i o n c es ag, .sl j p m d es' ag' => Nat.beq i j && Nat.beq o p && Nat.beq n m && c == d && Nat.beq es es' && ag == ag'
  | .psl a f, .psl b g => sameL a b && f == g
  | .nils, .nils => true
  | .map i, .map j => Nat.beq i j
  | .pmap a b, .pmap c d => sameL a c && sameL b d
  | .nilm, .nilm => true
  | .fn f a b, .fn g c d => Nat.beq f g && sameL a c && sameL b d
  | .nilf, .nilf => true
  | .iface t v, .iface u w => Nat.beq t u && v.same w
  | .nili, .nili => true
  | _, _ => false
def V.sameL : List V → List V → Bool
  | [], [] => true
  | a :: x, b :: y => a.same b && sameL x y
  | _, _ => false
end

inductive Obj where
  /-- cells; an element takes 'es' of them; 'ag': elements are structs or arrays -/
  | cells (es : Nat) (ag : Bool) (cs : List V)
  | map (ks vs : List V)
  | iter (s : List UInt8) (pos : Nat)
  | dead
  deriving Inhabited

/-- The heap: how many objects were made; the least number of an object that was changed; the objects. -/
structure Hp where
  n : Nat
  fl : Nat
  t : Tr Obj

namespace Hp
def empty : Hp := ⟨0, 0, .nil⟩
def get (H : Hp) (i : Nat) : Option Obj := bif Nat.blt i H.n then H.t.get i else none
def push (H : Hp) (o : Obj) : Hp := ⟨H.n + 1, H.fl, H.t.set o H.n⟩
def put (H : Hp) (i : Nat) (o : Obj) : Hp := ⟨H.n, bif Nat.blt i H.fl then i else H.fl, H.t.set o i⟩
/-- As a call finds it: nothing changed yet. -/
def fresh (H : Hp) : Hp := { H with fl := H.n }
end Hp

/-- Kinds of plain values. -/
inductive SK where
  | int | bool | str
  deriving DecidableEq, Inhabited, Repr
/-- Kinds of a map's keys: plain values, structs of them. -/
inductive KeyK where
  | one (s : SK)
  | many (ss : List SK)
  deriving Inhabited, Repr
/-- How two values of a type are compared. -/
inductive EqK where
  | bool | ptr | slice | map | func | iface
  /-- a struct whose cells are all numbers, truths and texts -/
  | scalars (ss : List SK)
  deriving Inhabited, Repr

inductive ConvK where
  | int (k : IntKind) | same | bytesStr | strBytes | runeStr
  deriving DecidableEq, Inhabited, Repr

inductive LenK where
  | str | slice | map
  deriving DecidableEq, Inhabited, Repr

inductive Opd where
  | t (i : Nat)
  | c (v : V)
  | g (n : Nat)
  deriving Inhabited

inductive AOp where
  | mov | pick
  | alloc (es : Nat) (ag : Bool) (zero : List V)
  | box (es : Nat) (ag : Bool)
  | build (zero : List V) (parts : List (Nat × Nat))
  | bslice (es : Nat) (ag : Bool) (zero : List V) (parts : List (Nat × Nat))
  | load (ag : Bool) (size : Nat)
  | store (size : Nat)
  | nilchk
  | bin (op : BinOp)
  | eq (neg : Bool) (k : EqK)
  | un (op : UnOp)
  | conv (k : ConvK)
  | mkfn (f first : Nat)
  | mkmap
  | mkslice (es : Nat) (ag : Bool) (bytes : Nat) (zero : List V)
  | slice (es : Option Nat) (lo hi mx : Bool)
  | slarr (len es : Nat) (ag lo hi mx : Bool)
  | faddr (off size : Nat) (ag : Bool)
  | iaddr (es : Nat)
  | iaddrA (len es : Nat) (ag : Bool)
  | field (off size : Nat) (ag : Bool)
  | idxS
  | idxA (len es : Nat) (ag : Bool)
  | lookup (k : KeyK) (zero : V) (ok : Bool)
  | mapset (k : KeyK)
  | delete
  | range | next
  | extract (n : Nat)
  | append (es : Nat) (ag : Bool) (bytes : Nat)
  | len (k : LenK)
  | lenA (n : Nat)
  | cap
  | copy (es : Nat)
  | clear (es : Nat) (zero : List V)
  | min | max
  | mkiface (t : Nat)
  | tassert (t : Nat) (ok : Bool) (zero : V)
  | call (f : Nat)
  | callv
  /-- a call that must leave the heap alone -/
  | callp (f : Nat)
  | callvp
  | panic
  deriving Inhabited

structure AOper where
  dst : Option Nat
  op : AOp
  args : List Opd
  guard : Option (Nat × Bool)
  deriving Inhabited

inductive ACode where
  | skip
  | region (ops : List AOper)
  /-- a region that draws its order; of each operation which ones come before it -/
  | dregion (ops : List (AOper × List Nat))
  | seq (a b : ACode)
  | cond (c : Opd) (a b : ACode)
  | block (id : Nat) (b : ACode)
  | loop (b : ACode)
  | exit (id : Nat)
  | ret
  deriving Inhabited

inductive ARes where
  | tmp (t : Nat)
  | cell (t : Nat) (ag : Bool) (size : Nat)
  deriving Inhabited

/-- 'pol': 0: results as they are; 1: what was made for the result is taken to stand still from then on. -/
structure AFn where
  ntmps : Nat
  results : List ARes
  body : ACode
  pol : Nat
  deriving Inhabited

/-- What a call comes to. -/
inductive Out where
  | ok (v : V) (H : Hp)
  | pan (v : V) (H : Hp)

abbrev Caller := Nat → List V → Hp → Option Out

/-! ### pure parts of operations -/
/-- 'xs' written over the cells from 'o' on (they may go past the end by nothing but themselves). -/
def splice (cs : List V) (o : Nat) (xs : List V) : List V := cs.take o ++ xs ++ cs.drop (o + xs.length)
def chunk (es : Nat) (ag : Bool) : Nat → List V → List V
  | 0, _ => []
  | n + 1, cs => (if ag then V.agg (cs.take es) else cs.headD V.undef) :: chunk es ag n (cs.drop es)
def fillA (zero : List V) : List (Nat × Nat) → List V → Option (List V)
  | [], [] => some zero
  | (off, size) :: ps, x :: xs => bif Nat.beq x.flat.length size && Nat.ble (off + size) zero.length then fillA (splice zero off x.flat) ps xs else none
  | _, _ => none
def intBin (op : BinOp) (k : IntKind) (a b : Int) : Option V :=
  match op with
  | .add => some (.int k (k.wrap (a + b)))
  | .sub => some (.int k (k.wrap (a - b)))
  | .mul => some (.int k (k.wrap (a * b)))
  | .quo => if b = 0 then none else some (.int k (k.wrap (a.tdiv b)))
  | .rem => if b = 0 then none else some (.int k (a.tmod b))
  | .and => some (.int k (k.wrap ((BitVec.ofInt k.bits a &&& BitVec.ofInt k.bits b).toNat)))
  | .or => some (.int k (k.wrap ((BitVec.ofInt k.bits a ||| BitVec.ofInt k.bits b).toNat)))
  | .xor => some (.int k (k.wrap ((BitVec.ofInt k.bits a ^^^ BitVec.ofInt k.bits b).toNat)))
  | .andNot => some (.int k (k.wrap ((BitVec.ofInt k.bits a &&& ~~~BitVec.ofInt k.bits b).toNat)))
  | .eql => some (.bool (a == b))
  | .neq => some (.bool (a != b))
  | .lss => some (.bool (decide (a < b)))
  | .leq => some (.bool (decide (a ≤ b)))
  | .gtr => some (.bool (decide (a > b)))
  | .geq => some (.bool (decide (a ≥ b)))
  | _ => none
def shiftBin (op : BinOp) (k : IntKind) (a b : Int) : Option V :=
  if b < 0 then none else
  match op with
  | .shl => some (.int k (k.wrap (a * 2 ^ (Nat.min b.toNat k.bits))))
  | .shr => some (.int k (a.fdiv (2 ^ (Nat.min b.toNat k.bits))))
  | _ => none
def strBin (op : BinOp) (a b : List UInt8) : Option V :=
  match op with
  | .add => if a.length + b.length ≤ 2 ^ 40 then some (.str (a ++ b)) else none
  | .eql => some (.bool (a == b))
  | .neq => some (.bool (!(a == b)))
  | .lss => some (.bool (Op.bytesLess a b))
  | .leq => some (.bool (Op.bytesLess a b || a == b))
  | .gtr => some (.bool (!(Op.bytesLess a b || a == b)))
  | .geq => some (.bool (!(Op.bytesLess a b)))
  | _ => none
def binV (op : BinOp) (x y : V) : Option V :=
  match x, y with
  | .int k a, .int k' b =>
    match op with
    | .shl | .shr => shiftBin op k a b
    | _ => if k = k' then intBin op k a b else none
  | .str a, .str b => strBin op a b
  | _, _ => none
def scalarsEq : List V → List V → Option Bool
  | [], [] => some true
  | .int j a :: x, .int k b :: y => if j = k then (scalarsEq x y).map ((a == b) && ·) else none
  | .bool a :: x, .bool b :: y => (scalarsEq x y).map ((a == b) && ·)
  | .str a :: x, .str b :: y => (scalarsEq x y).map ((a == b) && ·)
  | _, _ => none
def skOk : SK → V → Bool
  | .int, .int _ _ => true
  | .bool, .bool _ => true
  | .str, .str _ => true
  | _, _ => false
def sksOk : List SK → List V → Bool
  | [], [] => true
  | s :: ss, v :: vs => skOk s v && sksOk ss vs
  | _, _ => false
/-- May a value be a map's key? -/
def keyOk : KeyK → V → Bool
  | .one s, v => skOk s v
  | .many ss, .agg vs => sksOk ss vs
  | _, _ => false
/-- Is a value of such a type nil? -/
def isNilK : EqK → V → Option Bool
  | .ptr, .nilp => some true
  | .ptr, .ptr _ _ => some false
  | .ptr, .pp _ => some false
  | .slice, .nils => some true
  | .slice, .sl _ _ _ _ _ _ => some false
  | .slice, .psl (_ :: _) _ => some false
  | .map, .nilm => some true
  | .map, .map _ => some false
  | .map, .pmap _ _ => some false
  | .func, .nilf => some true
  | .func, .fn _ _ _ => some false
  | .iface, .nili => some true
  | .iface, .iface _ _ => some false
  | _, _ => none
def eqNil : Option Bool → Option Bool → Option Bool
  | some true, some b => some b
  | some false, some true => some false
  | _, _ => none
def eqBool : V → V → Option Bool
  | .bool a, .bool b => some (a == b)
  | _, _ => none
def eqAgg (ss : List SK) : V → V → Option Bool
  | .agg a, .agg b => bif sksOk ss a then scalarsEq a b else none
  | _, _ => none
def eqV (k : EqK) (x y : V) : Option Bool :=
  match k with
  | .bool => eqBool x y
  | .scalars ss => eqAgg ss x y
  | k => eqNil (isNilK k x) (isNilK k y)
def unV (op : UnOp) (x : V) : Option V :=
  match op, x with
  | .not, .bool b => some (.bool !b)
  | .neg, .int k n => some (.int k (k.wrap (0 - n)))
  | .xor, .int k n => intBin .xor k (if k.signed then -1 else k.max) n
  | _, _ => none
def partV (off size : Nat) (ag : Bool) (cs : List V) : Option V :=
  if ag then (if off + size ≤ cs.length then some (.agg ((cs.drop off).take size)) else none) else cs[off]?
def idxOf : Int → Nat → Option Nat
  | .ofNat k, n => bif Nat.blt k n then some k else none
  | .negSucc _, _ => none
/-- The same key? -/
def sameKey : V → V → Option Bool
  | .int j a, .int k b => if j = k then some (a == b) else none
  | .str a, .str b => some (a == b)
  | .bool a, .bool b => some (a == b)
  | .agg a, .agg b => scalarsEq a b
  | _, _ => none
/-- Where a key is. -/
def keyIdx (k : V) : List V → Option (Option Nat)
  | [] => some none
  | x :: xs => match sameKey k x with
    | some true => some (some 0)
    | some false => match keyIdx k xs with
      | some (some i) => some (some (i + 1))
      | r => r
    | none => none
/-- Bounds of a slice expression: low, high, the new capacity if known; 'len', 'cap' as known. -/
def inTop (v : V) (top : Nat) : Option Nat :=
  match v with
  | .int _ i => idxOf i (top + 1)
  | _ => none
def boundM (cap : Option Nat) (top : Nat) : Option V → Option (Option Nat)
  | some v => (inTop v top).map some
  | none => some cap
def boundH (len top : Nat) (m : Option Nat) : Option V → Option V → Option Nat
  | some v, some _ => inTop v (m.getD 0)
  | some v, none => inTop v top
  | none, none => some len
  | none, some _ => none
def boundL (h : Nat) : Option V → Option Nat
  | some v => inTop v h
  | none => some 0
def bounds (len : Nat) (cap : Option Nat) (lo hi mx : Option V) : Option (Nat × Nat × Option Nat) :=
  match boundM cap (cap.getD len) mx with
  | none => none
  | some m => match boundH len (cap.getD len) m hi mx with
    | none => none
    | some h => match boundL h lo with
      | none => none
      | some l => some (l, h, m)
/-- The elements' cells of a slice or a string, if they can be read. -/
def cellsOf (H : Hp) (es n : Nat) : V → Option (List V)
  | .nils => some []
  | .psl vs _ => let l := vs.take n; if l.all (fun v => v.flat.length == es) then some (l.flatMap V.flat) else none
  | .sl i o _ _ es' _ => match H.get i with
    | some (.cells _ _ cs) => if es' = es ∧ o + n * es ≤ cs.length then some ((cs.drop o).take (n * es)) else none
    | _ => none
  | .str s => bif Nat.beq es 1 then some ((s.take n).map fun b => .int .u8 b.toNat) else none
  | _ => none
def lenV : V → Option Nat
  | .nils => some 0 | .psl vs _ => some vs.length | .sl _ _ n _ _ _ => some n | .str s => some s.length | _ => none
def limit : Nat := 2 ^ 40
/-- An append of cells 'new', n elements (not 0), to a slice of m. -/
def appendTo (es : Nat) (ag : Bool) (x : V) (m n : Nat) (new : List V) (H : Hp) : Option (V × Hp) :=
  match x with
  | .nils => some (.sl H.n 0 n none es ag, H.push (.cells es ag new))
  | .psl vs full => if full then
      match cellsOf H es vs.length x with
      | some old => some (.sl H.n 0 (m + n) none es ag, H.push (.cells es ag (old ++ new)))
      | none => none
    else none
  | .sl i o _ kc es' _ => match H.get i with
    | some (.cells eo ag' cs) =>
      if es' = es ∧ o + m * es ≤ cs.length then
        match kc with
        | some c => if m + n ≤ c then some (.sl i o (m + n) (some c) es ag, H.put i (.cells eo ag' (splice cs (o + m * es) new)))
          else some (.sl H.n 0 (m + n) none es ag, H.push (.cells es ag ((cs.drop o).take (m * es) ++ new)))
        | none => if o + m * es = cs.length then some (.sl H.n 0 (m + n) none es ag, (H.put i .dead).push (.cells es ag (cs.drop o ++ new))) else none
      else none
    | _ => none
  | _ => none
def isSlice : V → Bool
  | .nils | .psl _ _ | .sl _ _ _ _ _ _ => true
  | _ => false
def appendV (es : Nat) (ag : Bool) (bytes : Nat) (x y : V) (H : Hp) : Option (V × Hp) :=
  match lenV y, lenV x with
  | some n, some m => match cellsOf H es n y with
    | some new =>
      if n = 0 then (if isSlice x then some (x, H) else none) else
      if limit < (m + n) * (bytes + 1) then none else appendTo es ag x m n new H
    | none => none
  | _, _ => none
def bytesOf : List V → Option (List UInt8)
  | [] => some []
  | .int .u8 n :: vs => (bytesOf vs).map (UInt8.ofNat n.toNat :: ·)
  | _ => none
/-- The operands of a slice expression behind the first. -/
def sliceArgs (lo hi mx : Bool) (bs : List V) : Option V × Option V × Option V :=
  let l := if lo then bs.head? else none
  let bs := if lo then bs.tail else bs
  let h := if hi then bs.head? else none
  let bs := if hi then bs.tail else bs
  (l, h, if mx then bs.head? else none)
def sliceV (es : Option Nat) (x : V) (l h m : Option V) : Option V :=
  match es, x with
  | none, .str s => match m with
    | some _ => none
    | none => (bounds s.length (some s.length) l h none).map fun (l, h, _) => .str ((s.take h).drop l)
  | some _, .nils => (bounds 0 (some 0) l h m).map fun _ => .nils
  | some es, .psl vs full => if vs.all (fun v => v.flat.length == es) then (bounds vs.length (if full then some vs.length else none) l h m).map fun (l, h, m) => .psl ((vs.take h).drop l) (m == some h) else none
  | some es, .sl i o n kc es' ag => if es' = es then (bounds n kc l h m).map fun (l, h, m) => .sl i (o + l * es) (h - l) (m.map (· - l)) es ag else none
  | _, _ => none
def mapOf (H : Hp) : V → Option (List V × List V)
  | .nilm => some ([], [])
  | .pmap ks vs => some (ks, vs)
  | .map i => match H.get i with
    | some (.map ks vs) => some (ks, vs)
    | _ => none
  | _ => none

/-! ### one operation -/
inductive OpR where
  | val (v : V) (H : Hp)
  | pan (v : V) (H : Hp)

abbrev Ev := List V → Hp → Option (V × Hp)
def evMov : Ev
  | [x], H => some (x, H)
  | _, _ => none
def evPick : Ev
  | [.bool c, a, b], H => some (bif c then a else b, H)
  | _, _ => none
def evAlloc (es : Nat) (ag : Bool) (zero : List V) : Ev
  | [], H => some (.ptr H.n 0, H.push (.cells es ag zero))
  | _, _ => none
def evBox (es : Nat) (ag : Bool) : Ev
  | [x], H => some (.ptr H.n 0, H.push (.cells es ag x.flat))
  | _, _ => none
def evBuild (zero : List V) (ps : List (Nat × Nat)) : Ev := fun xs H => (fillA zero ps xs).map fun cs => (.agg cs, H)
def evBslice (es : Nat) (ag : Bool) (zero : List V) (ps : List (Nat × Nat)) : Ev := fun xs H =>
  (fillA zero ps xs).map fun cs => (.sl H.n 0 (cs.length / es) (some (cs.length / es)) es ag, H.push (.cells es ag cs))
def loadPp (ag : Bool) (size : Nat) : V → Option V
  | .agg vs => bif ag && Nat.beq vs.length size then some (.agg vs) else none
  | .tuple _ => none
  | v => bif ag then none else some v
def evLoad (ag : Bool) (size : Nat) : Ev
  | [.pp v], H => (loadPp ag size v).map fun v => (v, H)
  | [.ptr i o], H => match H.get i with
    | some (.cells _ _ cs) => (partV o size ag cs).map fun v => (v, H)
    | _ => none
  | _, _ => none
def evStore (size : Nat) : Ev
  | [.ptr i o, x], H => match H.get i with
    | some (.cells es ag cs) => bif Nat.beq x.flat.length size && Nat.ble (o + size) cs.length then some (V.undef, H.put i (.cells es ag (splice cs o x.flat))) else none
    | _ => none
  | _, _ => none
def evNilchk : Ev
  | [.ptr i o], H => some (.ptr i o, H)
  | [.pp v], H => some (.pp v, H)
  | [.fn f a b], H => some (.fn f a b, H)
  | _, _ => none
def evBin (op : BinOp) : Ev
  | [x, y], H => (binV op x y).map fun v => (v, H)
  | _, _ => none
def evEq (neg : Bool) (k : EqK) : Ev
  | [x, y], H => (eqV k x y).map fun b => (.bool (b != neg), H)
  | _, _ => none
def evUn (op : UnOp) : Ev
  | [x], H => (unV op x).map fun v => (v, H)
  | _, _ => none
def convBytes (x : V) (H : Hp) : Option (V × Hp) :=
  match lenV x with
  | some n => match cellsOf H 1 n x with
    | some cs => (bytesOf cs).map fun bs => (.str bs, H)
    | none => none
  | none => none
def evConv : ConvK → Ev
  | .int k, [.int _ n], H => some (.int k (k.wrap n), H)
  | .same, [.str s], H => some (.str s, H)
  | .bytesStr, [x], H => bif isSlice x then convBytes x H else none
  | .strBytes, [.str s], H => some (.sl H.n 0 s.length none 1 false, H.push (.cells 1 false (s.map fun b => .int .u8 b.toNat)))
  | .runeStr, [.int _ n], H => some (.str (Utf8.encode n).data.toList, H)
  | _, _, _ => none
def evMkfn (f first : Nat) : Ev := fun xs H => some (.fn f (xs.take first) (xs.drop first), H)
def evMkmap : Ev := fun _ H => some (.map H.n, H.push (.map [] []))
def evMkslice (es : Nat) (ag : Bool) (bytes : Nat) (zero : List V) : Ev
  | [.int _ (.ofNat l), .int _ (.ofNat c)], H =>
    bif Nat.ble l c && Nat.ble (c * (bytes + 1)) limit then some (.sl H.n 0 l (some c) es ag, H.push (.cells es ag (List.replicate c zero).flatten)) else none
  | _, _ => none
def evSlice (es : Option Nat) (lo hi mx : Bool) : Ev
  | x :: bs, H => match sliceArgs lo hi mx bs with
    | (l, h, m) => (sliceV es x l h m).map fun v => (v, H)
  | _, _ => none
def evSlarr (ln es : Nat) (ag lo hi mx : Bool) : Ev
  | .ptr i o :: bs, H => match H.get i with
    | some (.cells _ _ cs) => bif Nat.ble (o + ln * es) cs.length then
        match sliceArgs lo hi mx bs with
        | (l, h, m) => (bounds ln (some ln) l h m).map fun (l, h, m) => (.sl i (o + l * es) (h - l) (m.map (· - l)) es ag, H)
      else none
    | _ => none
  | _, _ => none
def evFaddr (off size : Nat) (ag : Bool) : Ev
  | [.ptr i o], H => some (.ptr i (o + off), H)
  | [.pp (.agg cs)], H => (partV off size ag cs).map fun v => (.pp v, H)
  | _, _ => none
def evIaddr (es : Nat) : Ev
  | [.psl vs _, .int _ i], H => match idxOf i vs.length with
    | some k => match vs[k]? with
      | some v => bif Nat.beq v.flat.length es then some (.pp v, H) else none
      | none => none
    | none => none
  | [.sl i o n _ es' _, .int _ j], H => bif Nat.beq es' es then (idxOf j n).map fun k => (.ptr i (o + k * es), H) else none
  | _, _ => none
def evIaddrA (ln es : Nat) (ag : Bool) : Ev
  | [.ptr i o, .int _ j], H => (idxOf j ln).map fun k => (.ptr i (o + k * es), H)
  | [.pp (.agg cs), .int _ j], H => match idxOf j ln with
    | some k => (partV (k * es) es ag cs).map fun v => (.pp v, H)
    | none => none
  | _, _ => none
def evField (off size : Nat) (ag : Bool) : Ev
  | [.agg cs], H => (partV off size ag cs).map fun v => (v, H)
  | _, _ => none
def evIdxS : Ev
  | [.str s, .int _ i], H => match idxOf i s.length with
    | some k => s[k]?.map fun b => (.int .u8 b.toNat, H)
    | none => none
  | _, _ => none
def evIdxA (ln es : Nat) (ag : Bool) : Ev
  | [.agg cs, .int _ i], H => match idxOf i ln with
    | some k => (partV (k * es) es ag cs).map fun v => (v, H)
    | none => none
  | _, _ => none
def lookupV (zero : V) (ok : Bool) (r : Option V) : V := bif ok then .tuple [r.getD zero, .bool r.isSome] else r.getD zero
def evLookup (kk : KeyK) (zero : V) (ok : Bool) : Ev
  | [m, k], H => bif keyOk kk k then
      match mapOf H m with
      | some (ks, vs) => match keyIdx k ks with
        | some (some i) => vs[i]?.map fun v => (lookupV zero ok (some v), H)
        | some none => some (lookupV zero ok none, H)
        | none => none
      | none => none
    else none
  | _, _ => none
def evMapset (kk : KeyK) : Ev
  | [.map i, k, v], H => bif keyOk kk k then
      match H.get i with
      | some (.map ks vs) => match keyIdx k ks with
        | some (some j) => some (V.undef, H.put i (.map ks (vs.set j v)))
        | some none => some (V.undef, H.put i (.map (ks ++ [k]) (vs ++ [v])))
        | none => none
      | _ => none
    else none
  | _, _ => none
def evRange : Ev
  | [.str s], H => some (.ptr H.n 0, H.push (.iter s 0))
  | _, _ => none
def evNext : Ev
  | [.ptr i 0], H => match H.get i with
    | some (.iter s pos) =>
      bif Nat.blt pos s.length then
        match Utf8.decode ⟨s.toArray⟩ pos with
        | (c, w) => some (.tuple [.bool true, .int .i64 pos, .int .i32 c], H.put i (.iter s (pos + w)))
      else some (.tuple [.bool false], H)
    | _ => none
  | _, _ => none
def evExtract (n : Nat) : Ev
  | [.tuple vs], H => vs[n]?.map fun v => (v, H)
  | _, _ => none
def evAppend (es : Nat) (ag : Bool) (bytes : Nat) : Ev
  | [x, y], H => appendV es ag bytes x y H
  | _, _ => none
def evLen : LenK → Ev
  | .str, [.str s], H => some (.int .i64 s.length, H)
  | .slice, [x], H => bif isSlice x then (lenV x).map fun n => (.int .i64 n, H) else none
  | .map, [x], H => (mapOf H x).map fun (ks, _) => (.int .i64 ks.length, H)
  | _, _, _ => none
def evLenA (n : Nat) : Ev := fun _ H => some (.int .i64 n, H)
def evCap : Ev
  | [.sl _ _ _ (some c) _ _], H => some (.int .i64 c, H)
  | [.nils], H => some (.int .i64 0, H)
  | _, _ => none
def evCopy (es : Nat) : Ev
  | [.nils, s], H => match lenV s with
      | some _ => some (.int .i64 0, H)
      | none => none
  | [.sl i o n _ es' _, s], H => match lenV s with
      | some m => match cellsOf H es (Nat.min m n) s with
        | some new => match H.get i with
          | some (.cells eo ag cs) => bif Nat.beq es' es && Nat.ble (o + new.length) cs.length then some (.int .i64 (Nat.min m n), H.put i (.cells eo ag (splice cs o new))) else none
          | _ => none
        | none => none
      | none => none
  | _, _ => none
def evClear (es : Nat) (zero : List V) : Ev
  | [.nils], H => some (.tuple [], H)
  | [.sl i o n _ es' _], H => match H.get i with
      | some (.cells eo ag cs) => bif Nat.beq es' es && Nat.beq zero.length es && Nat.ble (o + n * es) cs.length then some (.tuple [], H.put i (.cells eo ag (splice cs o (List.replicate n zero).flatten))) else none
      | _ => none
  | _, _ => none
def evMin : Ev
  | [.int k a, .int _ b], H => some (.int k (if b < a then b else a), H)
  | _, _ => none
def evMax : Ev
  | [.int k a, .int _ b], H => some (.int k (if b > a then b else a), H)
  | _, _ => none
def evMkiface (t : Nat) : Ev
  | [x], H => some (.iface t x, H)
  | _, _ => none
def evTassert (t : Nat) (ok : Bool) (zero : V) : Ev
  | [.iface u v], H => bif Nat.beq u t then some (bif ok then .tuple [v, .bool true] else v, H) else bif ok then some (.tuple [zero, .bool false], H) else none
  | [.nili], H => bif ok then some (.tuple [zero, .bool false], H) else none
  | _, _ => none
def evNone : Ev := fun _ _ => none
/-- What an operation other than a call and a panic gives, of its operands' values. -/
def AOp.ev : AOp → Ev
  | .mov => evMov | .pick => evPick | .alloc es ag z => evAlloc es ag z | .box es ag => evBox es ag | .build z ps => evBuild z ps
  | .bslice es ag z ps => evBslice es ag z ps | .load ag n => evLoad ag n | .store n => evStore n | .nilchk => evNilchk | .bin op => evBin op
  | .eq neg k => evEq neg k | .un op => evUn op | .conv k => evConv k | .mkfn f n => evMkfn f n | .mkmap => evMkmap
  | .mkslice es ag b z => evMkslice es ag b z | .slice es lo hi mx => evSlice es lo hi mx | .slarr n es ag lo hi mx => evSlarr n es ag lo hi mx
  | .faddr off n ag => evFaddr off n ag | .iaddr es => evIaddr es | .iaddrA n es ag => evIaddrA n es ag | .field off n ag => evField off n ag
  | .idxS => evIdxS | .idxA n es ag => evIdxA n es ag | .lookup k z ok => evLookup k z ok | .mapset k => evMapset k | .delete => evNone
  | .range => evRange | .next => evNext | .extract n => evExtract n | .append es ag b => evAppend es ag b | .len k => evLen k | .lenA n => evLenA n
  | .cap => evCap | .copy es => evCopy es | .clear es z => evClear es z | .min => evMin | .max => evMax | .mkiface t => evMkiface t
  | .tassert t ok z => evTassert t ok z | .call _ | .callv | .callp _ | .callvp | .panic => evNone

mutual
/-- A value's heap objects get other numbers: 'd' more. -/
def V.shift (d : Nat) : V → V
  | .agg vs => .agg (shiftL d vs)
  | .tuple vs => .tuple (shiftL d vs)
  | .ptr i o => .ptr (i + d) o
  | .pp v => .pp (v.shift d)
  | .sl i o n c es ag => .sl (i + d) o n c es ag
  | .psl vs f => .psl (shiftL d vs) f
  | .map i => .map (i + d)
  | .pmap ks vs => .pmap (shiftL d ks) (shiftL d vs)
  | .fn f a b => .fn f (shiftL d a) (shiftL d b)
  | .iface t v => .iface t (v.shift d)
  | v => v
def V.shiftL (d : Nat) : List V → List V
  | [] => []
  | v :: vs => v.shift d :: shiftL d vs
end
def Obj.shift (d : Nat) : Obj → Obj
  | .cells es ag cs => .cells es ag (V.shiftL d cs)
  | .map ks vs => .map (V.shiftL d ks) (V.shiftL d vs)
  | .iter s p => .iter s p
  | .dead => .dead
/-- The objects of a heap behind those of another. -/
def Hp.addAll (H : Hp) (H1 : Hp) : Nat → Nat → Hp
  | 0, _ => H
  | k + 1, i => Hp.addAll (H.push ((((H1.get i).getD .dead)).shift (H.n - i))) H1 k (i + 1)

/-- What was made since there were 'm' objects is taken to stand still: the value without their numbers. -/
def freeze (H : Hp) (m : Nat) : Nat → V → Option V
  | 0, _ => none
  | d + 1, v => if v.lt m then some v else
    match v with
    | .agg vs => (vs.mapM (freeze H m d)).map .agg
    | .tuple vs => (vs.mapM (freeze H m d)).map .tuple
    | .psl vs f => (vs.mapM (freeze H m d)).map (.psl · f)
    | .pp v => (freeze H m d v).map .pp
    | .iface t v => (freeze H m d v).map (.iface t)
    | .fn f a b => match a.mapM (freeze H m d), b.mapM (freeze H m d) with
      | some a, some b => some (.fn f a b)
      | _, _ => none
    | .pmap a b => match a.mapM (freeze H m d), b.mapM (freeze H m d) with
      | some a, some b => some (.pmap a b)
      | _, _ => none
    | .ptr i o => match H.get i with
      | some (.cells es ag cs) =>
        if es = 0 ∨ o + es > cs.length then none else
        if ag then (((cs.drop o).take es).mapM (freeze H m d)).map fun l => .pp (.agg l)
        else match cs[o]? with
          | some v => match v with
            | .agg _ => none
            | v => (freeze H m d v).map .pp
          | none => none
      | _ => none
    | .sl i o n c es ag => match H.get i with
      | some (.cells _ _ cs) =>
        if es = 0 ∨ o + n * es > cs.length ∨ (ag = false ∧ es ≠ 1) then none else
        (((cs.drop o).take (n * es)).mapM (freeze H m d)).map fun l => .psl (chunk es ag n l) (c == some n)
      | _ => none
    | .map i => match H.get i with
      | some (.map a b) => match a.mapM (freeze H m d), b.mapM (freeze H m d) with
        | some a, some b => some (.pmap a b)
        | _, _ => none
      | _ => none
    | v => some v

structure Env where
  fns : Tr AFn
  glob : Nat → Option V
  intr : Nat → Option (List V → Option V)

/-! ### running -/
structure St where
  T : Tr V
  H : Hp
def St.tmp (st : St) (i : Nat) : V := (st.T.get i).getD V.undef
def St.put (st : St) (d : Option Nat) (v : V) : St :=
  match d with
  | some i => { st with T := st.T.set v i }
  | none => st
def Opd.ev (E : Env) (st : St) : Opd → Option V
  | .t i => some (st.tmp i)
  | .c v => some v
  | .g n => (E.glob n).map .pp
def evAll (E : Env) (st : St) (xs : List Opd) : Option (List V) :=
  List.rec (some []) (fun x _ ih => match x.ev E st with
    | some v => match ih with
      | some vs => some (v :: vs)
      | none => none
    | none => none) xs
def AOper.wanted (o : AOper) (st : St) : Bool :=
  match o.guard with
  | none => true
  | some (t, want) => match st.tmp t with
    | .bool b => b == want
    | _ => false
/-- A call: one whose arguments hold no heap object's number begins with an empty heap. -/
def pureOut (H : Hp) : Option Out → Option OpR
  | some (.ok v H1) => bif v.pure then some (.val v H) else some (.val (v.shift H.n) (H.addAll H1 H1.n 0))
  | some (.pan v H1) => bif v.pure then some (.pan v H) else some (.pan (v.shift H.n) (H.addAll H1 H1.n 0))
  | none => none
def refOut (H : Hp) : Option Out → Option OpR
  | some (.ok v H1) => some (.val v { H1 with fl := Nat.min H.fl H1.fl })
  | some (.pan v H1) => some (.pan v { H1 with fl := Nat.min H.fl H1.fl })
  | none => none
def doCall (call : Caller) (f : Nat) (args : List V) (H : Hp) : Option OpR :=
  bif V.pureL args then pureOut H (call f args Hp.empty) else refOut H (call f args H.fresh)
/-- A call that must leave the heap alone: neither its arguments nor its answer hold a heap object's number. -/
def onlyPure : Option Out → Option V
  | some (.ok v _) => bif v.pure then some v else none
  | _ => none
def doCallP (call : Caller) (f : Nat) (args : List V) : Option V :=
  bif V.pureL args then onlyPure (call f args Hp.empty) else none
inductive Kind where
  | plain | call (f : Nat) | callv | callp (f : Nat) | callvp | panic
def AOp.kind : AOp → Kind
  | .call f => .call f | .callv => .callv | .callp f => .callp f | .callvp => .callvp | .panic => .panic
  | .mov | .pick | .alloc .. | .box .. | .build .. | .bslice .. | .load .. | .store .. | .nilchk | .bin .. | .eq .. | .un .. | .conv .. | .mkfn .. | .mkmap
  | .mkslice .. | .slice .. | .slarr .. | .faddr .. | .iaddr .. | .iaddrA .. | .field .. | .idxS | .idxA .. | .lookup .. | .mapset .. | .delete
  | .range | .next | .extract .. | .append .. | .len .. | .lenA .. | .cap | .copy .. | .clear .. | .min | .max | .mkiface .. | .tassert .. => .plain
def valOf : Option (V × Hp) → Option OpR
  | some (v, H) => some (.val v H)
  | none => none
def intrOf (g : List V → Option V) (vs : List V) (H : Hp) : Option OpR :=
  match g vs with
  | some v => some (.val v H)
  | none => none
def AOper.run (E : Env) (call : Caller) (o : AOper) (vs : List V) (H : Hp) : Option OpR :=
  match o.op.kind with
  | .plain => valOf (o.op.ev vs H)
  | .call f => match E.intr f with
    | some g => intrOf g vs H
    | none => doCall call f vs H
  | .callv => match vs with
    | .fn f first caps :: vs => doCall call f (first ++ vs ++ caps) H
    | _ => none
  | .callp f => match E.intr f with
    | some g => intrOf g vs H
    | none => intrOf (doCallP call f) vs H
  | .callvp => match vs with
    | .fn f first caps :: vs => intrOf (doCallP call f) (first ++ vs ++ caps) H
    | _ => none
  | .panic => match vs with
    | [.iface t x] => some (.pan (.iface t x) H)
    | _ => none

inductive Ex where
  | norm | ret
  | exit (id : Nat)
  | pan (v : V)

abbrev Run := St → Option (Ex × St)
/-- What one operation gives, handed on. -/
def afterOp (o : AOper) (st : St) (k : Run) : Option OpR → Option (Ex × St)
  | some (.val v H) => k (St.put ⟨st.T, H⟩ o.dst v)
  | some (.pan v H) => some (.pan v, ⟨st.T, H⟩)
  | none => none
def runWith (E : Env) (call : Caller) (o : AOper) (st : St) (k : Run) : Option (List V) → Option (Ex × St)
  | none => none
  | some vs => afterOp o st k (o.run E call vs st.H)
def stepOp (E : Env) (call : Caller) (o : AOper) (k : Run) : Run := fun st =>
  bif o.wanted st then runWith E call o st k (evAll E st o.args) else k (st.put o.dst V.undef)
def doneR : Run := fun st => some (.norm, st)
def runOps (E : Env) (call : Caller) (ops : List AOper) : Run :=
  List.rec doneR (fun o _ k => stepOp E call o k) ops

/-! ### a region that draws its order -/
/-- Does what the operation gives hang on the heap? -/
def AOp.reads : AOp → Bool
  | .load .. | .lookup .. | .len .. | .slarr .. | .conv .bytesStr => true
  | _ => false
/-- May the operation change the heap? -/
def AOp.moves : AOp → Bool
  | .alloc .. | .box .. | .bslice .. | .store .. | .mkmap | .mkslice .. | .mapset .. | .delete | .range | .next | .append .. | .copy .. | .clear .. | .call _ | .callv | .panic => true
  | .conv .strBytes => true
  | _ => false
/-- What one step of the lexical run has done: the operation, its operands' values, what it gave, in which heaps it must give the same. -/
structure Did where
  op : AOp
  vs : List V
  v : V
  ms : List Nat
/-- 'hs': the heap at first and behind each operation that may change it, the last one first. -/
def lexRun (E : Env) (call : Caller) : List (AOper × List Nat) → St → List Hp → Option (List Did × List Hp × St)
  | [], st, hs => some ([], hs, st)
  | (o, ms) :: os, st, hs =>
    if o.wanted st then
      match evAll E st o.args with
      | none => none
      | some vs => match o.run E call vs st.H with
        | some (.val v H) =>
          match lexRun E call os (St.put ⟨st.T, H⟩ o.dst v) (if o.op.moves then H :: hs else hs) with
          | some (ds, hs, st) => some (⟨o.op, vs, v, ms⟩ :: ds, hs, st)
          | none => none
        | _ => none
    else lexRun E call os (st.put o.dst V.undef) (if o.op.moves then st.H :: hs else hs)
def Did.still (hs : List Hp) (d : Did) : Bool :=
  d.ms.all fun m => match hs[m]? with
    | some H => match d.op.ev d.vs H with
      | some (v, _) => v.same d.v
      | none => false
    | none => false
def runD (E : Env) (call : Caller) (ops : List (AOper × List Nat)) (st : St) : Option (Ex × St) :=
  match lexRun E call ops st [st.H] with
  | some (ds, hs, st) => if ds.all (Did.still hs.reverse) then some (.norm, st) else none
  | none => none

/-! ### code -/
def onNorm (k : Run) : Option (Ex × St) → Option (Ex × St)
  | some (.norm, st) => k st
  | r => r
def seqR (a b : Run) : Run := fun st => onNorm b (a st)
def condR (E : Env) (c : Opd) (a b : Run) : Run := fun st =>
  match c.ev E st with
  | some (.bool t) => bif t then a st else b st
  | _ => none
def onExit (id : Nat) : Option (Ex × St) → Option (Ex × St)
  | some (.exit i, st) => bif Nat.beq i id then some (.norm, st) else some (.exit i, st)
  | r => r
def blockR (id : Nat) (b : Run) : Run := fun st => onExit id (b st)
def noneR : Run := fun _ => none
def loopN (f : Run) (n : Nat) : Run :=
  Nat.rec noneR (fun _ k => seqR f k) n
def exec (E : Env) (call : Caller) (n : Nat) (c : ACode) : Run :=
  ACode.rec doneR (fun ops => runOps E call ops) (fun ops => runD E call ops) (fun _ _ a b => seqR a b) (fun c _ _ a b => condR E c a b)
    (fun id _ b => blockR id b) (fun _ b => loopN b n) (fun id st => some (.exit id, st)) (fun st => some (.ret, st)) c

def ARes.ev (st : St) : ARes → Option V
  | .tmp t => some (st.tmp t)
  | .cell t ag size => match (AOp.load ag size).ev [st.tmp t] st.H with
    | some (v, _) => some v
    | none => none
def resAll (st : St) : List ARes → Option (List V)
  | [] => some []
  | r :: rs => match r.ev st with
    | some v => (resAll st rs).map (v :: ·)
    | none => none
def resV : List V → V
  | [v] => v
  | vs => .tuple vs
def initT : List V → Nat → Tr V → Tr V
  | [], _, T => T
  | v :: vs, i, T => initT vs (i + 1) (T.set v i)
/-- A function's answer leaves its frame: what it made and nobody holds is gone; what 'pol' says stands still. -/
def leaveV (pol : Nat) (m : Nat) (v : V) (H : Hp) : Option V :=
  match pol with
  | 0 => bif v.lt m then some v else none
  | _ => freeze H m 100 v
def leave (pol : Nat) (H0 : Hp) (v : V) (H : Hp) : Out :=
  bif Nat.ble H0.n H.fl then
    match leaveV pol H0.n v H with
    | some v => .ok v H0
    | none => .ok v H
  else .ok v H
def answer (fn : AFn) (H : Hp) (st : St) : Option Out :=
  match resAll st fn.results with
  | some vs => some (leave fn.pol H (resV vs) st.H)
  | none => none
def outOf (fn : AFn) (H : Hp) : Option (Ex × St) → Option Out
  | some (.norm, st) => answer fn H st
  | some (.ret, st) => answer fn H st
  | some (.pan v, st) => some (.pan v st.H)
  | _ => none
def enter (E : Env) (n : Nat) (call : Caller) : Caller := fun f args H =>
  match E.fns.get f with
  | none => none
  | some fn => outOf fn H (exec E call n fn.body ⟨initT args 0 .nil, H⟩)
def callN (E : Env) (n : Nat) : Caller :=
  Nat.rec (fun _ _ _ => none) (fun n call => enter E n call) n
end
end Go.Am
