/- FROM THE MODEL's CODE TO THE ABSTRACT MACHINE's: what hangs on types is looked up once. What it does not take, it refuses (none). -/
import Derived.Test.YtgbeonpbgalbnaaGreatDoorAmDefs
namespace Go.Am
set_option autoImplicit false

def ofConsts (f : Value → Option V) : List Value → Option (List V)
  | [] => some []
  | v :: vs => match f v, ofConsts f vs with
    | some x, some xs => some (x :: xs)
    | _, _ => none
def ofConst1 : Value → Option V
  | .bool b => some (.bool b)
  | .int k n => some (.int k n)
  | .string s => some (.str s.data.toList)
  | .pointer none => some .nilp
  | .slice none 0 0 => some .nils
  | .map none => some .nilm
  | .nilFunc => some .nilf
  | .nilIface => some .nili
  | .func (.func f) a b => bif a.isEmpty && b.isEmpty then some (.fn f [] []) else none
  | _ => none
def ofConst : Value → Option V
  | .agg cs => (ofConsts ofConst1 cs.toList).map .agg
  | v => ofConst1 v

section
variable (P : Program)
/-- Are a type's values structs or arrays? -/
def aggT (t : TypeId) : Option Bool :=
  match P.underlying t with
  | some (.struct _) | some (.array _ _) => some true
  | some _ => some false
  | none => none
def sizeT (t : TypeId) : Option Nat := (P.info? t).map (·.size)
def bytesT (t : TypeId) : Option Nat := (P.info? t).map (·.bytes)
/-- The size of a type whose values take cells; are they structs or arrays? -/
def cellT (t : TypeId) : Option (Nat × Bool) :=
  match sizeT P t, aggT P t with
  | some n, some ag => bif Nat.blt 0 n && (ag || Nat.beq n 1) then some (n, ag) else none
  | _, _ => none
def zeroT (t : TypeId) : Option V :=
  match P.info? t with
  | some i => i.zero.bind ofConst
  | none => none
/-- The same, and the zero's cells. -/
def roomT (t : TypeId) : Option (Nat × Bool × List V) :=
  match cellT P t, zeroT P t with
  | some (n, ag), some z => bif Nat.beq z.flat.length n then some (n, ag, z.flat) else none
  | _, _ => none
def skT (t : TypeId) : Option SK :=
  match P.underlying t with
  | some .bool => some .bool
  | some (.int _) => some .int
  | some .string => some .str
  | _ => none
def fieldsK (k : Nat) : List Field → Option (List SK)
  | [] => some []
  | f :: fs => match skT P f.type, cellT P f.type, fieldsK (k + 1) fs with
    | some s, some (1, false), some ss => bif Nat.beq f.offset k && f.name != "_" then some (s :: ss) else none
    | _, _, _ => none
/-- A struct all of whose fields are numbers, truths and texts. -/
def scalarsT (t : TypeId) : Option (List SK) :=
  match P.underlying t with
  | some (.struct fs) => bif !P.stoodInHeld t && !P.eqGuardType P.depth t then fieldsK P 0 fs.toList else none
  | _ => none
def keyT (t : TypeId) : Option KeyK :=
  match skT P t with
  | some s => some (.one s)
  | none => (scalarsT P t).map .many

def opd (N : Nat) : Operand → Option Opd
  | .tmp t => bif Nat.blt t N then some (.t t) else none
  | .const v => (ofConst v).map .c
  | .global g => some (.g g)
  | .func f => some (.c (.fn f [] []))
def opds (N : Nat) : List Operand → Option (List Opd)
  | [] => some []
  | x :: xs => match opd N x, opds N xs with
    | some a, some as => some (a :: as)
    | _, _ => none
def isConstO : Operand → Bool
  | .const _ => true
  | _ => false

def eqOf (x y : Operand) (t : TypeId) : Option (Option EqK) :=
  match P.underlying t with
  | some (.int _) | some .string => some none
  | some .bool => some (some .bool)
  | some (.pointer e) => (cellT P e).map fun _ => some .ptr
  | some (.slice _) => some (some .slice)
  | some (.map _ _) => some (some .map)
  | some (.func _ _ _) => some (some .func)
  | some (.interface _) => bif isConstO x || isConstO y then some (some .iface) else none
  | some (.struct _) => (scalarsT P t).map fun ss => some (.scalars ss)
  | _ => none
/-- Each field's place and size. -/
def placesOf : List Field → Option (List (Nat × Nat))
  | [] => some []
  | f :: fs => match cellT P f.type, placesOf fs with
    | some (n, _), some ps => some ((f.offset, n) :: ps)
    | _, _ => none
def partsOf (pl : List (Nat × Nat)) : List Nat → Option (List (Nat × Nat))
  | [] => some []
  | i :: is => match pl[i]?, partsOf pl is with
    | some p, some ps => some (p :: ps)
    | _, _ => none
def callOf (c : Call) : Option (AOp × List Operand) :=
  match c.callee with
  | .value (.func f) => some (.call f, c.args.toList)
  | .value f => some (.callv, f :: c.args.toList)
  | .invoke _ _ => none
  | .builtin b =>
    match b, c.argTypes.toList.map (P.underlying ·), c.args.toList with
    | .append, [some (.slice e), some y], [_, _] => match y with
      | .slice _ | .string => match cellT P e, bytesT P e, zeroT P e with
        | some (n, ag), some k, some z => bif Nat.beq z.flat.length n then some (.append n ag k, c.args.toList) else none
        | _, _, _ => none
      | _ => none
    | .len, [some d], [_] => match d with
      | .string => some (.len .str, c.args.toList)
      | .slice _ => some (.len .slice, c.args.toList)
      | .map _ _ => some (.len .map, c.args.toList)
      | .array n _ => some (.lenA n, c.args.toList)
      | .pointer a => match P.underlying a with
        | some (.array n _) => some (.lenA n, c.args.toList)
        | _ => none
      | _ => none
    | .cap, [some (.slice _)], [_] => some (.cap, c.args.toList)
    | .copy, [some (.slice e), _], [_, _] => (cellT P e).map fun (n, _) => (.copy n, c.args.toList)
    | .clear, [some (.slice e)], [_] => (roomT P e).map fun (n, _, z) => (.clear n z, c.args.toList)
    | .min, [some (.int _), some (.int _)], [_, _] => some (.min, c.args.toList)
    | .max, [some (.int _), some (.int _)], [_, _] => some (.max, c.args.toList)
    | .panic, _, [x] => some (.panic, [x])
    | _, _, _ => none

def opOf : Op → Option (AOp × List Operand)
  | .move x | .assign x => some (.mov, [x])
  | .pick c a b => some (.pick, [c, a, b])
  | .alloc e => (roomT P e).map fun (n, ag, z) => (.alloc n ag z, [])
  | .box e x => (cellT P e).map fun (n, ag) => (.box n ag, [x])
  | .build t ps => match P.underlying t, zeroT P t with
    | some (.struct fs), some z => match placesOf P fs.toList with
      | some pl => match partsOf pl (ps.toList.map (·.1)) with
        | some l => bif Nat.blt 0 z.flat.length then some (.build z.flat l, ps.toList.map (·.2)) else none
        | none => none
      | none => none
    | some (.array _ e), some z => match cellT P e with
      | some (n, _) => bif Nat.blt 0 z.flat.length then some (.build z.flat (ps.toList.map fun (i, _) => (i * n, n)), ps.toList.map (·.2)) else none
      | none => none
    | _, _ => none
  | .buildSlice t len ps => match P.underlying t with
    | some (.slice e) => match roomT P e with
      | some (n, ag, z) => bif Nat.ble (len * n) 65536 then some (.bslice n ag (List.replicate len z).flatten (ps.toList.map fun (i, _) => (i * n, n)), ps.toList.map (·.2)) else none
      | none => none
    | _ => none
  | .load t a => (cellT P t).map fun (n, ag) => (.load ag n, [a])
  | .store t a x => (cellT P t).map fun (n, _) => (.store n, [a, x])
  | .nilCheck x => some (.nilchk, [x])
  | .binOp op t x y _ => match op with
    | .eql | .neq => match eqOf P x y t with
      | some none => some (.bin op, [x, y])
      | some (some k) => some (.eq (op == .neq) k, [x, y])
      | none => none
    | _ => match P.underlying t with
      | some (.int _) | some .string => some (.bin op, [x, y])
      | _ => none
  | .unOp op _ x => some (.un op, [x])
  | .convert s d x => match P.underlying s, P.underlying d with
    | some (.int _), some (.int k) => some (.conv (.int k), [x])
    | some .string, some .string => some (.conv .same, [x])
    | some (.slice e), some .string => match P.underlying e with
      | some (.int .u8) => some (.conv .bytesStr, [x])
      | _ => none
    | some .string, some (.slice e) => match P.underlying e with
      | some (.int .u8) => some (.conv .strBytes, [x])
      | _ => none
    | some (.int _), some .string => some (.conv .runeStr, [x])
    | _, _ => none
  | .makeInterface t x => match P.underlying t with
    | some (.interface _) => none
    | some _ => some (.mkiface t, [x])
    | none => none
  | .makeFunc (.func f) first caps => some (.mkfn f first.size, first.toList ++ caps.toList)
  | .makeMap t none => match P.underlying t with
    | some (.map k _) => (keyT P k).map fun _ => (.mkmap, [])
    | _ => none
  | .makeSlice t l c => match P.underlying t with
    | some (.slice e) => match roomT P e, bytesT P e with
      | some (n, ag, z), some b => some (.mkslice n ag b z, [l, c])
      | _, _ => none
    | _ => none
  | .slice t x l h m =>
    match P.underlying t with
    | some .string => some (.slice none l.isSome h.isSome m.isSome, x :: (l.toList ++ h.toList ++ m.toList))
    | some (.slice e) => (cellT P e).map fun (n, _) => (.slice (some n) l.isSome h.isSome m.isSome, x :: (l.toList ++ h.toList ++ m.toList))
    | some (.array k e) => (cellT P e).map fun (n, ag) => (.slarr k n ag l.isSome h.isSome m.isSome, x :: (l.toList ++ h.toList ++ m.toList))
    | _ => none
  | .fieldAddr s x f => match P.underlying s with
    | some (.struct fs) => match fs[f]? with
      | some fd => (cellT P fd.type).map fun (n, ag) => (.faddr fd.offset n ag, [x])
      | none => none
    | _ => none
  | .field s x f => match P.underlying s with
    | some (.struct fs) => match fs[f]? with
      | some fd => (cellT P fd.type).map fun (n, ag) => (.field fd.offset n ag, [x])
      | none => none
    | _ => none
  | .indexAddr t x i => match P.underlying t with
    | some (.slice e) => (cellT P e).map fun (n, _) => (.iaddr n, [x, i])
    | some (.array k e) => (cellT P e).map fun (n, ag) => (.iaddrA k n ag, [x, i])
    | _ => none
  | .index t x i => match P.underlying t with
    | some .string => some (.idxS, [x, i])
    | some (.array k e) => (cellT P e).map fun (n, ag) => (.idxA k n ag, [x, i])
    | _ => none
  | .lookup t x k ok => match P.underlying t with
    | some (.map kt e) => match keyT P kt, zeroT P e with
      | some kk, some z => some (.lookup kk z ok, [x, k])
      | _, _ => none
    | _ => none
  | .mapUpdate t m k v | .insert t m k v => match P.underlying t with
    | some (.map kt _) => (keyT P kt).map fun kk => (.mapset kk, [m, k, v])
    | _ => none
  | .range t x => match P.underlying t with
    | some .string => some (.range, [x])
    | _ => none
  | .next it true => some (.next, [it])
  | .extract t i => some (.extract i, [t])
  | .typeAssert x _ a ok => match P.underlying a, zeroT P a with
    | some (.interface _), _ => none
    | some _, some z => some (.tassert a ok z, [x])
    | _, _ => none
  | .call c => callOf P c
  | .panic x => some (.panic, [x])
  | _ => none

def operOf (N : Nat) (ops : Array Oper) (o : Oper) : Option AOper :=
  match opOf P o.op with
  | none => none
  | some (a, xs) => match opds N xs with
    | none => none
    | some as =>
      bif (match o.dst with | some d => Nat.blt d N | none => true) then
        match o.guard with
        | none => some ⟨o.dst, a, as, none⟩
        | some (j, want) => match (ops[j]?).bind (·.dst) with
          | some d => bif Nat.blt d N then some ⟨o.dst, a, as, some (d, want)⟩ else none
          | none => none
      else none
def opersOf (N : Nat) (ops : Array Oper) : List Oper → Option (List AOper)
  | [] => some []
  | o :: os => match operOf P N ops o, opersOf N ops os with
    | some a, some as => some (a :: as)
    | _, _ => none

/-! ### a region that draws: what is asked of it -/
def beforesFrom : List Oper → List Nat → List Nat
  | [], acc => acc
  | o :: os, acc => beforesFrom os (acc ++ [o.after.toList.foldl (fun s e => bif Region.binds .any e then s ||| 2 ^ e.on ||| acc.getD e.on 0 else s) 0])
def edgesOk : Nat → List Oper → Bool
  | _, [] => true
  | i, o :: os => o.after.toList.all (fun e => !Region.binds .any e || Nat.blt e.on i) && edgesOk (i + 1) os
def readsOf (a : AOper) : List Nat :=
  a.args.filterMap (fun | .t i => some i | _ => none) ++ (match a.guard with | some (t, _) => [t] | none => [])
/-- Operations i < j: may they come in either order only if neither minds? -/
def pairOk (bj : Nat) (i : Nat) (a b : AOper) : Bool :=
  bj.testBit i ||
    ((match a.dst with | some d => !(readsOf b).elem d && !(b.dst == some d) | none => true) &&
     (match b.dst with | some d => !(readsOf a).elem d | none => true) &&
     !(a.op.moves && b.op.moves))
def pairsOk (bs : List Nat) (as : List AOper) : Bool :=
  (List.range as.length).all fun j => (List.range j).all fun i => pairOk (bs.getD j 0) i (as.getD i default) (as.getD j default)
def distinct : List Nat → Bool
  | [] => true
  | d :: ds => !ds.elem d && distinct ds
/-- The stages at which a reading operation must give the same, but for its own. -/
def stagesOf (bs : List Nat) (as : List AOper) (i : Nat) : List Nat :=
  let es := (List.range as.length).filter fun e => (as.getD e default).op.moves
  let lo := (es.filter fun e => (bs.getD i 0).testBit e).length
  let hi := es.length - (es.filter fun e => (bs.getD e 0).testBit i).length
  let c := (es.filter fun e => Nat.blt e i).length
  if (as.getD i default).op.reads then (List.range (hi + 1)).filter fun m => Nat.ble lo m && !Nat.beq m c else []
/-- A call that may come before or behind another operation that may change the heap must leave it alone. -/
def strictCall (bs : List Nat) (as : List AOper) (i : Nat) (a : AOper) : AOper :=
  let others := (List.range as.length).filter fun j => !Nat.beq i j && (as.getD j default).op.moves
  if others.all fun j => (bs.getD j 0).testBit i || (bs.getD i 0).testBit j then a else
  match a.op with
  | .call f => { a with op := .callp f }
  | .callv => { a with op := .callvp }
  | _ => a
def drawOf (ops : Array Oper) (as : List AOper) : Option ACode :=
  let bs := beforesFrom ops.toList []
  let as := (List.range as.length).map fun i => strictCall bs as i (as.getD i default)
  bif edgesOk 0 ops.toList && pairsOk bs as && distinct (as.filterMap (·.dst)) then
    some (.dregion ((List.range as.length).map fun i => (as.getD i default, stagesOf bs as i)))
  else none

def codeOf (N : Nat) : Code → Option ACode
  | .skip => some .skip
  | .region _ ops draw => match opersOf P N ops ops.toList with
    | none => none
    | some as => if draw then drawOf ops as else some (.region as)
  | .seq a b => match codeOf N a, codeOf N b with
    | some x, some y => some (.seq x y)
    | _, _ => none
  | .cond c a b => match opd N c, codeOf N a, codeOf N b with
    | some c, some x, some y => some (.cond c x y)
    | _, _, _ => none
  | .block id b => (codeOf N b).map (.block id)
  | .loop b => (codeOf N b).map .loop
  | .exit id => some (.exit id)
  | .ret => some .ret
  | _ => none
def resOf (N : Nat) : List ResultVar → Option (List ARes)
  | [] => some []
  | .tmp t :: rs => bif Nat.blt t N then (resOf N rs).map (.tmp t :: ·) else none
  | .cell a t :: rs => match cellT P t with
    | some (n, ag) => bif Nat.blt a N then (resOf N rs).map (.cell a ag n :: ·) else none
    | none => none
def fnOf (pol : Nat) (f : Func) : Option AFn :=
  match f.body with
  | none => none
  | some c => match codeOf P f.ntmps c, resOf P f.ntmps f.results.toList with
    | some b, some rs => bif Nat.ble (f.params.size + f.nfree) f.ntmps then some ⟨f.ntmps, rs, b, pol⟩ else none
    | _, _ => none
end
end Go.Am
