/- Parts of the proof, each with its own heading: The abstract machine: Go's code run over values that carry no addresses for what is only read. Definitions. The abstract machine without a bound on its rounds: the equations by which it is used. What an abstract value stands for in a world; what steps keep. -/
import Derived.Orders
import Derived.KernelRfl
import Derived.Tactics
import Derived.Laws.World
import Derived.Laws.Cells
set_option linter.unusedSimpArgs false
set_option linter.unusedVariables false
namespace Go.Ab

inductive AV where
  | val (v : Value)
  | agg (cs : List AV)
  | tup (vs : List AV)
  | slc (full : Bool) (es : List AV)
  | sptr (cs : List AV) (off : Nat)
  | ptr (id off : Nat)
  | eptr (id g k idx off : Nat)
  | arr (id off len g k : Nat)
  | clo (f : FuncId) (first caps : List AV)
  | mp (id : Nat)
  | emp
  | unk
  deriving Inhabited

def AV.cells : AV → List AV
  | .agg cs => cs
  | v => [v]
def isCell : AV → Bool
  | .agg _ | .tup _ | .unk | .val (.agg _) | .val (.tuple _) => false
  | _ => true
def okVal : AV → Bool
  | .tup _ | .unk | .val (.agg _) | .val (.tuple _) => false
  | _ => true
abbrev AV.und : AV := .val (.tuple #[])
abbrev AV.int (n : Int) : AV := .val (.int .i64 n)
abbrev AV.bool (b : Bool) : AV := .val (.bool b)
abbrev AV.str (s : ByteArray) : AV := .val (.string s)

def ofCell : Value → AV
  | .slice none 0 0 => .slc true []
  | v => .val v
def ofVal : Value → AV
  | .agg cs => .agg (cs.toList.map ofCell)
  | v => ofCell v

inductive AObj where
  | dead
  | vars (cs : List AV)
  | arr (k : Nat) (es : List AV) (g : Nat)
  | frz (k : Nat) (es : List AV) (g : Nat)
  | map (es : List (AV × AV × Nat)) (clock : Nat)
  | iter (m : Option Nat) (since : Nat) (seen : List Nat) (last : Nat)
  deriving Inhabited
abbrev AHeap := List AObj
abbrev Env := List AV
def hget (h : AHeap) (i : Nat) : AObj := h.getD i .dead

def sview (h : AHeap) : AV → Option (List AV)
  | .slc _ es => some es
  | .emp => some []
  | .arr id off len g k => match hget h id with
    | .arr k' es g' => if k = k' ∧ g = g' ∧ off + len ≤ es.length then some ((es.drop off).take len) else none
    | .frz k' es g' => if k = k' ∧ g = g' ∧ off + len ≤ es.length then some ((es.drop off).take len) else none
    | .vars cs => if k = 1 ∧ g = 0 ∧ off + len ≤ cs.length then some ((cs.drop off).take len) else none
    | _ => none
  | _ => none
def slen : AV → Option Nat
  | .slc _ es => some es.length
  | .emp => some 0
  | .arr _ _ len _ _ => some len
  | _ => none

/-! ### Types -/
def tsize (P : Program) (t : TypeId) : Nat := ((P.info? t).map (·.size)).getD 0
def tbytes (P : Program) (t : TypeId) : Nat := ((P.info? t).map (·.bytes)).getD 0
def aggD : TypeDesc → Bool
  | .struct _ | .array _ _ => true
  | _ => false
def tagg (P : Program) (t : TypeId) : Option Bool := (P.underlying t).map aggD
def telem (P : Program) (t : TypeId) : Option TypeId := match P.underlying t with | some (.slice e) => some e | _ => none
def zeroOk (z : AV) : Option AV := if okVal z && z.cells.all isCell then some z else none
def tzero (P : Program) (t : TypeId) : Option AV := match P.info? t with | some i => (i.zero.map ofVal).bind zeroOk | none => none
def tslice (P : Program) (t : TypeId) : Option (Nat × Nat × AV) :=
  match telem P t with
  | some e => match tzero P e with
    | some z => if 0 < tsize P e ∧ 0 < tbytes P e ∧ z.cells.length = tsize P e then some (tsize P e, tbytes P e, z) else none
    | none => none
  | none => none
def tfield (P : Program) (s : TypeId) (f : Nat) : Option (Nat × Nat × Bool) :=
  match P.underlying s with
  | some (.struct fs) => match fs[f]? with
    | some fd => match tagg P fd.type with
      | some g => if 0 < tsize P fd.type then some (fd.offset, tsize P fd.type, g) else none
      | none => none
    | none => none
  | _ => none
def tplaces (P : Program) (s : TypeId) : Option (List (Nat × Nat)) :=
  match P.underlying s with
  | some (.struct fs) => if fs.all fun f => (P.info? f.type).isSome then some (fs.toList.map fun f => (f.offset, tsize P f.type)) else none
  | _ => none
def tarr (P : Program) (t : TypeId) : Option (Nat × TypeId) := match P.underlying t with | some (.array n e) => some (n, e) | _ => none

/-! ### Reading and writing cells -/
def cut (agg : Option Bool) (k : Nat) (cs : List AV) (off : Nat) : Option AV :=
  match agg with
  | some true => if off + k ≤ cs.length then some (.agg ((cs.drop off).take k)) else none
  | some false => cs[off]?
  | none => none
def putAt (cs : List AV) (off : Nat) : List AV → List AV
  | [] => cs
  | v :: r => putAt (cs.set off v) (off + 1) r
def patch (e : AV) (off : Nat) (vs : List AV) : AV :=
  match e with
  | .agg cs => .agg (putAt cs off vs)
  | e => match vs with | [v] => v | _ => e
def aload (P : Program) (t : TypeId) (h : AHeap) : AV → Option AV
  | .ptr id off => match hget h id with
    | .vars cs => cut (tagg P t) (tsize P t) cs off
    | _ => none
  | .eptr id g k idx off => match hget h id with
    | .arr k' es g' => if k = k' ∧ g = g' then (match es[idx]? with | some e => cut (tagg P t) (tsize P t) e.cells off | none => none) else none
    | .frz k' es g' => if k = k' ∧ g = g' then (match es[idx]? with | some e => cut (tagg P t) (tsize P t) e.cells off | none => none) else none
    | .vars cs => if k = 1 ∧ g = 0 ∧ off = 0 ∧ tagg P t = some false then cs[idx]? else none
    | _ => none
  | .sptr cs off => cut (tagg P t) (tsize P t) cs off
  | _ => none
def astore (P : Program) (t : TypeId) (h : AHeap) (a x : AV) : Option AHeap :=
  if x.cells.length = tsize P t ∧ 0 < tsize P t ∧ okVal x = true then
    match a with
    | .ptr id off => match hget h id with
      | .vars cs => if off + x.cells.length ≤ cs.length then some (h.set id (.vars (putAt cs off x.cells))) else none
      | _ => none
    | .eptr id g k idx off => match hget h id with
      | .arr k' es g' =>
        if k = k' ∧ g = g' then
          match es[idx]? with
          | some e => if off + x.cells.length ≤ e.cells.length then some (h.set id (.arr k (es.set idx (if x.cells.length = e.cells.length then x else patch e off x.cells)) g)) else none
          | none => none
        else none
      | .vars cs => if k = 1 ∧ g = 0 ∧ off = 0 ∧ idx < cs.length ∧ tsize P t = 1 then some (h.set id (.vars (putAt cs idx x.cells))) else none
      | _ => none
    | _ => none
  else none

/-! ### Operations on plain values -/
def aint (op : BinOp) (k : IntKind) (a b : Int) : Option Value :=
  match op with
  | .add => some (.int k (k.wrap (a + b)))
  | .sub => some (.int k (k.wrap (a - b)))
  | .mul => some (.int k (k.wrap (a * b)))
  | .quo => if b = 0 then none else some (.int k (k.wrap (a.tdiv b)))
  | .rem => if b = 0 then none else some (.int k (a.tmod b))
  | .and => some (.int k (k.wrap (BitVec.ofInt k.bits a &&& BitVec.ofInt k.bits b).toNat))
  | .or => some (.int k (k.wrap (BitVec.ofInt k.bits a ||| BitVec.ofInt k.bits b).toNat))
  | .xor => some (.int k (k.wrap (BitVec.ofInt k.bits a ^^^ BitVec.ofInt k.bits b).toNat))
  | .andNot => some (.int k (k.wrap (BitVec.ofInt k.bits a &&& ~~~ BitVec.ofInt k.bits b).toNat))
  | .eql => some (.bool (a == b))
  | .neq => some (.bool (a != b))
  | .lss => some (.bool (a < b))
  | .leq => some (.bool (a ≤ b))
  | .gtr => some (.bool (a > b))
  | .geq => some (.bool (a ≥ b))
  | _ => none
def ashift (op : BinOp) (k : IntKind) (a b : Int) : Option Value :=
  if b < 0 then none else
  match op with
  | .shl => some (.int k (k.wrap (a * 2 ^ (min b.toNat k.bits))))
  | .shr => some (.int k (a.fdiv (2 ^ (min b.toNat k.bits))))
  | _ => none
def astr (op : BinOp) (x y : ByteArray) : Option Value :=
  match op with
  | .add => if ((x.size + y.size : Nat) : Int) > IntKind.i64.max then none else some (.string (x ++ y))
  | .eql => some (.bool (x.data.toList == y.data.toList))
  | .neq => some (.bool (!(x.data.toList == y.data.toList)))
  | .lss => some (.bool (Op.bytesLess x.data.toList y.data.toList))
  | .leq => some (.bool (Op.bytesLess x.data.toList y.data.toList || x.data.toList == y.data.toList))
  | .gtr => some (.bool (!(Op.bytesLess x.data.toList y.data.toList || x.data.toList == y.data.toList)))
  | .geq => some (.bool (!(Op.bytesLess x.data.toList y.data.toList)))
  | _ => none
def aeq1 : AV → AV → Option Bool
  | .val (.int k a), .val (.int k' b) => if k = k' then some (a == b) else none
  | .val (.string a), .val (.string b) => some (a.data.toList == b.data.toList)
  | .val (.bool a), .val (.bool b) => some (a == b)
  | _, _ => none
def plainT : TypeDesc → AV → Bool
  | .bool, .val (.bool _) | .int _, .val (.int ..) | .string, .val (.string _) => true
  | _, _ => false
def partOf (P : Program) (t : TypeId) (off : Nat) (x : AV) : Option AV :=
  match x with
  | .agg cs => if 0 < tsize P t then cut (tagg P t) (tsize P t) cs off else none
  | _ => none
def aeqF (eq : TypeId → AV → AV → Option Bool) (P : Program) (x y : AV) : List Field → Option Bool
  | [] => some true
  | f :: r =>
    if f.name ≠ "_" then
      match partOf P f.type f.offset x, partOf P f.type f.offset y with
      | some a, some b => match eq f.type a b, aeqF eq P x y r with
        | some e, some e' => some (e && e')
        | _, _ => none
      | _, _ => none
    else aeqF eq P x y r
def aeqT (P : Program) : Nat → TypeId → AV → AV → Option Bool
  | 0, _, _, _ => none
  | d + 1, t, x, y => match P.underlying t with
    | some (.struct fs) => if P.stoodInHeld t then none else
      match x, y with
      | .agg _, .agg _ => aeqF (aeqT P d) P x y fs.toList
      | _, _ => none
    | some u => if plainT u x && plainT u y then aeq1 x y else none
    | none => none
abbrev eqDepth : Nat := 5
def aeqS (P : Program) (t : TypeId) (x y : AV) : Option Bool := if P.eqGuardType P.depth t then none else aeqT P eqDepth t x y
def isMapT (P : Program) (t : TypeId) : Bool := match P.underlying t with | some (.map _ _) => true | _ => false
def isSliceT (P : Program) (t : TypeId) : Bool := match P.underlying t with | some (.slice _) => true | _ => false
def isShift : BinOp → Bool
  | .shl | .shr => true
  | _ => false
def aeqb (op : BinOp) (b : Bool) : Option AV :=
  match op with
  | .eql => some (.val (.bool b))
  | .neq => some (.val (.bool (!b)))
  | _ => none
def isNilS : Operand → Bool
  | .const (.slice none 0 0) => true
  | _ => false
def anilS (P : Program) (op : BinOp) (t : TypeId) (x : AV) : Option AV :=
  if isSliceT P t then
    match x with
    | .val (.slice none 0 0) => aeqb op true
    | .slc _ (_ :: _) => aeqb op false
    | .arr .. => aeqb op false
    | .emp => aeqb op false
    | _ => none
  else none
def isPtrT (P : Program) (t : TypeId) : Bool := match P.underlying t with | some (.pointer _) => true | _ => false
def isFuncT (P : Program) (t : TypeId) : Bool := match P.underlying t with | some (.func ..) => true | _ => false
def isBoolT (P : Program) (t : TypeId) : Bool := match P.underlying t with | some .bool => true | _ => false
def abin (P : Program) (op : BinOp) (t : TypeId) : AV → AV → Option AV
  | .val (.int k a), .val (.int k' b) =>
    if isShift op then (ashift op k a b).map .val else if k = k' then (aint op k a b).map .val else none
  | .val (.string a), .val (.string b) => (astr op a b).map .val
  | .val (.bool a), .val (.bool b) => if isBoolT P t then aeqb op (a == b) else none
  | .val (.pointer none), .val (.pointer none) => if isPtrT P t then aeqb op true else none
  | .ptr _ _, .val (.pointer none) => if isPtrT P t then aeqb op false else none
  | .val (.pointer none), .ptr _ _ => if isPtrT P t then aeqb op false else none
  | .eptr .., .val (.pointer none) => if isPtrT P t then aeqb op false else none
  | .val .nilFunc, .val .nilFunc => if isFuncT P t then aeqb op true else none
  | .clo .., .val .nilFunc => if isFuncT P t then aeqb op false else none
  | .mp _, .val (.map none) => if isMapT P t then aeqb op false else none
  | .val (.map none), .val (.map none) => if isMapT P t then aeqb op true else none
  | .agg cs, .agg ds => (aeqS P t (.agg cs) (.agg ds)).bind (aeqb op)
  | _, _ => none
def aun (op : UnOp) : AV → Option AV
  | .val (.int k n) => match op with
    | .neg => some (.val (.int k (k.wrap (0 - n))))
    | .xor => some (.val (.int k (k.wrap (BitVec.ofInt k.bits (if k.signed then -1 else k.max) ^^^ BitVec.ofInt k.bits n).toNat)))
    | _ => none
  | .val (.bool b) => match op with
    | .not => some (.val (.bool (!b)))
    | _ => none
  | _ => none
def asIntV : AV → Option Int
  | .val (.int _ n) => some n
  | _ => none
/-! ### Maps -/
def key1 : AV → Bool
  | .val (.int ..) | .val (.string _) | .val (.bool _) => true
  | _ => false
def keyOk : AV → Bool
  | .agg cs => cs.all key1
  | v => key1 v
def same1 : AV → AV → Bool
  | .val (.int k a), .val (.int k' b) => k == k' && a == b
  | .val (.string a), .val (.string b) => a.data.toList == b.data.toList
  | .val (.bool a), .val (.bool b) => a == b
  | _, _ => false
def sameL : List AV → List AV → Bool
  | [], [] => true
  | a :: r, b :: s => same1 a b && sameL r s
  | _, _ => false
def keySame : AV → AV → Bool
  | .agg a, .agg b => sameL a b
  | a, b => same1 a b
def afind (eq : AV → AV → Option Bool) (k : AV) : List (AV × AV × Nat) → Nat → Option (Option (Nat × AV))
  | [], _ => some none
  | e :: r, i => match eq k e.1 with
    | some true => some (some (i, e.2.1))
    | some false => afind eq k r (i + 1)
    | none => none
def tmap (P : Program) (t : TypeId) : Option (TypeId × TypeId) := match P.underlying t with | some (.map k e) => some (k, e) | _ => none
def alookup (P : Program) (t : TypeId) (h : AHeap) (x k : AV) (ok : Bool) : Option AV :=
  match tmap P t with
  | none => none
  | some (kt, et) => match tzero P et with
    | none => none
    | some z =>
      let fin := fun (v : AV) (b : Bool) => if ok then AV.tup [v, .bool b] else v
      if (aeqT P eqDepth kt k k).isSome && keyOk k then
        match x with
        | .val (.map none) => some (fin z false)
        | .mp id => match hget h id with
          | .map es _ => match afind (aeqT P eqDepth kt) k es 0 with
            | some (some (_, v)) => some (fin v true)
            | some none => some (fin z false)
            | none => none
          | _ => none
        | _ => none
      else none
def amapPut (P : Program) (t : TypeId) (h : AHeap) (x k v : AV) : Option AHeap :=
  match tmap P t, x with
  | some (kt, _), .mp id => match hget h id with
    | .map es c =>
      if (aeqT P eqDepth kt k k).isSome && keyOk k && okVal v then
        match afind (aeqT P eqDepth kt) k es 0 with
        | some (some (i, _)) => if (es[i]?.map fun e => keySame e.1 k) = some true then some (h.set id (.map (es.modify i fun e => (e.1, v, e.2.2)) c)) else none
        | some none => some (h.set id (.map (es ++ [(k, v, c)]) (c + 1)))
        | none => none
      else none
    | _ => none
  | _, _ => none
def amapDel (P : Program) (t : TypeId) (h : AHeap) (x k : AV) : Option AHeap :=
  match tmap P t, x with
  | some (kt, _), .val (.map none) => if (aeqT P eqDepth kt k k).isSome && keyOk k then some h else none
  | some (kt, _), .mp id => match hget h id with
    | .map es c =>
      if (aeqT P eqDepth kt k k).isSome && keyOk k then
        match afind (aeqT P eqDepth kt) k es 0 with
        | some (some (i, _)) => some (h.set id (.map (es.eraseIdx i) c))
        | some none => some (h.set id (.map es c))
        | none => none
      else none
    | _ => none
  | _, _ => none
def amapEntry (P : Program) (t : TypeId) (h : AHeap) (x k : AV) : Option (AV × AHeap) :=
  match tmap P t, x with
  | some (kt, et), .mp id => match hget h id, tzero P et with
    | .map es c, some z =>
      if (aeqT P eqDepth kt k k).isSome && keyOk k then
        match afind (aeqT P eqDepth kt) k es 0 with
        | some (some (i, v)) => match es[i]? with
          | some e => if keySame e.1 k then some (.tup [v, .int e.2.2], h) else none
          | none => none
        | some none => some (.tup [z, .int c], h.set id (.map (es ++ [(k, z, c)]) (c + 1)))
        | none => none
      else none
    | _, _ => none
  | _, _ => none
def aentryStore (h : AHeap) (x s v : AV) : Option AHeap :=
  match x, asIntV s with
  | .mp id, some n => match hget h id with
    | .map es c => if okVal v then
        match es.findIdx? (fun e => (e.2.2 : Int) == n) with
        | some i => some (h.set id (.map (es.modify i fun e => (e.1, v, e.2.2)) c))
        | none => none
      else none
    | _ => none
  | _, _ => none
def arange (P : Program) (t : TypeId) (h : AHeap) (x : AV) : Option (AV × AHeap) :=
  if isMapT P t then
    match x with
    | .val (.map none) => some (.ptr h.length 0, h ++ [.iter none 0 [] 0])
    | .mp id => match hget h id with
      | .map _ c => some (.ptr h.length 0, h ++ [.iter (some id) c [] c])
      | _ => none
    | _ => none
  else none
def anext (h : AHeap) (x : AV) : Option (AV × AHeap) :=
  match x with
  | .ptr id 0 => match hget h id with
    | .iter none _ _ _ => some (.tup [.bool false], h)
    | .iter (some m) since seen last => match hget h m with
      | .map es c =>
        if !seen.isEmpty && !es.isEmpty && es.all (fun e => last ≤ e.2.2) then none else
        match es.filter (fun e => !seen.contains e.2.2) with
        | [] => some (.tup [.bool false], h)
        | [e] => if e.2.2 < since then some (.tup [.bool true, e.1, e.2.1], h.set id (.iter (some m) since (seen ++ [e.2.2]) c)) else none
        | _ => none
      | _ => none
    | _ => none
  | _ => none
def aentry (h : AHeap) (x : AV) : Option AV :=
  match x with
  | .ptr id 0 => match hget h id with
    | .iter (some m) _ seen last => match hget h m, seen.getLast? with
      | .map es c, some s => if c = last then (es.find? fun e => e.2.2 == s).map fun e => .tup [e.1, e.2.1] else none
      | _, _ => none
    | _ => none
  | _ => none
def byteVal (b : UInt8) : AV := .val (.int .u8 b.toNat)
def bytesOf : List AV → Option (List UInt8)
  | [] => some []
  | .val (.int .u8 n) :: r => (bytesOf r).map (UInt8.ofNat n.toNat :: ·)
  | _ => none
def headOk (k : Nat) : List AV → Bool
  | [] => true
  | e :: _ => e.cells.length == k

/-! ### One operation -/
inductive ANext where
  | value (v : AV) (h : AHeap)
  | call (f : FuncId) (args : List AV) (h : AHeap)

def oval (env : Env) : Operand → AV
  | .tmp t => env.getD t .und
  | .const v => ofCell v
  | .global g => .val (.pointer (some ⟨g, 0, none⟩))
  | .func f => .clo f [] []
def asInt : AV → Option Int
  | .val (.int _ n) => some n
  | _ => none
def aconvert (P : Program) (src dst : TypeId) (h : AHeap) (x : AV) : Option (AV × AHeap) :=
  match P.underlying src, P.underlying dst with
  | some (.int _), some (.int k) => match x with
    | .val (.int _ n) => some (.val (.int k (k.wrap n)), h)
    | _ => none
  | some .string, some .string => match x with
    | .val (.string s) => some (.val (.string s), h)
    | _ => none
  | some .string, some (.slice e) => match P.underlying e, x with
    | some (.int .u8), .val (.string s) => some (.arr h.length 0 s.size 0 1, h ++ [.arr 1 (s.data.toList.map byteVal) 0])
    | _, _ => none
  | some (.slice e), some .string => match P.underlying e, sview h x with
    | some (.int .u8), some es => if headOk 1 es then (bytesOf es).map fun l => (.val (.string ⟨l.toArray⟩), h) else none
    | _, _ => none
  | _, _ => none
def aindexAddr (P : Program) (t : TypeId) (x i : AV) : Option AV :=
  match asInt i with
  | none => none
  | some n =>
    match tarr P t, tslice P t with
    | some (len, e), _ =>
      if 0 ≤ n ∧ n < len ∧ 0 < tsize P e then
        match x with
        | .ptr id off => some (.ptr id (off + n.toNat * tsize P e))
        | .eptr id g k idx off => some (.eptr id g k idx (off + n.toNat * tsize P e))
        | .sptr cs off => some (.sptr cs (off + n.toNat * tsize P e))
        | _ => none
      else none
    | none, some (ks, _, _) =>
      match x with
      | .slc _ es => if 0 ≤ n then (match es[n.toNat]? with | some v => if v.cells.length = ks then some (.sptr v.cells 0) else none | none => none) else none
      | .arr id off len g k => if 0 ≤ n ∧ n < len ∧ k = ks then some (.eptr id g k (off + n.toNat) 0) else none
      | _ => none
    | none, none => none
def isStrT (P : Program) (t : TypeId) : Bool := match P.underlying t with | some .string => true | _ => false
def aindex (P : Program) (t : TypeId) (x i : AV) : Option AV :=
  match x, asInt i with
  | .val (.string s), some n => if isStrT P t ∧ 0 ≤ n then (s.data.toList[n.toNat]?).map byteVal else none
  | .agg cs, some n => match tarr P t with
    | some (len, e) => if 0 ≤ n ∧ n < len ∧ 0 < tsize P e then cut (tagg P e) (tsize P e) cs (n.toNat * tsize P e) else none
    | none => none
  | _, _ => none
def abound (d : Nat) : Option AV → Option Nat
  | none => some d
  | some v => match asInt v with | some n => if 0 ≤ n then some n.toNat else none | none => none
def aslice (P : Program) (t : TypeId) (x : AV) (lo hi mx : Option AV) : Option AV :=
  match x with
  | .val (.string s) =>
    match mx, abound 0 lo, abound s.size hi with
    | none, some l, some h => if isStrT P t ∧ l ≤ h ∧ h ≤ s.size then some (.val (.string (s.extract l h))) else none
    | _, _, _ => none
  | .slc full es =>
    match tslice P t, abound 0 lo, abound es.length hi, mx with
    | some (ks, _, _), some l, some h, none => if l ≤ h ∧ h ≤ es.length ∧ headOk ks es then some (.slc (full && h == es.length) ((es.drop l).take (h - l))) else none
    | some (ks, _, _), some l, some h, some m => if l ≤ h ∧ h ≤ es.length ∧ asInt m = some (h : Int) ∧ headOk ks es ∧ hi.isSome then some (.slc true ((es.drop l).take (h - l))) else none
    | _, _, _, _ => none
  | .arr id off len g k =>
    match tslice P t, abound 0 lo, abound len hi, mx with
    | some (ks, _, _), some l, some h, none => if l ≤ h ∧ h ≤ len ∧ k = ks then some (.arr id (off + l) (h - l) g k) else none
    | some _, some l, some h, some m => if l = h ∧ h ≤ len ∧ asInt m = some (h : Int) ∧ hi.isSome then some (.slc true []) else none
    | _, _, _, _ => none
  | _ => none
def asliceArr (P : Program) (t : TypeId) (h : AHeap) (id off : Nat) (lo hi mx : Option AV) : Option AV :=
  match tarr P t, hget h id, abound 0 lo, mx with
  | some (n, e), .vars cs, some l, none => match abound n hi with
    | some hh => if l ≤ hh ∧ hh ≤ n ∧ 0 < n ∧ tsize P e = 1 ∧ off + n ≤ cs.length then some (.arr id (off + l) (hh - l) 0 1) else none
    | none => none
  | _, _, _, _ => none
def asliceAt (P : Program) (t : TypeId) (h : AHeap) (x : AV) (lo hi mx : Option AV) : Option AV :=
  match x with
  | .ptr id off => asliceArr P t h id off lo hi mx
  | x => aslice P t x lo hi mx
def afieldAddr (P : Program) (s : TypeId) (x : AV) (f : Nat) : Option AV :=
  match tfield P s f with
  | some (fo, _, _) =>
    match x with
    | .ptr id off => some (.ptr id (off + fo))
    | .eptr id g k idx off => some (.eptr id g k idx (off + fo))
    | .sptr cs off => some (.sptr cs (off + fo))
    | _ => none
  | none => none
def afield (P : Program) (s : TypeId) (x : AV) (f : Nat) : Option AV :=
  match tfield P s f, x with
  | some (fo, k, g), .agg cs => cut (some g) k cs fo
  | _, _ => none
def afill (place : Nat → Option (Nat × Nat)) (cs : List AV) : List (Nat × AV) → Option (List AV)
  | [] => some cs
  | (i, v) :: r => match place i with
    | some (off, size) => if v.cells.length = size ∧ okVal v = true ∧ off + size ≤ cs.length then afill place (putAt cs off v.cells) r else none
    | none => none
def abuild (P : Program) (t : TypeId) (parts : List (Nat × AV)) : Option AV :=
  match tzero P t, tplaces P t, tarr P t with
  | some z, some pl, _ => (afill (fun i => pl[i]?) z.cells parts).map .agg
  | some z, none, some (_, e) => if 0 < tsize P e then (afill (fun i => some (i * tsize P e, tsize P e)) z.cells parts).map .agg else none
  | _, _, _ => none
def afillS (k : Nat) (es : List AV) : List (Nat × AV) → Option (List AV)
  | [] => some es
  | (i, v) :: r => if v.cells.length = k ∧ okVal v = true ∧ i < es.length then afillS k (es.set i v) r else none
def abuildSlice (P : Program) (t : TypeId) (len : Nat) (parts : List (Nat × AV)) : Option AV :=
  match tslice P t with
  | some (k, _, z) => if len * k ≤ 2 ^ 24 then (afillS k (List.replicate len z) parts).map (.slc true) else none
  | none => none
def ownT (P : Program) (t : TypeId) : Bool := match telem P t with | some e => (match P.underlying e with | some (.array ..) => true | some (.int .i64) => true | _ => false) | none => false
def abuildOwn (P : Program) (t : TypeId) (h : AHeap) (len : Nat) (parts : List (Nat × AV)) : Option (AV × AHeap) :=
  if len = 0 then (abuildSlice P t len parts).map (·, h) else
  match tslice P t with
  | some (k, _, z) => if len * k ≤ 2 ^ 24 ∧ 0 < len then (afillS k (List.replicate len z) parts).map fun es => (.arr h.length 0 len 0 k, h ++ [.arr k es 0]) else none
  | none => none
def amake (P : Program) (t : TypeId) (h : AHeap) (len cap : AV) : Option (AV × AHeap) :=
  match tslice P t, asInt len, asInt cap with
  | some (k, bytes, z), some l, some c =>
    if 0 ≤ l ∧ l ≤ c ∧ (c.toNat * bytes ≤ 2 ^ 47) then
      some (.arr h.length 0 l.toNat 0 k, h ++ [.arr k (List.replicate l.toNat z) 0])
    else none
  | _, _, _ => none
def aelems (h : AHeap) : AV → Option (List AV)
  | .val (.string s) => some (s.data.toList.map byteVal)
  | x => sview h x
def aappend (P : Program) (t : TypeId) (h : AHeap) (s x : AV) : Option (AV × AHeap) :=
  match tslice P t with
  | none => none
  | some (ks, bytes, _) => match aelems h x with
    | none => none
    | some xs =>
      if headOk ks xs = false then none else
      match s with
      | .slc true es =>
        if headOk ks es = false then none
        else if xs = [] then some (.slc true es, h)
        else if (es.length + xs.length) * bytes ≤ 2 ^ 47 then
          some (.arr h.length 0 (es.length + xs.length) 0 ks, h ++ [.arr ks (es ++ xs) 0])
        else none
      | .arr id off len g k => match hget h id with
        | .arr k' es g' =>
          if k = k' ∧ g = g' ∧ off + len ≤ es.length ∧ k = ks ∧ (len + xs.length) * bytes ≤ 2 ^ 47 then
            some (.arr id 0 (len + xs.length) (g + 1) k, h.set id (.arr k ((es.drop off).take len ++ xs) (g + 1)))
          else none
        | _ => none
      | _ => none
def acopy (P : Program) (t : TypeId) (h : AHeap) (d x : AV) : Option (AV × AHeap) :=
  match tslice P t with
  | none => none
  | some (ks, _, _) => match aelems h x with
    | none => none
    | some xs =>
      match d with
      | .arr id off len g k => match hget h id with
        | .arr k' es g' =>
          if k = k' ∧ g = g' ∧ off + len ≤ es.length ∧ k = ks ∧ headOk k xs then
            some (.int (min xs.length len : Nat), h.set id (.arr k (es.take off ++ xs.take len ++ es.drop (off + min xs.length len)) g))
          else none
        | _ => none
      | _ => none
def alen (P : Program) (t : TypeId) (x : AV) : Option AV :=
  match x with
  | .val (.string s) => if isStrT P t then some (.int s.size) else none
  | x => match tarr P t, tslice P t with
    | some (n, _), _ => some (.int n)
    | none, some _ => (slen x).map fun n => .int n
    | none, none => none
def amin2 : AV → AV → Option AV
  | .val (.int k x), .val (.int _ y) => some (.val (.int k (if y < x then y else x)))
  | _, _ => none
def amax2 : AV → AV → Option AV
  | .val (.int k x), .val (.int _ y) => some (.val (.int k (if x < y then y else x)))
  | _, _ => none
def afold (f : AV → AV → Option AV) : AV → List AV → Option AV
  | x, [] => some x
  | x, y :: r => match f x y with | some z => afold f z r | none => none
def argT (ts : Array TypeId) (i : Nat) : TypeId := ts.getD i 0
def isSeqT (P : Program) (t : TypeId) : Bool := match P.underlying t with | some (.slice _) | some .string => true | _ => false
def amlen (h : AHeap) : AObj → Option (AV × AHeap)
  | .map es _ => some (.int es.length, h)
  | _ => none
def abuiltin (P : Program) (b : Builtin) (ts : Array TypeId) (h : AHeap) (args : List AV) : Option (AV × AHeap) :=
  match b, args with
  | .len, [.mp id] => if 0 < ts.size ∧ isMapT P (argT ts 0) = true then amlen h (hget h id) else none
  | .len, [.val (.map none)] => if 0 < ts.size ∧ isMapT P (argT ts 0) = true then some (.int 0, h) else none
  | .len, [x] => if 0 < ts.size then (alen P (argT ts 0) x).map (·, h) else none
  | .delete, [x, k] => if 0 < ts.size then (amapDel P (argT ts 0) h x k).map (.tup [], ·) else none
  | .append, [s, x] => if ts.size = 2 ∧ isSeqT P (argT ts 1) = true then aappend P (argT ts 0) h s x else none
  | .copy, [d, x] => if 0 < ts.size then acopy P (argT ts 0) h d x else none
  | .min, x :: r => (afold amin2 x r).map (·, h)
  | .max, x :: r => (afold amax2 x r).map (·, h)
  | _, _ => none
def callable (P : Program) (f : FuncId) : Bool := match P.funcs[f]? with | some fn => fn.body.isSome && fn.name != "runtime.NumGoroutine" | none => false
def acall1 (P : Program) (h : AHeap) (f : AV) (args : List AV) : Option ANext :=
  match f with
  | .clo f first caps => if callable P f then some (.call f (first ++ args ++ caps) h) else none
  | _ => none
def apick : AV → AV → AV → Option AV
  | .val (.bool c), a, b => some (if c then a else b)
  | _, _, _ => none
def anil : AV → Option AV
  | .ptr id off => some (.ptr id off)
  | .eptr id g k idx off => some (.eptr id g k idx off)
  | .sptr cs off => some (.sptr cs off)
  | .clo f first caps => some (.clo f first caps)
  | _ => none
def ato (x : Option AV) (h : AHeap) : Option ANext := x.map (.value · h)
def ato2 (x : Option (AV × AHeap)) : Option ANext := x.map fun p => .value p.1 p.2

def aop (P : Program) (env : Env) (h : AHeap) (o : Oper) : Option ANext :=
  match o.op with
  | .move x | .assign x => some (.value (oval env x) h)
  | .pick c a b => ato (apick (oval env c) (oval env a) (oval env b)) h
  | .alloc t => match tzero P t with | some z => some (.value (.ptr h.length 0) (h ++ [.vars z.cells])) | none => none
  | .box _ x => if okVal (oval env x) then some (.value (.ptr h.length 0) (h ++ [.vars (oval env x).cells])) else none
  | .build t parts => ato (abuild P t (parts.toList.map fun p => (p.1, oval env p.2))) h
  | .buildSlice t len parts => if ownT P t then ato2 (abuildOwn P t h len (parts.toList.map fun p => (p.1, oval env p.2))) else ato (abuildSlice P t len (parts.toList.map fun p => (p.1, oval env p.2))) h
  | .load t a => ato (aload P t h (oval env a)) h
  | .store t a x => (astore P t h (oval env a) (oval env x)).map (.value .und ·)
  | .nilCheck x => ato (anil (oval env x)) h
  | .binOp op t x y _ => ato (if isNilS y then anilS P op t (oval env x) else abin P op t (oval env x) (oval env y)) h
  | .unOp op _ x => ato (aun op (oval env x)) h
  | .convert s d x => ato2 (aconvert P s d h (oval env x))
  | .makeFunc (.func f) first caps => some (.value (.clo f (first.toList.map (oval env)) (caps.toList.map (oval env))) h)
  | .makeSlice t l c => ato2 (amake P t h (oval env l) (oval env c))
  | .slice t x lo hi mx => ato (asliceAt P t h (oval env x) (lo.map (oval env)) (hi.map (oval env)) (mx.map (oval env))) h
  | .fieldAddr s x f => ato (afieldAddr P s (oval env x) f) h
  | .field s x f => ato (afield P s (oval env x) f) h
  | .indexAddr t x i => ato (aindexAddr P t (oval env x) (oval env i)) h
  | .index t x i => ato (aindex P t (oval env x) (oval env i)) h
  | .extract t i => match oval env t with | .tup vs => ato vs[i]? h | _ => none
  | .makeMap t none => if isMapT P t then some (.value (.mp h.length) (h ++ [.map [] 0])) else none
  | .lookup t x k ok => ato (alookup P t h (oval env x) (oval env k) ok) h
  | .mapUpdate t x k v | .insert t x k v => (amapPut P t h (oval env x) (oval env k) (oval env v)).map (.value .und ·)
  | .mapEntry t x k => ato2 (amapEntry P t h (oval env x) (oval env k))
  | .entryStore _ x s v => (aentryStore h (oval env x) (oval env s) (oval env v)).map (.value .und ·)
  | .range t x => ato2 (arange P t h (oval env x))
  | .next x false => ato2 (anext h (oval env x))
  | .entry x => ato (aentry h (oval env x)) h
  | .call c => match c.callee with
    | .value f => acall1 P h (oval env f) (c.args.toList.map (oval env))
    | .builtin b => ato2 (abuiltin P b c.argTypes h (c.args.toList.map (oval env)))
    | .invoke .. => none
  | _ => none

/-! ### Calls -/
mutual
def solid : AV → Bool
  | .val _ => true
  | .agg cs => solidL cs
  | .tup cs => solidL cs
  | .slc f es => !f && solidL es
  | _ => false
def solidL : List AV → Bool
  | [] => true
  | x :: r => solid x && solidL r
end
def flat1 : AV → Bool
  | .val _ => true
  | _ => false
def flat : AV → Bool
  | .val _ => true
  | .agg cs => cs.all flat1
  | .tup cs => cs.all flat1
  | _ => false
def expL (f : AV → Option (AV × List Nat)) : List AV → Option (List AV × List Nat)
  | [] => some ([], [])
  | x :: r => match f x, expL f r with
    | some (y, i), some (l, j) => some (y :: l, i ++ j)
    | _, _ => none
def exp1 (h : AHeap) : (d : Nat) → AV → Option (AV × List Nat)
  | 0, v => if solid v then some (v, []) else none
  | d + 1, v => if solid v then some (v, []) else
    match v with
    | .agg cs => (expL (exp1 h d) cs).map fun p => (.agg p.1, p.2)
    | .tup cs => (expL (exp1 h d) cs).map fun p => (.tup p.1, p.2)
    | .slc _ es => (expL (exp1 h d) es).map fun p => (.slc false p.1, p.2)
    | .arr id off len g k => match sview h (.arr id off len g k) with
      | some es => (expL (exp1 h d) es).map fun p => (.slc false p.1, id :: p.2)
      | none => none
    | .clo f [] [] => some (.clo f [] [], [])
    | _ => none
abbrev expDepth : Nat := 60
def frz1 (h : AHeap) (id : Nat) : AHeap :=
  match hget h id with
  | .arr k es g => h.set id (.frz k es g)
  | _ => h
def frzAll (h : AHeap) : List Nat → AHeap
  | [] => h
  | id :: r => frzAll (frz1 h id) r
def canFrz (h : AHeap) (ids : List Nat) : Bool := ids.all fun id => match hget h id with | .arr .. | .frz .. => true | _ => false

mutual
def below (n : Nat) : AV → Bool
  | .val _ => true
  | .agg cs => belowL n cs
  | .tup cs => belowL n cs
  | .slc _ es => belowL n es
  | .sptr cs _ => belowL n cs
  | .ptr id _ => id < n
  | .eptr id .. => id < n
  | .arr id .. => id < n
  | .clo _ a b => belowL n a && belowL n b
  | .mp id => id < n
  | .emp => true
  | .unk => true
def belowL (n : Nat) : List AV → Bool
  | [] => true
  | x :: r => below n x && belowL n r
end
def belowO (n : Nat) : AObj → Bool
  | .dead => true
  | .vars cs => belowL n cs
  | .arr _ es _ => belowL n es
  | .frz _ es _ => belowL n es
  | .map es _ => es.all fun e => below n e.1 && below n e.2.1
  | .iter m _ _ _ => match m with | some i => decide (i < n) | none => true
def GcOk (n : Nat) (h h' : AHeap) : Prop := ∀ i, i < n → h'[i]? = h[i]? ∨ belowO n (hget h' i) = true

abbrev CallF := FuncId → List AV → AHeap → Option (AV × AHeap)
def pureRes (r : Option (AV × AHeap)) : Option AV :=
  match r with
  | some (v, h) => match exp1 h expDepth v with
    | some (v', ids) => if canFrz h ids then some v' else none
    | none => none
  | none => none
def splitNil (md : FuncId → Nat) (f : FuncId) (args : List AV) : Option (List AV × List AV) :=
  if md f = 5 then
    match args with
    | .slc _ [] :: r => some (.val (.slice none 0 0) :: r, .emp :: r)
    | _ => none
  else none
def rated (m : Nat) (x : Option (AV × AHeap)) : Option (AV × AHeap) :=
  if m = 3 then
    match x with
    | some (r, h') => match exp1 h' expDepth r with
      | some (r', ids) => if canFrz h' ids then some (r', frzAll h' ids) else none
      | none => none
    | none => none
  else x
open Classical in
noncomputable def doCall0 (md : FuncId → Nat) (call : CallF) (f : FuncId) (args : List AV) (h : AHeap) : Option (AV × AHeap) :=
  if md f = 0 ∨ 100 ≤ md f then
    match expL (exp1 h expDepth) args with
    | some (as, ids) =>
      if canFrz h ids then
        match pureRes (call f as []) with
        | some r => some (r, if flat r then h else frzAll h ids)
        | none => none
      else none
    | none => none
  else
    match rated (md f) (call f args h) with
    | some (r, h') => if below h.length r = true ∧ GcOk h.length h h' then some (r, h'.take h.length) else some (r, h')
    | none => none
open Classical in
noncomputable def bothK (x y : Option (AV × AHeap)) : Option (AV × AHeap) :=
  match x with
  | some a => match y with
    | some b => if a = b then some a else none
    | none => none
  | none => none
noncomputable def doCall (md : FuncId → Nat) (call : CallF) (f : FuncId) (args : List AV) (h : AHeap) : Option (AV × AHeap) :=
  match splitNil md f args with
  | some (as, bs) => bothK (call f as h) (call f bs h)
  | none => doCall0 md call f args h

/-! ### Regions -/
def aput (env : Env) (dst : Option Tmp) (v : AV) : Env :=
  match dst with
  | some d => env.set d v
  | none => env
def aguard (ops : Array Oper) (env : Env) (o : Oper) : Option Bool :=
  match o.guard with
  | none => some true
  | some (j, want) => match (ops[j]?).bind (·.dst) with
    | none => some false
    | some d => match env.getD d .und with
      | .unk => none
      | .val (.bool b) => some (b == want)
      | _ => some false
noncomputable def astep (P : Program) (md : FuncId → Nat) (call : CallF) (env : Env) (h : AHeap) (o : Oper) : Option (AV × AHeap) :=
  match aop P env h o with
  | some (.value v h') => some (v, h')
  | some (.call f args h') => doCall md call f args h'
  | none => none
noncomputable def runOps (P : Program) (md : FuncId → Nat) (call : CallF) (ops : Array Oper) : List Oper → Env → AHeap → Option (Env × AHeap)
  | [], env, h => some (env, h)
  | o :: r, env, h =>
    match aguard ops env o with
    | some true => match astep P md call env h o with
      | some (v, h') => runOps P md call ops r (aput env o.dst v) h'
      | none => none
    | some false => runOps P md call ops r (aput env o.dst .und) h
    | none => none
def effOp (P : Program) (md : FuncId → Nat) (o : Oper) : Bool :=
  match o.op with
  | .alloc _ | .box .. | .store .. | .makeSlice .. | .makeMap .. | .mapUpdate .. | .insert .. | .mapEntry .. | .entryStore .. | .range .. | .next .. => true
  | .buildSlice t .. => ownT P t
  | .convert s d _ => (match P.underlying s, P.underlying d with | some .string, some (.slice _) => true | _, _ => false)
  | .call c => match c.callee with
    | .value (.func f) => md f == 1 || md f == 3 || (decide (100 ≤ md f) && o.dst == some (md f - 100))
    | .value _ => true
    | .builtin .append | .builtin .copy | .builtin .delete => true
    | _ => false
  | _ => false
def readOp (P : Program) (o : Oper) : Bool :=
  match o.op with
  | .load .. | .lookup .. | .entry .. => true
  | .slice t .. => (tarr P t).isSome
  | .convert s d _ => (match P.underlying s, P.underlying d with | some (.slice _), some .string => true | _, _ => false)
  | .call c => match c.callee with
    | .value _ => true
    | .builtin .append | .builtin .copy => true
    | .builtin .len => isMapT P (argT c.argTypes 0)
    | _ => false
  | _ => false
open Classical in
noncomputable def runDraw (P : Program) (md : FuncId → Nat) (call : CallF) (ops : Array Oper) : List Oper → Env → AHeap → Option (Env × AHeap)
  | [], env, h => some (env, h)
  | o :: r, env, h =>
    match aguard ops env o with
    | some true => match astep P md call env h o with
      | some (v, h') => if effOp P md o = true ∨ h' = h then runDraw P md call ops r (aput env o.dst v) h' else none
      | none => none
    | some false => runDraw P md call ops r (aput env o.dst .und) h
    | none => none
def isLoad (o : Oper) : Bool := match o.op with | .load .. | .lookup .. | .entry .. => true | _ => false
def isFreeAlloc (o : Oper) : Bool := match o.op with | .alloc _ => o.after.isEmpty && o.guard.isNone | _ => false
def killAt (n0 : Nat) (h : AHeap) : List Nat → AHeap
  | [] => h
  | k :: r => killAt n0 (h.set (n0 + k) .dead) r
def subs : List Nat → List (List Nat)
  | [] => [[]]
  | k :: r => subs r ++ (subs r).map (k :: ·)
abbrev Pend := List (Env × Oper × AV × List Nat)
def okG (P : Program) (md : FuncId → Nat) (call : CallF) (n0 : Nat) (U : List Nat) (o : Oper) (env : Env) (h : AHeap) (v : AV) (h' : AHeap) (hs : List AHeap) (pd : Pend) : Prop :=
  (effOp P md o = true ∨ h' = h) ∧
  ((effOp P md o || readOp P o) = true → ∀ T ∈ subs U, astep P md call env (killAt n0 h T) o = some (v, killAt n0 h' T)) ∧
  (effOp P md o = true → ∀ p ∈ pd, ∀ T ∈ subs p.2.2.2, aop P p.1 (killAt n0 h' T) p.2.1 = some (.value p.2.2.1 (killAt n0 h' T))) ∧
  (isLoad o = true → ∀ g ∈ hs, ∀ T ∈ subs U, aop P env (killAt n0 g T) o = some (.value v (killAt n0 g T))) ∧
  (effOp P md o = true → ∀ k ∈ U, hget h' (n0 + k) = hget h (n0 + k))
def runA (P : Program) (ops : Array Oper) : List Nat → Env → AHeap → Option (Env × AHeap)
  | [], e, h => some (e, h)
  | i :: r, e, h => match ops[i]? with
    | some o => match aop P e h o with
      | some (.value v h') => runA P ops r (aput e o.dst v) h'
      | _ => none
    | none => none
def isStore (o : Oper) : Bool := match o.op with | .store .. => true | _ => false
def pdB {α : Type} (l : List Nat) (b : Bool) (pd : List α) : List α := match l, b with | _ :: _, true => [] | _, _ => pd
open Classical in
noncomputable def runG (P : Program) (md : FuncId → Nat) (call : CallF) (ops : Array Oper) (n0 : Nat) (U : Nat → List Nat) : List Nat → Env → AHeap → List AHeap → Pend → Option (Env × AHeap)
  | [], env, h, _, _ => some (env, h)
  | i :: r, env, h, hs, pd => match ops[i]? with
    | none => none
    | some o =>
      match aguard ops env o with
      | some true => match astep P md call env h o with
        | some (v, h') => if okG P md call n0 (U i) o env h v h' hs (pdB (U 999) (isStore o) pd) then runG P md call ops n0 U r (aput env o.dst v) h' (if effOp P md o then h' :: hs else hs) (if isLoad o then (env, o, v, U i) :: pdB (U 999) (isStore o) pd else pdB (U 999) (isStore o) pd) else none
        | none => none
      | some false => runG P md call ops n0 U r (aput env o.dst .und) h hs (pdB (U 999) (isStore o) pd)
      | none => none
noncomputable def runGA (P : Program) (md : FuncId → Nat) (call : CallF) (ops : Array Oper) (sq : List Nat) (m : Nat) (U : Nat → List Nat) (e : Env) (h : AHeap) : Option (Env × AHeap) :=
  match runA P ops (sq.take m) e h with
  | some (e1, h1) => runG P md call ops h.length U (sq.drop m) e1 h1 [h1] []
  | none => none

/-! ### Code -/
inductive Ex where
  | norm
  | exit (id : Nat)
  | ret
  deriving DecidableEq
abbrev RunR := Option (Ex × Env × AHeap)
def seqK (r : RunR) (k : Env → AHeap → RunR) : RunR :=
  match r with
  | some (.norm, e, h) => k e h
  | r => r
def blockK (id : Nat) (r : RunR) : RunR :=
  match r with
  | some (.exit i, e, h) => if i = id then some (.norm, e, h) else some (.exit i, e, h)
  | r => r
def normK (r : Option (Env × AHeap)) : RunR := r.map fun p => (.norm, p.1, p.2)
def iter (f : Env → AHeap → RunR) : Nat → Env → AHeap → RunR
  | 0, _, _ => none
  | n + 1, e, h => seqK (f e h) (iter f n)
def condK (c : AV) (a b : RunR) : RunR :=
  match c with
  | .val (.bool t) => if t then a else b
  | _ => none
def mask : List Bool → Env → Env
  | true :: m, x :: e => x :: mask m e
  | false :: m, _ :: e => .unk :: mask m e
  | _, e => e
def maskR (m : List Bool) (r : RunR) : RunR := r.map fun p => (p.1, mask m p.2.1, p.2.2)
def looseAt (M : Nat → List Bool) (id : Nat) : Bool := !(M (100000 + id)).isEmpty
def decodeU : List Bool → Nat → List Nat
  | [], _ => []
  | true :: r, n => decodeU r (n + 1)
  | false :: r, n => n :: decodeU r 0
def seqAt (M : Nat → List Bool) (id : Nat) : List Nat := decodeU (M (200000 + id)) 0
def allocsAt (M : Nat → List Bool) (id : Nat) : Nat := (M (300000 + id)).length
def unordAt (M : Nat → List Bool) (id i : Nat) : List Nat := decodeU (M (1000000 + 1000 * id + i)) 0
noncomputable def run (P : Program) (md : FuncId → Nat) (M : Nat → List Bool) (call : CallF) (n : Nat) : Code → List Bool → Env → AHeap → RunR
  | .skip, _, e, h => some (.norm, e, h)
  | .region id ops d, _, e, h => maskR (M 0) (normK (if d then (if looseAt M id then runGA P md call ops (seqAt M id) (allocsAt M id) (unordAt M id) e h else runDraw P md call ops ops.toList e h) else runOps P md call ops ops.toList e h))
  | .seq a b, m, e, h => seqK (run P md M call n a m e h) fun e h => run P md M call n b m e h
  | .cond c a b, m, e, h => condK (oval e c) (run P md M call n a m e h) (run P md M call n b m e h)
  | .block id c, _, e, h => blockK id (run P md M call n c (M (id + 1)) e h)
  | .loop c, m, e, h => maskR m (iter (fun e h => run P md M call n c m (mask m e) h) n e h)
  | .exit id, _, e, h => some (.exit id, e, h)
  | .ret, _, e, h => some (.ret, e, h)
  | _, _, _, _ => none

/-! ### Functions -/
def aresults (P : Program) (rs : List ResultVar) (env : Env) (h : AHeap) : Option (List AV) :=
  match rs with
  | [] => some []
  | .tmp t :: r => (aresults P r env h).map (env.getD t .und :: ·)
  | .cell a t :: r => match aload P t h (env.getD a .und), aresults P r env h with
    | some v, some l => some (v :: l)
    | _, _ => none
def tupOf : List AV → AV
  | [v] => v
  | l => .tup l
def ordered (b : Array Nat) (i j : Nat) : Bool := (b.getD (max i j) 0).testBit (min i j)
def tmpsOf (ops : Array Oper) (o : Oper) : List Tmp := o.looksAt ops ++ o.dst.toList
def drawOk1 (P : Program) (md : FuncId → Nat) (ops : Array Oper) (L : Bool) : Bool :=
  let b := Region.before ops
  let l := ops.toList.zipIdx
  !Region.departs ops &&
  (l.all fun (o, i) => o.after.all fun e => e.on < i) &&
  (l.all fun (o, i) => (tmpsOf ops o).all fun t => l.all fun (o', j) => i == j || o'.dst != some t || ordered b i j) &&
  (l.all fun (o, i) => !effOp P md o || l.all fun (o', j) => i == j || !(effOp P md o' || readOp P o' && !(L && isLoad o')) || ordered b i j)
def afterBits (acc : List Nat) (es : List Edge) (s : Nat) : Nat := es.foldl (fun s e => if Region.binds .any e then s ||| 2 ^ e.on ||| acc.getD e.on 0 else s) s
def beforeS (ops : Array Oper) : List Nat → List Nat → List Nat
  | [], acc => acc
  | i :: r, acc => beforeS ops r (match ops[i]? with | some o => acc.set i (afterBits acc o.after.toList 0) | none => acc)
def befS (ops : Array Oper) (sq : List Nat) : List Nat := beforeS ops sq (List.replicate ops.size 0)
def ordT (b : List Nat) (i p j q : Nat) : Bool := ((b.getD j 0).testBit i && decide (p < q)) || ((b.getD i 0).testBit j && decide (q < p))
def drawOkG (P : Program) (md : FuncId → Nat) (ops : Array Oper) (sq : List Nat) (m : Nat) (U : Nat → List Nat) : Bool :=
  let b := befS ops sq
  let l := sq.zipIdx
  sq.length == ops.size && decide (m ≤ sq.length) && (List.range ops.size).all (fun i => sq.contains i) &&
  (l.all fun (i, p) => decide (i < ops.size) && l.all fun (j, q) => i != j || p == q) &&
  ((U 999).isEmpty || l.all fun (i, p) => match ops[i]? with
    | none => true
    | some o => !isStore o || decide (p < m) || (List.range ops.size).all fun j => match ops[j]? with
      | none => true
      | some o' => !isLoad o' || o.after.toList.any fun e => e.on == j && Region.binds .any e) &&
  l.all fun (i, p) => match ops[i]? with
    | none => false
    | some o =>
      (o.after.all fun e => !Region.binds .any e || l.any fun (j, q) => j == e.on && decide (q < p)) &&
      (decide (m ≤ p) || isFreeAlloc o) &&
      ((tmpsOf ops o).all fun t => l.all fun (j, q) => p == q || (ops[j]?).bind (·.dst) != some t || ordT b i p j q) &&
      (decide (p < m) || !effOp P md o || l.all fun (j, q) => p == q || decide (q < m) || ordT b i p j q || match ops[j]? with
        | some o' => !(effOp P md o' || readOp P o' && !isLoad o')
        | none => true) &&
      (decide (p < m) || !(effOp P md o || readOp P o) || (List.range m).all fun k => (U i).contains k || match sq[k]? with
        | some a => (b.getD i 0).testBit a
        | none => true)
def drawsOk (P : Program) (md : FuncId → Nat) (M : Nat → List Bool) : Code → Bool
  | .region id ops d => !d || (if looseAt M id then drawOkG P md ops (seqAt M id) (allocsAt M id) (unordAt M id) else drawOk1 P md ops false)
  | .seq a b => drawsOk P md M a && drawsOk P md M b
  | .cond _ a b => drawsOk P md M a && drawsOk P md M b
  | .block _ c => drawsOk P md M c
  | .loop c => drawsOk P md M c
  | _ => true
def fnOk (P : Program) (md : FuncId → Nat) (fg : FuncId → Nat → List Bool) (f : FuncId) : Bool :=
  match P.funcs[f]? with
  | some fn => match fn.body with
    | some c => drawsOk P md (fg f) c
    | none => false
  | none => false
def env0 (n : Nat) (args : List AV) : Env := args ++ List.replicate (n - args.length) .unk
def finish (P : Program) (rs : List ResultVar) (r : RunR) : Option (AV × AHeap) :=
  match r with
  | some (.norm, e, h) => (aresults P rs e h).map fun l => (tupOf l, h)
  | some (.ret, e, h) => (aresults P rs e h).map fun l => (tupOf l, h)
  | _ => none
noncomputable def acall (P : Program) (md : FuncId → Nat) (fg : FuncId → Nat → List Bool) : Nat → CallF
  | 0, _, _, _ => none
  | n + 1, f, args, h =>
    if fnOk P md fg f then
      match P.funcs[f]? with
      | some fn => match fn.body with
        | some c => finish P fn.results.toList (run P md (fg f) (acall P md fg n) n c [] (env0 fn.ntmps args) h)
        | none => none
      | none => none
    else none

/-! ### Without a bound -/
open Classical in
noncomputable def lim {α : Type} (s : Nat → Option α) : Option α :=
  if h : ∃ r n, ∀ m, n ≤ m → s m = some r then some h.choose else none
noncomputable def aval (P : Program) (md : FuncId → Nat) (fg : FuncId → Nat → List Bool) (f : FuncId) (args : List AV) (h : AHeap) : Option (AV × AHeap) := lim fun n => acall P md fg n f args h
noncomputable def arun (P : Program) (md : FuncId → Nat) (fg : FuncId → Nat → List Bool) (M : Nat → List Bool) (c : Code) (m : List Bool) (e : Env) (h : AHeap) : RunR := lim fun n => run P md M (acall P md fg n) n c m e h
noncomputable def pcall (P : Program) (md : FuncId → Nat) (fg : FuncId → Nat → List Bool) (f : FuncId) (args : List AV) : Option AV := pureRes (aval P md fg f args [])
end Go.Ab
namespace Go.Ab
set_option linter.unusedSimpArgs false
set_option linter.unusedVariables false

def LeO {α : Type} (a b : Option α) : Prop := ∀ r, a = some r → b = some r
theorem LeO.refl {α : Type} (a : Option α) : LeO a a := fun _ h => h
theorem LeO.none {α : Type} (b : Option α) : LeO Option.none b := fun _ h => by cases h
theorem LeO.trans {α : Type} {a b c : Option α} (h : LeO a b) (k : LeO b c) : LeO a c := fun r e => k r (h r e)

section lim
variable {α : Type}
def Mono (s : Nat → Option α) : Prop := ∀ n, LeO (s n) (s (n + 1))
theorem Mono.le {s : Nat → Option α} (h : Mono s) {n m : Nat} (hm : n ≤ m) : LeO (s n) (s m) := by
  induction hm with
  | refl => exact LeO.refl _
  | step _ ih => exact ih.trans (h _)
theorem lim_of {s : Nat → Option α} {r : α} {n : Nat} (h : ∀ m, n ≤ m → s m = some r) : lim s = some r := by
  have hex : ∃ r n, ∀ m, n ≤ m → s m = some r := ⟨r, n, h⟩
  unfold lim
  rw [dif_pos hex]
  obtain ⟨n', hn'⟩ := hex.choose_spec
  have h1 := hn' (max n n') (Nat.le_max_right _ _)
  have h2 := h (max n n') (Nat.le_max_left _ _)
  rw [h1] at h2
  exact h2
theorem Mono.lim_of {s : Nat → Option α} (hs : Mono s) {r : α} {n : Nat} (h : s n = some r) : lim s = some r :=
  Ab.lim_of (n := n) fun _ hm => hs.le hm _ h
theorem of_lim {s : Nat → Option α} {r : α} (h : lim s = some r) : ∃ n, ∀ m, n ≤ m → s m = some r := by
  unfold lim at h
  split at h
  · rename_i hex
    have := hex.choose_spec
    simp only [Option.some.injEq] at h
    rw [h] at this
    exact this
  · cases h
theorem lim_const (x : Option α) : lim (fun _ => x) = x := by
  cases x with
  | none =>
    cases h : lim (fun _ => (Option.none : Option α)) with
    | none => rfl
    | some r => obtain ⟨n, hn⟩ := of_lim h; have := hn n (Nat.le_refl n); cases this
  | some r => exact lim_of (n := 0) fun _ _ => rfl
theorem lim_ext {s t : Nat → Option α} (h : ∀ r, (∃ n, ∀ m, n ≤ m → s m = some r) ↔ (∃ n, ∀ m, n ≤ m → t m = some r)) : lim s = lim t := by
  cases hs : lim s with
  | none =>
    cases ht : lim t with
    | none => rfl
    | some r => have := lim_of ((h r).2 (of_lim ht)).choose_spec; rw [hs] at this; cases this
  | some r => exact (lim_of ((h r).1 (of_lim hs)).choose_spec).symm
end lim

/-! ### More rounds give the same answer -/
def LeC (c c' : CallF) : Prop := ∀ f as h, LeO (c f as h) (c' f as h)
section mono
variable {P : Program} {md : FuncId → Nat} {fg : FuncId → Nat → List Bool} {M : Nat → List Bool} {c c' : CallF}
theorem pureRes_mono {a b : Option (AV × AHeap)} (h : LeO a b) : LeO (pureRes a) (pureRes b) := by
  intro r hr
  cases a with
  | none => cases hr
  | some x => rw [h x rfl]; exact hr
theorem rated_mono {m : Nat} {a b : Option (AV × AHeap)} (h : LeO a b) : LeO (rated m a) (rated m b) := by
  unfold rated
  split
  · intro r hr
    cases a with
    | none => cases hr
    | some x => rw [h x rfl]; exact hr
  · exact h
theorem rated_none (m : Nat) : rated m none = none := by unfold rated; split <;> rfl
theorem doCall0_mono (hc : LeC c c') (f : FuncId) (as : List AV) (h : AHeap) : LeO (doCall0 md c f as h) (doCall0 md c' f as h) := by
  intro r hr
  unfold doCall0 at hr ⊢
  split
  · rename_i h0
    rw [if_pos h0] at hr
    split
    · rename_i as' ids he
      simp only [he] at hr
      split
      · rename_i hf
        rw [if_pos hf] at hr
        cases hp : pureRes (c f as' []) with
        | none => rw [hp] at hr; cases hr
        | some v => rw [hp] at hr; rw [pureRes_mono (hc f as' []) v hp]; exact hr
      · rename_i hf; rw [if_neg hf] at hr; cases hr
    · rename_i he; simp only [he] at hr; cases hr
  · rename_i h0
    rw [if_neg h0] at hr
    cases hp : rated (md f) (c f as h) with
    | none => rw [hp] at hr; cases hr
    | some v => rw [hp] at hr; rw [rated_mono (hc f as h) v hp]; exact hr
theorem bothK_mono {x y x' y' : Option (AV × AHeap)} (h1 : LeO x x') (h2 : LeO y y') : LeO (bothK x y) (bothK x' y') := by
  intro r hr
  cases x with
  | none => cases hr
  | some a =>
    cases y with
    | none => cases hr
    | some b => rw [h1 a rfl, h2 b rfl]; exact hr
theorem doCall_mono (hc : LeC c c') (f : FuncId) (as : List AV) (h : AHeap) : LeO (doCall md c f as h) (doCall md c' f as h) := by
  unfold doCall
  split
  · exact bothK_mono (hc f _ h) (hc f _ h)
  · exact doCall0_mono hc f as h
theorem astep_mono (hc : LeC c c') (env : Env) (h : AHeap) (o : Oper) : LeO (astep P md c env h o) (astep P md c' env h o) := by
  intro r hr
  unfold astep at hr ⊢
  split
  · rename_i he; simp only [he] at hr; exact hr
  · rename_i he; simp only [he] at hr; exact doCall_mono hc _ _ _ r hr
  · rename_i he; simp only [he] at hr; exact hr
theorem runOps_mono (hc : LeC c c') (ops : Array Oper) : ∀ (l : List Oper) (env : Env) (h : AHeap), LeO (runOps P md c ops l env h) (runOps P md c' ops l env h)
  | [], _, _ => LeO.refl _
  | o :: l, env, h => by
    intro r hr
    simp only [runOps] at hr ⊢
    cases hg : aguard ops env o with
    | none => rw [hg] at hr; cases hr
    | some t =>
      rw [hg] at hr
      cases t with
      | true =>
        dsimp only at hr ⊢
        cases hs : astep P md c env h o with
        | none => rw [hs] at hr; cases hr
        | some x => rw [hs] at hr; rw [astep_mono hc env h o x hs]; exact runOps_mono hc ops l _ _ r hr
      | false => exact runOps_mono hc ops l _ _ r hr
theorem runDraw_mono (hc : LeC c c') (ops : Array Oper) : ∀ (l : List Oper) (env : Env) (h : AHeap), LeO (runDraw P md c ops l env h) (runDraw P md c' ops l env h)
  | [], _, _ => LeO.refl _
  | o :: l, env, h => by
    intro r hr
    simp only [runDraw] at hr ⊢
    cases hg : aguard ops env o with
    | none => rw [hg] at hr; cases hr
    | some t =>
      rw [hg] at hr
      cases t with
      | true =>
        dsimp only at hr ⊢
        cases hs : astep P md c env h o with
        | none => rw [hs] at hr; cases hr
        | some x =>
          rw [hs] at hr; rw [astep_mono hc env h o x hs]
          dsimp only at hr ⊢
          split
          · rename_i hq; rw [if_pos hq] at hr; exact runDraw_mono hc ops l _ _ r hr
          · rename_i hq; rw [if_neg hq] at hr; cases hr
      | false => exact runDraw_mono hc ops l _ _ r hr
theorem okG_mono (hc : LeC c c') {n0 : Nat} {U : List Nat} {o : Oper} {env : Env} {h : AHeap} {v : AV} {h' : AHeap} {hs : List AHeap} {pd : Pend} (k : okG P md c n0 U o env h v h' hs pd) : okG P md c' n0 U o env h v h' hs pd :=
  ⟨k.1, fun e T hT => astep_mono hc _ _ _ _ (k.2.1 e T hT), k.2.2⟩
theorem runG_mono (hc : LeC c c') (ops : Array Oper) (n0 : Nat) (U : Nat → List Nat) : ∀ (l : List Nat) (env : Env) (h : AHeap) (hs : List AHeap) (pd : Pend), LeO (runG P md c ops n0 U l env h hs pd) (runG P md c' ops n0 U l env h hs pd)
  | [], _, _, _, _ => LeO.refl _
  | i :: l, env, h, hs, pd => by
    intro r hr
    simp only [runG] at hr ⊢
    cases ho : ops[i]? with
    | none => rw [ho] at hr; cases hr
    | some o =>
      rw [ho] at hr
      dsimp only at hr ⊢
      cases hg : aguard ops env o with
      | none => rw [hg] at hr; cases hr
      | some t =>
        rw [hg] at hr
        cases t with
        | true =>
          dsimp only at hr ⊢
          cases hs : astep P md c env h o with
          | none => rw [hs] at hr; cases hr
          | some x =>
            rw [hs] at hr; rw [astep_mono hc env h o x hs]
            dsimp only at hr ⊢
            split at hr
            · rename_i hq; rw [if_pos (okG_mono hc hq)]; exact runG_mono hc ops n0 U l _ _ _ _ r hr
            · cases hr
        | false => exact runG_mono hc ops n0 U l _ _ _ _ r hr
theorem runGA_mono (hc : LeC c c') (ops : Array Oper) (sq : List Nat) (m : Nat) (U : Nat → List Nat) (env : Env) (h : AHeap) : LeO (runGA P md c ops sq m U env h) (runGA P md c' ops sq m U env h) := by
  unfold runGA
  split
  · exact runG_mono hc _ _ _ _ _ _ _ _
  · exact LeO.refl _
theorem maskR_mono {a b : RunR} {m : List Bool} (h : LeO a b) : LeO (maskR m a) (maskR m b) := by
  intro r hr
  cases a with
  | none => cases hr
  | some x => rw [h x rfl]; exact hr
theorem seqK_mono {a b : RunR} {k k' : Env → AHeap → RunR} (h : LeO a b) (hk : ∀ e h, LeO (k e h) (k' e h)) : LeO (seqK a k) (seqK b k') := by
  intro r hr
  cases a with
  | none => cases hr
  | some x =>
    rw [h x rfl]
    obtain ⟨e, v, g⟩ := x
    cases e with
    | norm => exact hk _ _ r hr
    | exit _ => exact hr
    | ret => exact hr
theorem blockK_mono {a b : RunR} {id : Nat} (h : LeO a b) : LeO (blockK id a) (blockK id b) := by
  intro r hr
  cases a with
  | none => cases hr
  | some x => rw [h x rfl]; exact hr
theorem normK_mono {a b : Option (Env × AHeap)} (h : LeO a b) : LeO (normK a) (normK b) := by
  intro r hr
  cases a with
  | none => cases hr
  | some x => rw [h x rfl]; exact hr
theorem iter_mono {f f' : Env → AHeap → RunR} (hf : ∀ e h, LeO (f e h) (f' e h)) : ∀ (n m : Nat), n ≤ m → ∀ e h, LeO (iter f n e h) (iter f' m e h)
  | 0, _, _, _, _ => LeO.none _
  | n + 1, m, hm, e, h => by
    obtain ⟨m, rfl⟩ : ∃ k, m = k + 1 := ⟨m - 1, by omega⟩
    exact seqK_mono (hf e h) (iter_mono hf n m (by omega))
theorem run_mono (hc : LeC c c') {n m : Nat} (hm : n ≤ m) : ∀ (code : Code) (k : List Bool) (e : Env) (h : AHeap), LeO (run P md M c n code k e h) (run P md M c' m code k e h) := by
  intro code
  induction code with
  | skip => intro k e h; exact LeO.refl _
  | region id ops d =>
    intro k e h
    simp only [run]
    split
    · split
      · exact maskR_mono (normK_mono (runGA_mono hc ops _ _ _ _ _))
      · exact maskR_mono (normK_mono (runDraw_mono hc ops _ _ _))
    · exact maskR_mono (normK_mono (runOps_mono hc ops _ _ _))
  | seq a b iha ihb => intro k e h; exact seqK_mono (iha k e h) (ihb k)
  | cond x a b iha ihb =>
    intro k e h r hr
    simp only [run] at hr ⊢
    unfold condK at hr ⊢
    split at hr
    · split at hr
      · rename_i ht; simp only [ht, if_true]; exact iha _ _ _ r hr
      · rename_i ht; simp only [ht, if_false]; exact ihb _ _ _ r hr
    · cases hr
  | block id c ih => intro k e h; exact blockK_mono (ih _ e h)
  | loop c ih => intro k e h; exact maskR_mono (iter_mono (fun e h => ih k _ h) n m hm e h)
  | exit id => intro k e h; exact LeO.refl _
  | ret => intro k e h; exact LeO.refl _
  | rangeFunc _ _ _ _ _ _ => intro k e h; exact LeO.none _
  | scope _ _ => intro k e h; exact LeO.none _
  | label _ => intro k e h; exact LeO.none _
  | goto _ => intro k e h; exact LeO.none _
  | refuse _ => intro k e h; exact LeO.none _
theorem finish_mono {rs : List ResultVar} {a b : RunR} (h : LeO a b) : LeO (finish P rs a) (finish P rs b) := by
  intro r hr
  cases a with
  | none => cases hr
  | some x => rw [h x rfl]; exact hr
theorem acall_succ : ∀ n, LeC (acall P md fg n) (acall P md fg (n + 1))
  | 0 => fun _ _ _ => LeO.none _
  | n + 1 => by
    intro f as h r hr
    rw [acall] at hr ⊢
    split
    · rename_i hok
      rw [if_pos hok] at hr
      split
      · rename_i fn hfn
        simp only [hfn] at hr
        split
        · rename_i code hb
          simp only [hb] at hr
          exact finish_mono (run_mono (acall_succ n) (Nat.le_succ n) code _ _ _) r hr
        · rename_i hb; simp only [hb] at hr; cases hr
      · rename_i hfn; simp only [hfn] at hr; cases hr
    · rename_i hok; rw [if_neg hok] at hr; cases hr
theorem acall_mono (f : FuncId) (as : List AV) (h : AHeap) : Mono fun n => acall P md fg n f as h := fun n => acall_succ n f as h
theorem arun_mono (code : Code) (m : List Bool) (e : Env) (h : AHeap) : Mono fun n => run P md M (acall P md fg n) n code m e h := fun n => run_mono (acall_succ n) (Nat.le_succ n) code m e h
end mono

/-! ### The equations -/
section eqs
variable {P : Program} {md : FuncId → Nat} {fg : FuncId → Nat → List Bool} {M : Nat → List Bool}
theorem lim_step {α β : Type} {s : Nat → Option α} {F : Nat → Option α → Option β} {G : Option α → Option β} (hs : Mono s)
    (hF : ∀ r n, (∀ m, n ≤ m → s m = some r) → lim (fun m => F m (some r)) = G (some r) ) (hn : ∀ m, F m none = none) (hG : G none = none) : lim (fun m => F m (s m)) = G (lim s) := by
  cases h : lim s with
  | none =>
    have h0 : ∀ m, s m = none := by
      intro m
      cases hm : s m with
      | none => rfl
      | some r => rw [hs.lim_of hm] at h; cases h
    rw [hG]
    have : (fun m => F m (s m)) = fun _ => none := by funext m; rw [h0 m, hn m]
    rw [this, lim_const]
  | some r =>
    obtain ⟨n, hr⟩ := of_lim h
    rw [← hF r n hr]
    apply lim_ext
    intro y
    constructor
    · rintro ⟨k, hk⟩
      exact ⟨max n k, fun m hm => by have := hk m (by omega); rw [hr m (by omega)] at this; exact this⟩
    · rintro ⟨k, hk⟩
      exact ⟨max n k, fun m hm => by rw [hr m (by omega)]; exact hk m (by omega)⟩
open Classical in
theorem lim_doCall0 (f : FuncId) (as : List AV) (h : AHeap) : lim (fun n => doCall0 md (acall P md fg n) f as h) = doCall0 md (aval P md fg) f as h := by
  unfold doCall0
  split
  · split
    · split
      · exact lim_step (s := fun n => acall P md fg n f _ []) (F := fun _ x => match pureRes x with | some r => some (r, if flat r then h else frzAll h _) | none => none)
          (G := fun x => match pureRes x with | some r => some (r, if flat r then h else frzAll h _) | none => none) (acall_mono _ _ _) (fun r _ _ => lim_const _) (fun _ => rfl) rfl
      · exact lim_const _
    · exact lim_const _
  · exact lim_step (s := fun n => acall P md fg n f as h) (F := fun _ x => match rated (md f) x with | some (r, h') => if below h.length r = true ∧ GcOk h.length h h' then some (r, h'.take h.length) else some (r, h') | none => none)
          (G := fun x => match rated (md f) x with | some (r, h') => if below h.length r = true ∧ GcOk h.length h h' then some (r, h'.take h.length) else some (r, h') | none => none) (acall_mono _ _ _) (fun r _ _ => lim_const _) (fun _ => by rw [rated_none]) (by rw [rated_none])
theorem lim_doCall (f : FuncId) (as : List AV) (h : AHeap) : lim (fun n => doCall md (acall P md fg n) f as h) = doCall md (aval P md fg) f as h := by
  unfold doCall
  split
  · rename_i xs ys _
    exact lim_step (s := fun n => acall P md fg n f xs h) (F := fun n x => bothK x (acall P md fg n f ys h)) (G := fun x => bothK x (aval P md fg f ys h)) (acall_mono _ _ _)
      (fun r _ _ => lim_step (s := fun n => acall P md fg n f ys h) (F := fun _ y => bothK (some r) y) (G := fun y => bothK (some r) y) (acall_mono _ _ _) (fun _ _ _ => lim_const _) (fun _ => rfl) rfl) (fun _ => rfl) rfl
  · exact lim_doCall0 f as h
theorem lim_astep (env : Env) (h : AHeap) (o : Oper) : lim (fun n => astep P md (acall P md fg n) env h o) = astep P md (aval P md fg) env h o := by
  unfold astep
  split
  · exact lim_const _
  · exact lim_doCall _ _ _
  · exact lim_const _
theorem lim_runOps (ops : Array Oper) : ∀ (l : List Oper) (env : Env) (h : AHeap), lim (fun n => runOps P md (acall P md fg n) ops l env h) = runOps P md (aval P md fg) ops l env h
  | [], _, _ => lim_const _
  | o :: l, env, h => by
    simp only [runOps]
    cases hg : aguard ops env o with
    | none => exact lim_const _
    | some t =>
      cases t with
      | true =>
        dsimp only
        rw [← lim_astep]
        refine lim_step (s := fun n => astep P md (acall P md fg n) env h o) (F := fun n x => match x with | some (v, h') => runOps P md (acall P md fg n) ops l (aput env o.dst v) h' | none => none)
          (G := fun x => match x with | some (v, h') => runOps P md (aval P md fg) ops l (aput env o.dst v) h' | none => none) (fun n => astep_mono (acall_succ n) env h o) (fun r _ _ => ?_) (fun _ => rfl) rfl
        obtain ⟨v, h'⟩ := r
        exact lim_runOps ops l _ _
      | false => exact lim_runOps ops l _ _
open Classical in
theorem lim_runDraw (ops : Array Oper) : ∀ (l : List Oper) (env : Env) (h : AHeap), lim (fun n => runDraw P md (acall P md fg n) ops l env h) = runDraw P md (aval P md fg) ops l env h
  | [], _, _ => lim_const _
  | o :: l, env, h => by
    simp only [runDraw]
    cases hg : aguard ops env o with
    | none => exact lim_const _
    | some t =>
      cases t with
      | true =>
        dsimp only
        rw [← lim_astep]
        refine lim_step (s := fun n => astep P md (acall P md fg n) env h o) (F := fun n x => match x with | some (v, h') => if effOp P md o = true ∨ h' = h then runDraw P md (acall P md fg n) ops l (aput env o.dst v) h' else none | none => none)
          (G := fun x => match x with | some (v, h') => if effOp P md o = true ∨ h' = h then runDraw P md (aval P md fg) ops l (aput env o.dst v) h' else none | none => none) (fun n => astep_mono (acall_succ n) env h o) (fun r _ _ => ?_) (fun _ => rfl) rfl
        obtain ⟨v, h'⟩ := r
        dsimp only
        split
        · exact lim_runDraw ops l _ _
        · exact lim_const _
      | false => exact lim_runDraw ops l _ _
theorem all_late {α : Type} {p : α → Nat → Prop} : ∀ (l : List α), (∀ x ∈ l, ∃ n, ∀ m, n ≤ m → p x m) → ∃ n, ∀ m, n ≤ m → ∀ x ∈ l, p x m
  | [], _ => ⟨0, fun _ _ x hx => by cases hx⟩
  | a :: r, h => by
    obtain ⟨n1, h1⟩ := h a (List.mem_cons_self ..)
    obtain ⟨n2, h2⟩ := all_late r fun x hx => h x (List.mem_cons_of_mem _ hx)
    refine ⟨max n1 n2, fun m hm x hx => ?_⟩
    rcases List.mem_cons.1 hx with rfl | hx
    · exact h1 m (by omega)
    · exact h2 m (by omega) x hx
theorem okG_lim {n0 : Nat} {U : List Nat} {o : Oper} {env : Env} {h : AHeap} {v : AV} {h' : AHeap} {hs : List AHeap} {pd : Pend} :
    okG P md (aval P md fg) n0 U o env h v h' hs pd ↔ ∃ n, ∀ m, n ≤ m → okG P md (acall P md fg m) n0 U o env h v h' hs pd := by
  constructor
  · rintro ⟨k1, k2, k3⟩
    by_cases he : (effOp P md o || readOp P o) = true
    · obtain ⟨n, hn⟩ := all_late (p := fun T m => astep P md (acall P md fg m) env (killAt n0 h T) o = some (v, killAt n0 h' T)) (subs U) fun T hT => by
        have := k2 he T hT
        rw [← lim_astep] at this
        exact of_lim this
      exact ⟨n, fun m hm => ⟨k1, fun _ T hT => hn m hm T hT, k3⟩⟩
    · exact ⟨0, fun m _ => ⟨k1, fun e => absurd e he, k3⟩⟩
  · rintro ⟨n, hn⟩
    obtain ⟨k1, k2, k3⟩ := hn n (Nat.le_refl n)
    refine ⟨k1, fun e T hT => ?_, k3⟩
    rw [← lim_astep]
    exact lim_of fun m hm => (hn m hm).2.1 e T hT
open Classical in
theorem lim_cond {α : Type} {p : Nat → Prop} {q : Prop} {s : Nat → Option α} (hq : q ↔ ∃ n, ∀ m, n ≤ m → p m) (hp : ∀ n, p n → ∀ m, n ≤ m → p m) : lim (fun n => if p n then s n else none) = if q then lim s else none := by
  by_cases h : q
  · rw [if_pos h]
    obtain ⟨n, hn⟩ := hq.1 h
    apply lim_ext
    intro r
    constructor
    · rintro ⟨k, hk⟩
      exact ⟨max n k, fun m hm => by have := hk m (by omega); rw [if_pos (hn m (by omega))] at this; exact this⟩
    · rintro ⟨k, hk⟩
      exact ⟨max n k, fun m hm => by rw [if_pos (hn m (by omega))]; exact hk m (by omega)⟩
  · rw [if_neg h]
    have : (fun n => if p n then s n else none) = fun _ => none := by
      funext n
      rw [if_neg fun k => h (hq.2 ⟨n, hp n k⟩)]
    rw [this, lim_const]
theorem acall_le {n m : Nat} (h : n ≤ m) : LeC (acall P md fg n) (acall P md fg m) := fun f as g => (acall_mono f as g).le h
open Classical in
theorem lim_runG (ops : Array Oper) (n0 : Nat) (U : Nat → List Nat) : ∀ (l : List Nat) (env : Env) (h : AHeap) (hs : List AHeap) (pd : Pend), lim (fun n => runG P md (acall P md fg n) ops n0 U l env h hs pd) = runG P md (aval P md fg) ops n0 U l env h hs pd
  | [], _, _, _, _ => lim_const _
  | i :: l, env, h, hs, pd => by
    simp only [runG]
    cases ho : ops[i]? with
    | none => exact lim_const _
    | some o =>
      dsimp only
      cases hg : aguard ops env o with
      | none => exact lim_const _
      | some t =>
        cases t with
        | true =>
          dsimp only
          rw [← lim_astep]
          refine lim_step (s := fun n => astep P md (acall P md fg n) env h o) (F := fun n x => match x with | some (v, h') => if okG P md (acall P md fg n) n0 (U i) o env h v h' hs (pdB (U 999) (isStore o) pd) then runG P md (acall P md fg n) ops n0 U l (aput env o.dst v) h' (if effOp P md o then h' :: hs else hs) (if isLoad o then (env, o, v, U i) :: pdB (U 999) (isStore o) pd else pdB (U 999) (isStore o) pd) else none | none => none)
            (G := fun x => match x with | some (v, h') => if okG P md (aval P md fg) n0 (U i) o env h v h' hs (pdB (U 999) (isStore o) pd) then runG P md (aval P md fg) ops n0 U l (aput env o.dst v) h' (if effOp P md o then h' :: hs else hs) (if isLoad o then (env, o, v, U i) :: pdB (U 999) (isStore o) pd else pdB (U 999) (isStore o) pd) else none | none => none) (fun n => astep_mono (acall_succ n) env h o) (fun r _ _ => ?_) (fun _ => rfl) rfl
          obtain ⟨v, h'⟩ := r
          dsimp only
          rw [lim_cond okG_lim fun n k m hm => okG_mono (acall_le hm) k]
          split
          · exact lim_runG ops n0 U l _ _ _ _
          · rfl
        | false => exact lim_runG ops n0 U l _ _ _ _
theorem lim_runGA (ops : Array Oper) (sq : List Nat) (m : Nat) (U : Nat → List Nat) (env : Env) (h : AHeap) : lim (fun n => runGA P md (acall P md fg n) ops sq m U env h) = runGA P md (aval P md fg) ops sq m U env h := by
  unfold runGA
  split
  · exact lim_runG _ _ _ _ _ _ _ _
  · exact lim_const _
theorem arun_skip (m : List Bool) (e : Env) (h : AHeap) : arun P md fg M .skip m e h = some (.norm, e, h) := lim_const _
theorem arun_exit (id : Nat) (m : List Bool) (e : Env) (h : AHeap) : arun P md fg M (.exit id) m e h = some (.exit id, e, h) := lim_const _
theorem arun_ret (m : List Bool) (e : Env) (h : AHeap) : arun P md fg M .ret m e h = some (.ret, e, h) := lim_const _
theorem lim_normK {s : Nat → Option (Env × AHeap)} (hs : Mono s) : lim (fun n => normK (s n)) = normK (lim s) :=
  lim_step (s := s) (F := fun _ x => normK x) (G := normK) hs (fun _ _ _ => lim_const _) (fun _ => rfl) rfl
theorem lim_maskR {s : Nat → RunR} (m : List Bool) (hs : Mono s) : lim (fun n => maskR m (s n)) = maskR m (lim s) :=
  lim_step (s := s) (F := fun _ x => maskR m x) (G := maskR m) hs (fun _ _ _ => lim_const _) (fun _ => rfl) rfl
theorem arun_region (id : Nat) (ops : Array Oper) (d : Bool) (m : List Bool) (e : Env) (h : AHeap) :
    arun P md fg M (.region id ops d) m e h = maskR (M 0) (normK (if d then (if looseAt M id then runGA P md (aval P md fg) ops (seqAt M id) (allocsAt M id) (unordAt M id) e h else runDraw P md (aval P md fg) ops ops.toList e h) else runOps P md (aval P md fg) ops ops.toList e h)) := by
  unfold arun
  simp only [run]
  cases d with
  | true =>
    simp only [if_true]
    split
    · rw [← lim_runGA, ← lim_normK fun n => runGA_mono (acall_succ n) ops _ _ _ _ _]
      exact lim_maskR _ fun n => normK_mono (runGA_mono (acall_succ n) ops _ _ _ _ _)
    · rw [← lim_runDraw, ← lim_normK fun n => runDraw_mono (acall_succ n) ops _ _ _]
      exact lim_maskR _ fun n => normK_mono (runDraw_mono (acall_succ n) ops _ _ _)
  | false =>
    simp only [Bool.false_eq_true, if_false]
    rw [← lim_runOps, ← lim_normK fun n => runOps_mono (acall_succ n) ops _ _ _]
    exact lim_maskR _ fun n => normK_mono (runOps_mono (acall_succ n) ops _ _ _)
theorem lim_seqK {s : Nat → RunR} {k : Nat → Env → AHeap → RunR} (hs : Mono s) : lim (fun n => seqK (s n) (k n)) = seqK (lim s) fun e h => lim fun n => k n e h := by
  refine lim_step (s := s) (F := fun n x => seqK x (k n)) (G := fun x => seqK x fun e h => lim fun n => k n e h) hs (fun r _ _ => ?_) (fun _ => rfl) rfl
  obtain ⟨x, e, h⟩ := r
  cases x with
  | norm => rfl
  | exit _ => exact lim_const _
  | ret => exact lim_const _
theorem arun_seq (a b : Code) (m : List Bool) (e : Env) (h : AHeap) : arun P md fg M (.seq a b) m e h = seqK (arun P md fg M a m e h) fun e h => arun P md fg M b m e h :=
  lim_seqK (arun_mono a m e h)
theorem arun_cond (c : Operand) (a b : Code) (m : List Bool) (e : Env) (h : AHeap) : arun P md fg M (.cond c a b) m e h = condK (oval e c) (arun P md fg M a m e h) (arun P md fg M b m e h) := by
  show lim (fun n => condK _ _ _) = _
  unfold condK
  split
  · split <;> rfl
  · exact lim_const _
theorem arun_block (id : Nat) (c : Code) (m : List Bool) (e : Env) (h : AHeap) : arun P md fg M (.block id c) m e h = blockK id (arun P md fg M c (M (id + 1)) e h) := by
  refine lim_step (s := fun n => run P md M (acall P md fg n) n c (M (id + 1)) e h) (F := fun _ x => blockK id x) (G := blockK id) (arun_mono c _ e h) (fun r _ _ => lim_const _) (fun _ => rfl) rfl
noncomputable def aloop (P : Program) (md : FuncId → Nat) (fg : FuncId → Nat → List Bool) (M : Nat → List Bool) (c : Code) (m : List Bool) (e : Env) (h : AHeap) : RunR :=
  lim fun n => iter (fun e h => run P md M (acall P md fg n) n c m (mask m e) h) n e h
theorem iter_mono_n (c : Code) (m : List Bool) (e : Env) (h : AHeap) : Mono fun n => iter (fun e h => run P md M (acall P md fg n) n c m (mask m e) h) n e h :=
  fun n => iter_mono (fun e h => run_mono (acall_succ n) (Nat.le_succ n) c m _ h) n (n + 1) (Nat.le_succ n) e h
theorem arun_loop (c : Code) (m : List Bool) (e : Env) (h : AHeap) : arun P md fg M (.loop c) m e h = maskR m (aloop P md fg M c m e h) :=
  lim_maskR m (iter_mono_n c m e h)
theorem aloop_eq (c : Code) (m : List Bool) (e : Env) (h : AHeap) : aloop P md fg M c m e h = seqK (arun P md fg M c m (mask m e) h) fun e h => aloop P md fg M c m e h := by
  have h1 : aloop P md fg M c m e h = lim fun n => iter (fun e h => run P md M (acall P md fg (n + 1)) (n + 1) c m (mask m e) h) (n + 1) e h := by
    apply lim_ext
    intro r
    constructor
    · rintro ⟨n, hn⟩
      exact ⟨n, fun m hm => hn (m + 1) (by omega)⟩
    · rintro ⟨n, hn⟩
      exact ⟨n + 1, fun m hm => by obtain ⟨k, rfl⟩ : ∃ k, m = k + 1 := ⟨m - 1, by omega⟩; exact hn k (by omega)⟩
  rw [h1]
  have h2 : arun P md fg M c m (mask m e) h = lim fun n => run P md M (acall P md fg (n + 1)) (n + 1) c m (mask m e) h := by
    apply lim_ext
    intro r
    constructor
    · rintro ⟨n, hn⟩
      exact ⟨n, fun m hm => hn (m + 1) (by omega)⟩
    · rintro ⟨n, hn⟩
      exact ⟨n + 1, fun m hm => by obtain ⟨k, rfl⟩ : ∃ k, m = k + 1 := ⟨m - 1, by omega⟩; exact hn k (by omega)⟩
  rw [h2]
  show lim (fun n => seqK (run P md M (acall P md fg (n + 1)) (n + 1) c m (mask m e) h) (iter (fun e h => run P md M (acall P md fg (n + 1)) (n + 1) c m (mask m e) h) n)) = _
  rw [lim_seqK (s := fun n => run P md M (acall P md fg (n + 1)) (n + 1) c m (mask m e) h) (fun n => arun_mono c m _ h (n + 1))]
  congr 1
  funext e' h'
  apply lim_ext
  intro r
  constructor
  · rintro ⟨n, hn⟩
    refine ⟨n + 1, fun m hm => ?_⟩
    obtain ⟨k, rfl⟩ : ∃ k, m = k + 1 := ⟨m - 1, by omega⟩
    have := hn k (by omega)
    exact iter_mono (fun e h => LeO.refl _) k (k + 1) (Nat.le_succ k) e' h' r this
  · rintro ⟨n, hn⟩
    refine ⟨n, fun m' hm => ?_⟩
    have := hn m' hm
    exact iter_mono (fun e h => run_mono (acall_succ m') (Nat.le_succ m') c m _ h) m' m' (Nat.le_refl m') e' h' r this
theorem mask_mask : ∀ (m : List Bool) (e : Env), mask m (mask m e) = mask m e
  | [], e => by cases e <;> rfl
  | true :: m, [] => rfl
  | false :: m, [] => rfl
  | true :: m, x :: e => by simp only [mask, mask_mask m e]
  | false :: m, x :: e => by simp only [mask, mask_mask m e]
theorem aloop_mask (c : Code) (m : List Bool) (e : Env) (h : AHeap) : aloop P md fg M c m e h = aloop P md fg M c m (mask m e) h := by
  rw [aloop_eq c m e h, aloop_eq c m (mask m e) h, mask_mask]
theorem finish_lim (rs : List ResultVar) {s : Nat → RunR} (hs : Mono s) : lim (fun n => finish P rs (s n)) = finish P rs (lim s) :=
  lim_step (s := s) (F := fun _ x => finish P rs x) (G := finish P rs) hs (fun _ _ _ => lim_const _) (fun _ => rfl) rfl
theorem aval_eq {f : FuncId} {fn : Func} {c : Code} {rs : Array ResultVar} {nt : Nat} (hf : P.funcs[f]? = some fn) (hb : fn.body = some c) (hr : fn.results = rs) (hn : fn.ntmps = nt) (hok : fnOk P md fg f = true) (args : List AV) (h : AHeap) :
    aval P md fg f args h = finish P rs.toList (arun P md fg (fg f) c [] (env0 nt args) h) := by
  subst hr; subst hn
  unfold aval arun
  rw [← finish_lim fn.results.toList (arun_mono c _ _ _)]
  apply lim_ext
  intro r
  have key : ∀ n, acall P md fg (n + 1) f args h = finish P fn.results.toList (run P md (fg f) (acall P md fg n) n c [] (env0 fn.ntmps args) h) := by
    intro n; rw [acall, if_pos hok]; simp only [hf, hb]
  constructor
  · rintro ⟨n, hn⟩
    exact ⟨n, fun m hm => by rw [← key]; exact hn (m + 1) (by omega)⟩
  · rintro ⟨n, hn⟩
    exact ⟨n + 1, fun m hm => by obtain ⟨k, rfl⟩ : ∃ k, m = k + 1 := ⟨m - 1, by omega⟩; rw [key]; exact hn k (by omega)⟩
end eqs

abbrev Ghost := Nat → Nat → Option (Nat × Nat)

inductive V (w : World) (O : Nat → Prop) (γ : Ghost) : AV → Value → Prop
  | unk (v : Value) : V w O γ .unk v
  | val (v : Value) : V w O γ (.val v) v
  | agg (cs : List AV) (vs : Array Value) (hl : cs.length = vs.size) (hc : ∀ (i : Nat) (c : AV), cs[i]? = some c → isCell c = true)
      (hv : ∀ (i : Nat) (c : AV) (v : Value), cs[i]? = some c → vs[i]? = some v → V w O γ c v) : V w O γ (.agg cs) (.agg vs)
  | tup (cs : List AV) (vs : Array Value) (hl : cs.length = vs.size)
      (hv : ∀ (i : Nat) (c : AV) (v : Value), cs[i]? = some c → vs[i]? = some v → V w O γ c v) : V w O γ (.tup cs) (.tuple vs)
  | slc0 (full : Bool) (a : Option Addr) : V w O γ (.slc full []) (.slice a 0 0)
  | slc (full : Bool) (es : List AV) (b o cap k : Nat) (vals : Nat → Nat → Value) (hcap : es.length ≤ cap) (hfull : full = true → cap = es.length)
      (hk : ∀ (i : Nat) (e : AV), es[i]? = some e → okVal e = true ∧ e.cells.length = k)
      (hc : ∀ (i j : Nat) (e c : AV), es[i]? = some e → e.cells[j]? = some c → isCell c = true ∧ ¬ O b ∧ w.cell? ⟨b, o + i * k + j, none⟩ = some (vals i j))
      (hv : ∀ (i j : Nat) (e c : AV), es[i]? = some e → e.cells[j]? = some c → V w O γ c (vals i j)) : V w O γ (.slc full es) (.slice (some ⟨b, o, none⟩) es.length cap)
  | sptr (cs : List AV) (off b o : Nat) (vals : Nat → Value)
      (hc : ∀ (j : Nat) (c : AV), cs[j]? = some c → isCell c = true ∧ ¬ O b ∧ w.cell? ⟨b, o + j, none⟩ = some (vals j))
      (hv : ∀ (j : Nat) (c : AV), cs[j]? = some c → V w O γ c (vals j)) : V w O γ (.sptr cs off) (.pointer (some ⟨b, o + off, none⟩))
  | ptr (id off b o : Nat) (hg : γ id 0 = some (b, o)) : V w O γ (.ptr id off) (.pointer (some ⟨b, o + off, none⟩))
  | eptr (id g k idx off b o : Nat) (hg : γ id g = some (b, o)) : V w O γ (.eptr id g k idx off) (.pointer (some ⟨b, o + idx * k + off, none⟩))
  | arr (id off len g k b o cap o' : Nat) (hg : γ id g = some (b, o)) (hcap : len ≤ cap) (ho : o' = o + off * k ∨ cap = 0)
      (hrow : ∃ (c : Array Value) (T : TypeId) (z : Nat × Nat), w.heap[b]? = some (Obj.cells c T z) ∧ o + (off + cap) * k ≤ c.size) : V w O γ (.arr id off len g k) (.slice (some ⟨b, o', none⟩) len cap)
  | clo (f : FuncId) (first caps : List AV) (fs cs : Array Value) (hf : first.length = fs.size) (hc : caps.length = cs.size)
      (hvf : ∀ (i : Nat) (c : AV) (v : Value), first[i]? = some c → fs[i]? = some v → V w O γ c v)
      (hvc : ∀ (i : Nat) (c : AV) (v : Value), caps[i]? = some c → cs[i]? = some v → V w O γ c v) : V w O γ (.clo f first caps) (.func (.func f) fs cs)

  | mp (id b : Nat) (hg : γ id 0 = some (b, 0)) : V w O γ (.mp id) (.map (some b))
  | emp (a : Addr) (cap : Nat) : V w O γ .emp (.slice (some a) 0 cap)

def VA (w : World) (O : Nat → Prop) (γ : Ghost) (as : List AV) (vs : Array Value) : Prop :=
  as.length = vs.size ∧ ∀ (i : Nat) (a : AV) (v : Value), as[i]? = some a → vs[i]? = some v → V w O γ a v

structure Sees (w : World) (O : Nat → Prop) (γ : Ghost) (w' : World) (O' : Nat → Prop) (γ' : Ghost) : Prop where
  ext : ∀ id g p, γ id g = some p → γ' id g = some p
  cell : ∀ b off v, ¬ O b → w.cell? ⟨b, off, none⟩ = some v → ¬ O' b ∧ w'.cell? ⟨b, off, none⟩ = some v
  row : ∀ (b : Nat) (c : Array Value) (T : TypeId) (z : Nat × Nat), w.heap[b]? = some (Obj.cells c T z) → ∃ (c' : Array Value) (z' : Nat × Nat), w'.heap[b]? = some (Obj.cells c' T z') ∧ c'.size = c.size

section
variable {w w' : World} {O O' : Nat → Prop} {γ γ' : Ghost}
theorem V.mono {a : AV} {v : Value} (h : V w O γ a v) (s : Sees w O γ w' O' γ') : V w' O' γ' a v := by
  induction h with
  | unk v => exact .unk v
  | val v => exact .val v
  | agg cs vs hl hc _ ih => exact .agg cs vs hl hc ih
  | tup cs vs hl _ ih => exact .tup cs vs hl ih
  | slc0 full a => exact .slc0 full a
  | slc full es b o cap k vals hcap hfull hk hc _ ih =>
    exact .slc full es b o cap k vals hcap hfull hk (fun i j e c he hj => by
      obtain ⟨h1, h2, h3⟩ := hc i j e c he hj
      exact ⟨h1, s.cell _ _ _ h2 h3⟩) ih
  | sptr cs off b o vals hc _ ih =>
    exact .sptr cs off b o vals (fun j c hj => by
      obtain ⟨h1, h2, h3⟩ := hc j c hj
      exact ⟨h1, s.cell _ _ _ h2 h3⟩) ih
  | ptr id off b o hg => exact .ptr id off b o (s.ext _ _ _ hg)
  | eptr id g k idx off b o hg => exact .eptr id g k idx off b o (s.ext _ _ _ hg)
  | arr id off len g k b o cap o' hg hcap ho hrow =>
    obtain ⟨c, T, z, h1, h2⟩ := hrow
    obtain ⟨c', z', h3, h4⟩ := s.row _ _ _ _ h1
    exact .arr id off len g k b o cap o' (s.ext _ _ _ hg) hcap ho ⟨c', T, z', h3, by rw [h4]; exact h2⟩
  | clo f first caps fs cs hf hc _ _ ih1 ih2 => exact .clo f first caps fs cs hf hc ih1 ih2
  | mp id b hg => exact .mp id b (s.ext _ _ _ hg)
  | emp a cap => exact .emp a cap
theorem VA.mono {as : List AV} {vs : Array Value} (h : VA w O γ as vs) (s : Sees w O γ w' O' γ') : VA w' O' γ' as vs :=
  ⟨h.1, fun i a v ha hv => (h.2 i a v ha hv).mono s⟩
theorem Sees.refl (w : World) (O : Nat → Prop) (γ : Ghost) : Sees w O γ w O γ := ⟨fun _ _ _ h => h, fun _ _ _ h k => ⟨h, k⟩, fun _ c T z h => ⟨c, z, h, rfl⟩⟩

/-! ### Inversions -/
theorem V.cell_one {a : AV} {v : Value} (h : V w O γ a v) (hc : isCell a = true) : v.oneCell' = true ∧ v.cells = #[v] ∧ a.cells = [a] := by
  cases h <;> first | (simp [isCell] at hc; done) | skip
  all_goals first | exact ⟨rfl, rfl, rfl⟩ | skip
  cases v <;> first | (simp [isCell] at hc; done) | exact ⟨rfl, rfl, rfl⟩
theorem V.cells {a : AV} {v : Value} (h : V w O γ a v) (hk : okVal a = true) :
    a.cells.length = v.cells.size ∧ ∀ (i : Nat) (c : AV), a.cells[i]? = some c → isCell c = true ∧ ∃ u, v.cells[i]? = some u ∧ V w O γ c u := by
  by_cases hc : isCell a = true
  · obtain ⟨_, h2, h3⟩ := h.cell_one hc
    rw [h2, h3]
    refine ⟨rfl, fun i c hi => ?_⟩
    cases i with
    | zero => simp at hi; subst hi; exact ⟨hc, v, rfl, h⟩
    | succ n => simp at hi
  · cases h with
    | agg cs vs hl hcc hv =>
      refine ⟨hl, fun i c hi => ⟨hcc i c hi, ?_⟩⟩
      have hi' : cs[i]? = some c := hi
      have hlt : i < vs.size := by rw [← hl]; exact (List.getElem?_eq_some_iff.1 hi').1
      refine ⟨vs[i], ?_, hv i c _ hi' ?_⟩
      · show vs[i]? = _; simp [hlt]
      · simp [hlt]
    | val v => cases v <;> simp [okVal] at hk <;> simp [isCell] at hc
    | tup cs vs hl hv => simp [okVal] at hk
    | unk v => simp [okVal] at hk
    | _ => simp [isCell] at hc
end

/-! ### The whole of memory -/
def ogen : AObj → Option Nat
  | .vars _ => some 0
  | .arr _ _ g => some g
  | .map _ _ => some 0
  | .iter .. => some 0
  | _ => none
def Own (h : AHeap) (γ : Ghost) (b : Nat) : Prop := ∃ id g o, ogen (hget h id) = some g ∧ γ id g = some (b, o)
def RowIs (w : World) (O : Nat → Prop) (γ : Ghost) (b o k : Nat) (es : List AV) : Prop :=
  (∀ (i : Nat) (e : AV), es[i]? = some e → okVal e = true ∧ e.cells.length = k) ∧
  ∀ (i j : Nat) (e c : AV), es[i]? = some e → e.cells[j]? = some c → isCell c = true ∧ ∃ v, w.cell? ⟨b, o + i * k + j, none⟩ = some v ∧ V w O γ c v
def Free (w : World) (b : Nat) : Prop := ∃ (c : Array Value) (T : TypeId) (z : Nat × Nat), w.heap[b]? = some (Obj.cells c T z) ∧ ∀ off, off < c.size → w.frozen? ⟨b, off, none⟩ = false
def MapIs (w : World) (O : Nat → Prop) (γ : Ghost) (es : List (AV × AV × Nat)) (xs : Array MapEntry) : Prop :=
  es.length = xs.size ∧ ∀ (i : Nat) (e : AV × AV × Nat) (x : MapEntry), es[i]? = some e → xs[i]? = some x → x.born = e.2.2 ∧ keyOk e.1 = true ∧ okVal e.2.1 = true ∧ V w O γ e.1 x.key ∧ V w O γ e.2.1 x.val
theorem MapIs.mono {w w' : World} {O O' : Nat → Prop} {γ γ' : Ghost} {es : List (AV × AV × Nat)} {xs : Array MapEntry} (h : MapIs w O γ es xs) (s : Sees w O γ w' O' γ') : MapIs w' O' γ' es xs :=
  ⟨h.1, fun i e x he hx => by
    obtain ⟨h1, h2, h3, h4, h5⟩ := h.2 i e x he hx
    exact ⟨h1, h2, h3, h4.mono s, h5.mono s⟩⟩
def IterIs (γ : Ghost) : Option Nat → Option Nat → Prop
  | none, mm => mm = none
  | some i, mm => ∃ b, γ i 0 = some (b, 0) ∧ mm = some b
theorem IterIs.mono {γ γ' : Ghost} (hx : ∀ id g p, γ id g = some p → γ' id g = some p) : ∀ {m mm : Option Nat}, IterIs γ m mm → IterIs γ' m mm
  | none, _, h => h
  | some _, _, ⟨b, h1, h2⟩ => ⟨b, hx _ _ _ h1, h2⟩
def OkObj (w : World) (O : Nat → Prop) (γ : Ghost) (id : Nat) : AObj → Prop
  | .dead => True
  | .vars cs => ∃ b o, γ id 0 = some (b, o) ∧ Free w b ∧ ∀ (j : Nat) (c : AV), cs[j]? = some c → isCell c = true ∧ ∃ v, w.cell? ⟨b, o + j, none⟩ = some v ∧ V w O γ c v
  | .arr k es g => ∃ b o, γ id g = some (b, o) ∧ Free w b ∧ RowIs w O γ b o k es
  | .frz k es g => ∃ b o, γ id g = some (b, o) ∧ RowIs w O γ b o k es ∧ ∀ (i j : Nat) (e c : AV), es[i]? = some e → e.cells[j]? = some c → ¬ O b
  | .map es c => ∃ b, γ id 0 = some (b, 0) ∧ ∃ xs, w.heap[b]? = some (Obj.map xs c) ∧ MapIs w O γ es xs
  | .iter m since seen last => ∃ b, γ id 0 = some (b, 0) ∧ ∃ mm, w.heap[b]? = some (Obj.mapIter mm since seen.toArray last) ∧ IterIs γ m mm
structure R (X : Nat → Prop) (h : AHeap) (γ : Ghost) (w : World) : Prop where
  dom : ∀ id g p, γ id g = some p → id < h.length
  gens : ∀ id k es g g' p, hget h id = .arr k es g → γ id g' = some p → g' ≤ g
  obj : ∀ id, OkObj w (fun b => X b ∨ Own h γ b) γ id (hget h id)
  inj : ∀ id id' g g' b o o', ogen (hget h id) = some g → γ id g = some (b, o) → ogen (hget h id') = some g' → γ id' g' = some (b, o') → id = id'
  apart : ∀ b, Own h γ b → ¬ X b
  xin : ∀ b, X b → b < w.heap.size
  dd : ∀ id g p, γ id g = some p → hget h id ≠ .dead
abbrev Ow (X : Nat → Prop) (h : AHeap) (γ : Ghost) : Nat → Prop := fun b => X b ∨ Own h γ b

structure Step (w w' : World) (O : Nat → Prop) : Prop where
  os : w'.os = w.os
  tape : w'.tape = w.tape
  output : w'.output = w.output
  size : w.heap.size ≤ w'.heap.size
  keep : ∀ b, b < w.heap.size → ¬ O b → w'.heap[b]? = w.heap[b]?
  row : ∀ (b : Nat) (c : Array Value) (T : TypeId) (z : Nat × Nat), w.heap[b]? = some (Obj.cells c T z) → ∃ (c' : Array Value) (z' : Nat × Nat), w'.heap[b]? = some (Obj.cells c' T z') ∧ c'.size = c.size
structure Goes (X : Nat → Prop) (h : AHeap) (γ : Ghost) (w : World) (h' : AHeap) (γ' : Ghost) (w' : World) : Prop where
  rel : R X h' γ' w'
  ext : ∀ id g p, γ id g = some p → γ' id g = some p
  step : Step w w' (Own h γ)
  fresh : ∀ b, b < w.heap.size → Own h' γ' b → Own h γ b

theorem Step.refl (w : World) (O : Nat → Prop) : Step w w O := ⟨rfl, rfl, rfl, Nat.le_refl _, fun _ _ _ => rfl, fun _ c _ z h => ⟨c, z, h, rfl⟩⟩
theorem Step.trans {a b c : World} {O O' : Nat → Prop} (h : Step a b O) (k : Step b c O') (hO : ∀ i, i < a.heap.size → O' i → O i) : Step a c O :=
  ⟨k.os.trans h.os, k.tape.trans h.tape, k.output.trans h.output, Nat.le_trans h.size k.size,
   fun i hi hn => (k.keep i (Nat.lt_of_lt_of_le hi h.size) (fun ho => hn (hO i hi ho))).trans (h.keep i hi hn),
   fun i r T z hr => by
    obtain ⟨r1, z1, h1, e1⟩ := h.row i r T z hr
    obtain ⟨r2, z2, h2, e2⟩ := k.row i r1 T z1 h1
    exact ⟨r2, z2, h2, e2.trans e1⟩⟩
theorem Goes.refl {X : Nat → Prop} {h : AHeap} {γ : Ghost} {w : World} (r : R X h γ w) : Goes X h γ w h γ w :=
  ⟨r, fun _ _ _ e => e, Step.refl _ _, fun _ _ e => e⟩
theorem Goes.trans {X : Nat → Prop} {h h' h'' : AHeap} {γ γ' γ'' : Ghost} {w w' w'' : World} (a : Goes X h γ w h' γ' w') (b : Goes X h' γ' w' h'' γ'' w'') :
    Goes X h γ w h'' γ'' w'' :=
  ⟨b.rel, fun id g p e => b.ext id g p (a.ext id g p e), a.step.trans b.step fun i hi ho => a.fresh i hi ho,
   fun i hi ho => a.fresh i hi (b.fresh i (Nat.lt_of_lt_of_le hi a.step.size) ho)⟩
theorem cell?_of_heap {w w' : World} {b : Nat} (h : w'.heap[b]? = w.heap[b]?) (off : Nat) : w'.cell? ⟨b, off, none⟩ = w.cell? ⟨b, off, none⟩ := by
  simp only [World.cell?, h]
theorem lt_of_cell {w : World} {b off : Nat} {v : Value} (h : w.cell? ⟨b, off, none⟩ = some v) : b < w.heap.size := by
  rcases Nat.lt_or_ge b w.heap.size with hl | hl
  · exact hl
  · simp [World.cell?, Array.getElem?_eq_none hl] at h
theorem Goes.sees {X : Nat → Prop} {h h' : AHeap} {γ γ' : Ghost} {w w' : World} (a : Goes X h γ w h' γ' w') : Sees w (Ow X h γ) γ w' (Ow X h' γ') γ' :=
  ⟨a.ext, fun b off v hO hv => by
    have hlt := lt_of_cell hv
    refine ⟨fun ho => ?_, ?_⟩
    · rcases ho with hx | ho
      · exact hO (.inl hx)
      · exact hO (.inr (a.fresh b hlt ho))
    · rw [cell?_of_heap (a.step.keep b hlt (fun ho => hO (.inr ho)))]; exact hv, a.step.row⟩
theorem V.goes {X : Nat → Prop} {h h' : AHeap} {γ γ' : Ghost} {w w' : World} {a : AV} {v : Value} (k : V w (Ow X h γ) γ a v) (g : Goes X h γ w h' γ' w') : V w' (Ow X h' γ') γ' a v := k.mono g.sees
theorem VA.goes {X : Nat → Prop} {h h' : AHeap} {γ γ' : Ghost} {w w' : World} {a : List AV} {v : Array Value} (k : VA w (Ow X h γ) γ a v) (g : Goes X h γ w h' γ' w') : VA w' (Ow X h' γ') γ' a v := k.mono g.sees

/-! ### Lists and arrays side by side -/
theorem VA.get {w : World} {O : Nat → Prop} {γ : Ghost} {as : List AV} {vs : Array Value} (h : VA w O γ as vs) (i : Nat) : V w O γ (as.getD i .und) (vs.getD i undef) := by
  by_cases hi : i < as.length
  · have hi' : i < vs.size := h.1 ▸ hi
    have := h.2 i as[i] vs[i] (by simp [hi]) (by simp [hi'])
    simpa [List.getD, Array.getD, hi, hi'] using this
  · have hi' : ¬ i < vs.size := h.1 ▸ hi
    have e1 : as.getD i .und = .und := by simp [List.getD, List.getElem?_eq_none (Nat.le_of_not_lt hi)]
    have e2 : vs.getD i undef = undef := by simp [Array.getD, hi']
    rw [e1, e2]
    exact .val _
theorem VA.set {w : World} {O : Nat → Prop} {γ : Ghost} {as : List AV} {vs : Array Value} (h : VA w O γ as vs) {a : AV} {v : Value} (hv : V w O γ a v) (i : Nat) :
    VA w O γ (as.set i a) (vs.setIfInBounds i v) := by
  refine ⟨by simp [h.1], fun j x u hx hu => ?_⟩
  by_cases e : i = j
  · subst e
    have hi : i < as.length := by
      rcases Nat.lt_or_ge i as.length with hl | hl
      · exact hl
      · rw [List.getElem?_eq_none (by simpa using hl)] at hx; cases hx
    have hi' : i < vs.size := h.1 ▸ hi
    simp [hi] at hx
    simp [hi'] at hu
    subst hx; subst hu; exact hv
  · rw [List.getElem?_set_ne e] at hx
    rw [Array.getElem?_setIfInBounds_ne e] at hu
    exact h.2 j x u hx hu
theorem VA.of_list {w : World} {O : Nat → Prop} {γ : Ghost} {α : Type} {l : List α} {f : α → AV} {g : α → Value} (h : ∀ x ∈ l, V w O γ (f x) (g x)) : VA w O γ (l.map f) (l.map g).toArray := by
  refine ⟨by simp, fun i a v ha hv => ?_⟩
  simp at ha hv
  obtain ⟨x, hx, rfl⟩ := ha
  obtain ⟨y, hy, rfl⟩ := hv
  rw [hx] at hy; obtain rfl := Option.some.inj hy
  exact h x (List.mem_of_getElem? hx)
theorem VA.append {w : World} {O : Nat → Prop} {γ : Ghost} {as bs : List AV} {vs us : Array Value} (h : VA w O γ as vs) (k : VA w O γ bs us) : VA w O γ (as ++ bs) (vs ++ us) := by
  refine ⟨by simp [h.1, k.1], fun i a v ha hv => ?_⟩
  by_cases hi : i < as.length
  · rw [List.getElem?_append_left hi] at ha
    rw [Array.getElem?_append_left (h.1 ▸ hi)] at hv
    exact h.2 i a v ha hv
  · rw [List.getElem?_append_right (Nat.le_of_not_lt hi)] at ha
    rw [Array.getElem?_append_right (by rw [← h.1]; omega)] at hv
    rw [← h.1] at hv
    exact k.2 _ a v ha hv
theorem VA.nil {w : World} {O : Nat → Prop} {γ : Ghost} : VA w O γ [] #[] := ⟨rfl, fun i a v ha => by simp at ha⟩
theorem VA.replicate {w : World} {O : Nat → Prop} {γ : Ghost} (n : Nat) : VA w O γ (List.replicate n .und) (Array.replicate n undef) := by
  refine ⟨by simp, fun i a v ha hv => ?_⟩
  have h1 : a = .und := (List.mem_replicate.1 (List.mem_of_getElem? ha)).2
  have h2 : v = undef := (Array.mem_replicate.1 (Array.mem_of_getElem? hv)).2
  subst h1; subst h2; exact .val _
theorem VA.unks {w : World} {O : Nat → Prop} {γ : Ghost} (n : Nat) (vs : Array Value) (h : vs.size = n) : VA w O γ (List.replicate n .unk) vs := by
  refine ⟨by simp [h], fun i a v ha hv => ?_⟩
  have h1 : a = .unk := (List.mem_replicate.1 (List.mem_of_getElem? ha)).2
  subst h1; exact .unk _
theorem mask_length : ∀ (m : List Bool) (e : Env), (mask m e).length = e.length
  | [], e => by cases e <;> rfl
  | true :: m, [] => rfl
  | false :: m, [] => rfl
  | true :: m, x :: e => by simp only [mask, List.length_cons, mask_length m e]
  | false :: m, x :: e => by simp only [mask, List.length_cons, mask_length m e]
theorem mask_get : ∀ (m : List Bool) (e : Env) (i : Nat) (a : AV), (mask m e)[i]? = some a → e[i]? = some a ∨ a = .unk
  | [], e, i, a, h => by cases e <;> exact .inl h
  | true :: m, [], i, a, h => .inl h
  | false :: m, [], i, a, h => .inl h
  | true :: m, x :: e, i, a, h => by
    cases i with
    | zero => exact .inl h
    | succ n => exact mask_get m e n a h
  | false :: m, x :: e, i, a, h => by
    cases i with
    | zero => right; cases h; rfl
    | succ n => exact mask_get m e n a h
theorem VA.mask {w : World} {O : Nat → Prop} {γ : Ghost} {e : Env} {vs : Array Value} (h : VA w O γ e vs) (m : List Bool) : VA w O γ (mask m e) vs := by
  refine ⟨by rw [mask_length]; exact h.1, fun i a v ha hv => ?_⟩
  rcases mask_get m e i a ha with h1 | rfl
  · exact h.2 i a v h1 hv
  · exact .unk _
end Go.Ab
