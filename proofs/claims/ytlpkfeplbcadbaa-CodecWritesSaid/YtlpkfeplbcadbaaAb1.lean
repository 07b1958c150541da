/-
  The abstract machine: Go's code run over values that carry no addresses for what is only read. Definitions.
-/
import Derived.Orders
import Derived.KernelRfl
namespace Go.Ab

/-- An abstract value. 'slc': a slice that nobody writes any more, as the list of its elements ('full': no room behind its end). 'ptr': a cell of an abstract variable. 'arr', 'eptr': a slice of an array of the run's own, and a cell in one of its elements. 'sptr': a cell within a value that nobody writes. 'unk': whatever it is. -/
inductive AV where
  | val (v : Value)
  | agg (cs : List AV)
  | tup (vs : List AV)
  | slc (full : Bool) (es : List AV)
  | sptr (cs : List AV) (off : Nat)
  | ptr (id off : Nat)
  | eptr (id g k idx off : Nat)
  | arr (id off len g k : Nat)
  | clo (f : FuncId) (first caps : List AV)
  | unk
  deriving Inhabited

def AV.cells : AV → List AV
  | .agg cs => cs
  | v => [v]
/-- What can lie in one cell. -/
def isCell : AV → Bool
  | .agg _ | .tup _ | .unk | .val (.agg _) | .val (.tuple _) => false
  | _ => true
/-- What can be laid into memory. -/
def okVal : AV → Bool
  | .tup _ | .unk | .val (.agg _) | .val (.tuple _) => false
  | _ => true
abbrev AV.und : AV := .val (.tuple #[])
abbrev AV.int (n : Int) : AV := .val (.int .i64 n)
abbrev AV.bool (b : Bool) : AV := .val (.bool b)
abbrev AV.str (s : ByteArray) : AV := .val (.string s)

def ofCell : Value → AV
  | .slice none 0 0 => .slc true []
  | v => .val v
def ofVal : Value → AV
  | .agg cs => .agg (cs.toList.map ofCell)
  | v => ofCell v

/-- What an abstract number stands for. 'vars': variables, cell by cell; 'arr': an array under a slice of the run's own, element by element, 'k' cells each; 'g' counts its appends. 'frz': one that nobody writes any more. -/
inductive AObj where
  | dead
  | vars (cs : List AV)
  | arr (k : Nat) (es : List AV) (g : Nat)
  | frz (k : Nat) (es : List AV) (g : Nat)
  deriving Inhabited
abbrev AHeap := List AObj
abbrev Env := List AV
def hget (h : AHeap) (i : Nat) : AObj := h.getD i .dead

/-- The elements behind a slice. -/
def sview (h : AHeap) : AV → Option (List AV)
  | .slc _ es => some es
  | .arr id off len g k => match hget h id with
    | .arr k' es g' => if k = k' ∧ g = g' ∧ off + len ≤ es.length then some ((es.drop off).take len) else none
    | .frz k' es g' => if k = k' ∧ g = g' ∧ off + len ≤ es.length then some ((es.drop off).take len) else none
    | .vars cs => if k = 1 ∧ g = 0 ∧ off + len ≤ cs.length then some ((cs.drop off).take len) else none
    | .dead => none
  | _ => none
def slen : AV → Option Nat
  | .slc _ es => some es.length
  | .arr _ _ len _ _ => some len
  | _ => none

/-! ### Types -/
def tsize (P : Program) (t : TypeId) : Nat := ((P.info? t).map (·.size)).getD 0
def tbytes (P : Program) (t : TypeId) : Nat := ((P.info? t).map (·.bytes)).getD 0
def aggD : TypeDesc → Bool
  | .struct _ | .array _ _ => true
  | _ => false
def tagg (P : Program) (t : TypeId) : Option Bool := (P.underlying t).map aggD
def telem (P : Program) (t : TypeId) : Option TypeId := match P.underlying t with | some (.slice e) => some e | _ => none
def zeroOk (z : AV) : Option AV := if okVal z && z.cells.all isCell then some z else none
def tzero (P : Program) (t : TypeId) : Option AV := match P.info? t with | some i => (i.zero.map ofVal).bind zeroOk | none => none
/-- A slice's elements: their cells, their bytes, their zero. -/
def tslice (P : Program) (t : TypeId) : Option (Nat × Nat × AV) :=
  match telem P t with
  | some e => match tzero P e with
    | some z => if 0 < tsize P e ∧ 0 < tbytes P e ∧ z.cells.length = tsize P e then some (tsize P e, tbytes P e, z) else none
    | none => none
  | none => none
/-- A field: where it begins, its size, whether it is itself a struct or an array. -/
def tfield (P : Program) (s : TypeId) (f : Nat) : Option (Nat × Nat × Bool) :=
  match P.underlying s with
  | some (.struct fs) => match fs[f]? with
    | some fd => match tagg P fd.type with
      | some g => if 0 < tsize P fd.type then some (fd.offset, tsize P fd.type, g) else none
      | none => none
    | none => none
  | _ => none
/-- The places of a struct's fields. -/
def tplaces (P : Program) (s : TypeId) : Option (List (Nat × Nat)) :=
  match P.underlying s with
  | some (.struct fs) => if fs.all fun f => (P.info? f.type).isSome then some (fs.toList.map fun f => (f.offset, tsize P f.type)) else none
  | _ => none
def tarr (P : Program) (t : TypeId) : Option (Nat × TypeId) := match P.underlying t with | some (.array n e) => some (n, e) | _ => none

/-! ### Reading and writing cells -/
def cut (agg : Option Bool) (k : Nat) (cs : List AV) (off : Nat) : Option AV :=
  match agg with
  | some true => if off + k ≤ cs.length then some (.agg ((cs.drop off).take k)) else none
  | some false => cs[off]?
  | none => none
def putAt (cs : List AV) (off : Nat) : List AV → List AV
  | [] => cs
  | v :: r => putAt (cs.set off v) (off + 1) r
/-- A value laid into an element of k cells. -/
def patch (e : AV) (off : Nat) (vs : List AV) : AV :=
  match e with
  | .agg cs => .agg (putAt cs off vs)
  | e => match vs with | [v] => v | _ => e
def aload (P : Program) (t : TypeId) (h : AHeap) : AV → Option AV
  | .ptr id off => match hget h id with
    | .vars cs => cut (tagg P t) (tsize P t) cs off
    | _ => none
  | .eptr id g k idx off => match hget h id with
    | .arr k' es g' => if k = k' ∧ g = g' then (match es[idx]? with | some e => cut (tagg P t) (tsize P t) e.cells off | none => none) else none
    | .frz k' es g' => if k = k' ∧ g = g' then (match es[idx]? with | some e => cut (tagg P t) (tsize P t) e.cells off | none => none) else none
    | .vars cs => if k = 1 ∧ g = 0 ∧ off = 0 ∧ tagg P t = some false then cs[idx]? else none
    | .dead => none
  | .sptr cs off => cut (tagg P t) (tsize P t) cs off
  | _ => none
def astore (P : Program) (t : TypeId) (h : AHeap) (a x : AV) : Option AHeap :=
  if x.cells.length = tsize P t ∧ 0 < tsize P t ∧ okVal x = true then
    match a with
    | .ptr id off => match hget h id with
      | .vars cs => if off + x.cells.length ≤ cs.length then some (h.set id (.vars (putAt cs off x.cells))) else none
      | _ => none
    | .eptr id g k idx off => match hget h id with
      | .arr k' es g' =>
        if k = k' ∧ g = g' then
          match es[idx]? with
          | some e => if off + x.cells.length ≤ e.cells.length then some (h.set id (.arr k (es.set idx (if x.cells.length = e.cells.length then x else patch e off x.cells)) g)) else none
          | none => none
        else none
      | .vars cs => if k = 1 ∧ g = 0 ∧ off = 0 ∧ idx < cs.length ∧ tsize P t = 1 then some (h.set id (.vars (putAt cs idx x.cells))) else none
      | _ => none
    | _ => none
  else none

/-! ### Operations on plain values -/
def aint (op : BinOp) (k : IntKind) (a b : Int) : Option Value :=
  match op with
  | .add => some (.int k (k.wrap (a + b)))
  | .sub => some (.int k (k.wrap (a - b)))
  | .mul => some (.int k (k.wrap (a * b)))
  | .quo => if b = 0 then none else some (.int k (k.wrap (a.tdiv b)))
  | .rem => if b = 0 then none else some (.int k (a.tmod b))
  | .and => some (.int k (k.wrap (BitVec.ofInt k.bits a &&& BitVec.ofInt k.bits b).toNat))
  | .or => some (.int k (k.wrap (BitVec.ofInt k.bits a ||| BitVec.ofInt k.bits b).toNat))
  | .xor => some (.int k (k.wrap (BitVec.ofInt k.bits a ^^^ BitVec.ofInt k.bits b).toNat))
  | .andNot => some (.int k (k.wrap (BitVec.ofInt k.bits a &&& ~~~ BitVec.ofInt k.bits b).toNat))
  | .eql => some (.bool (a == b))
  | .neq => some (.bool (a != b))
  | .lss => some (.bool (a < b))
  | .leq => some (.bool (a ≤ b))
  | .gtr => some (.bool (a > b))
  | .geq => some (.bool (a ≥ b))
  | _ => none
def ashift (op : BinOp) (k : IntKind) (a b : Int) : Option Value :=
  if b < 0 then none else
  match op with
  | .shl => some (.int k (k.wrap (a * 2 ^ (min b.toNat k.bits))))
  | .shr => some (.int k (a.fdiv (2 ^ (min b.toNat k.bits))))
  | _ => none
def astr (op : BinOp) (x y : ByteArray) : Option Value :=
  match op with
  | .add => if ((x.size + y.size : Nat) : Int) > IntKind.i64.max then none else some (.string (x ++ y))
  | .eql => some (.bool (x.toList == y.toList))
  | .neq => some (.bool (!(x.toList == y.toList)))
  | .lss => some (.bool (Op.bytesLess x.toList y.toList))
  | .leq => some (.bool (Op.bytesLess x.toList y.toList || x.toList == y.toList))
  | .gtr => some (.bool (!(Op.bytesLess x.toList y.toList || x.toList == y.toList)))
  | .geq => some (.bool (!(Op.bytesLess x.toList y.toList)))
  | _ => none
def isShift : BinOp → Bool
  | .shl | .shr => true
  | _ => false
def aeqb (op : BinOp) (b : Bool) : Option AV :=
  match op with
  | .eql => some (.val (.bool b))
  | .neq => some (.val (.bool (!b)))
  | _ => none
def isPtrT (P : Program) (t : TypeId) : Bool := match P.underlying t with | some (.pointer _) => true | _ => false
def isFuncT (P : Program) (t : TypeId) : Bool := match P.underlying t with | some (.func ..) => true | _ => false
def isBoolT (P : Program) (t : TypeId) : Bool := match P.underlying t with | some .bool => true | _ => false
def abin (P : Program) (op : BinOp) (t : TypeId) : AV → AV → Option AV
  | .val (.int k a), .val (.int k' b) =>
    if isShift op then (ashift op k a b).map .val else if k = k' then (aint op k a b).map .val else none
  | .val (.string a), .val (.string b) => (astr op a b).map .val
  | .val (.bool a), .val (.bool b) => if isBoolT P t then aeqb op (a == b) else none
  | .val (.pointer none), .val (.pointer none) => if isPtrT P t then aeqb op true else none
  | .ptr _ _, .val (.pointer none) => if isPtrT P t then aeqb op false else none
  | .val (.pointer none), .ptr _ _ => if isPtrT P t then aeqb op false else none
  | .eptr .., .val (.pointer none) => if isPtrT P t then aeqb op false else none
  | .val .nilFunc, .val .nilFunc => if isFuncT P t then aeqb op true else none
  | .clo .., .val .nilFunc => if isFuncT P t then aeqb op false else none
  | _, _ => none
def aun (op : UnOp) : AV → Option AV
  | .val (.int k n) => match op with
    | .neg => some (.val (.int k (k.wrap (0 - n))))
    | .xor => some (.val (.int k (k.wrap (BitVec.ofInt k.bits (if k.signed then -1 else k.max) ^^^ BitVec.ofInt k.bits n).toNat)))
    | _ => none
  | .val (.bool b) => match op with
    | .not => some (.val (.bool (!b)))
    | _ => none
  | _ => none
def byteVal (b : UInt8) : AV := .val (.int .u8 b.toNat)
def bytesOf : List AV → Option (List UInt8)
  | [] => some []
  | .val (.int .u8 n) :: r => (bytesOf r).map (UInt8.ofNat n.toNat :: ·)
  | _ => none
def headOk (k : Nat) : List AV → Bool
  | [] => true
  | e :: _ => e.cells.length == k

/-! ### One operation -/
inductive ANext where
  | value (v : AV) (h : AHeap)
  | call (f : FuncId) (args : List AV) (h : AHeap)

def oval (env : Env) : Operand → AV
  | .tmp t => env.getD t .und
  | .const v => ofCell v
  | .global g => .val (.pointer (some ⟨g, 0, none⟩))
  | .func f => .clo f [] []
def asInt : AV → Option Int
  | .val (.int _ n) => some n
  | _ => none
def aconvert (P : Program) (src dst : TypeId) (h : AHeap) (x : AV) : Option (AV × AHeap) :=
  match P.underlying src, P.underlying dst with
  | some (.int _), some (.int k) => match x with
    | .val (.int _ n) => some (.val (.int k (k.wrap n)), h)
    | _ => none
  | some .string, some .string => match x with
    | .val (.string s) => some (.val (.string s), h)
    | _ => none
  | some .string, some (.slice e) => match P.underlying e, x with
    | some (.int .u8), .val (.string s) => some (.arr h.length 0 s.size 0 1, h ++ [.arr 1 (s.data.toList.map byteVal) 0])
    | _, _ => none
  | some (.slice e), some .string => match P.underlying e, sview h x with
    | some (.int .u8), some es => if headOk 1 es then (bytesOf es).map fun l => (.val (.string ⟨l.toArray⟩), h) else none
    | _, _ => none
  | _, _ => none
def aindexAddr (P : Program) (t : TypeId) (x i : AV) : Option AV :=
  match asInt i with
  | none => none
  | some n =>
    match tarr P t, tslice P t with
    | some (len, e), _ =>
      if 0 ≤ n ∧ n < len ∧ 0 < tsize P e then
        match x with
        | .ptr id off => some (.ptr id (off + n.toNat * tsize P e))
        | .eptr id g k idx off => some (.eptr id g k idx (off + n.toNat * tsize P e))
        | .sptr cs off => some (.sptr cs (off + n.toNat * tsize P e))
        | _ => none
      else none
    | none, some (ks, _, _) =>
      match x with
      | .slc _ es => if 0 ≤ n then (match es[n.toNat]? with | some v => if v.cells.length = ks then some (.sptr v.cells 0) else none | none => none) else none
      | .arr id off len g k => if 0 ≤ n ∧ n < len ∧ k = ks then some (.eptr id g k (off + n.toNat) 0) else none
      | _ => none
    | none, none => none
def isStrT (P : Program) (t : TypeId) : Bool := match P.underlying t with | some .string => true | _ => false
def aindex (P : Program) (t : TypeId) (x i : AV) : Option AV :=
  match x, asInt i with
  | .val (.string s), some n => if isStrT P t ∧ 0 ≤ n then (s.data.toList[n.toNat]?).map byteVal else none
  | .agg cs, some n => match tarr P t with
    | some (len, e) => if 0 ≤ n ∧ n < len ∧ 0 < tsize P e then cut (tagg P e) (tsize P e) cs (n.toNat * tsize P e) else none
    | none => none
  | _, _ => none
/-- The bounds of a slice expression: low, high, max against the length and what of the capacity is known. -/
def abound (d : Nat) : Option AV → Option Nat
  | none => some d
  | some v => match asInt v with | some n => if 0 ≤ n then some n.toNat else none | none => none
def aslice (P : Program) (t : TypeId) (x : AV) (lo hi mx : Option AV) : Option AV :=
  match x with
  | .val (.string s) =>
    match mx, abound 0 lo, abound s.size hi with
    | none, some l, some h => if isStrT P t ∧ l ≤ h ∧ h ≤ s.size then some (.val (.string (s.extract l h))) else none
    | _, _, _ => none
  | .slc full es =>
    match tslice P t, abound 0 lo, abound es.length hi, mx with
    | some (ks, _, _), some l, some h, none => if l ≤ h ∧ h ≤ es.length ∧ headOk ks es then some (.slc (full && h == es.length) ((es.drop l).take (h - l))) else none
    | some (ks, _, _), some l, some h, some m => if l ≤ h ∧ h ≤ es.length ∧ asInt m = some (h : Int) ∧ headOk ks es ∧ hi.isSome then some (.slc true ((es.drop l).take (h - l))) else none
    | _, _, _, _ => none
  | .arr id off len g k =>
    match tslice P t, abound 0 lo, abound len hi, mx with
    | some (ks, _, _), some l, some h, none => if l ≤ h ∧ h ≤ len ∧ k = ks then some (.arr id (off + l) (h - l) g k) else none
    | some _, some l, some h, some m => if l = h ∧ h ≤ len ∧ asInt m = some (h : Int) ∧ hi.isSome then some (.slc true []) else none
    | _, _, _, _ => none
  | _ => none
/-- A slice of an array that is a variable. -/
def asliceArr (P : Program) (t : TypeId) (h : AHeap) (id off : Nat) (lo hi mx : Option AV) : Option AV :=
  match tarr P t, hget h id, abound 0 lo, mx with
  | some (n, e), .vars cs, some l, none => match abound n hi with
    | some hh => if l ≤ hh ∧ hh ≤ n ∧ 0 < n ∧ tsize P e = 1 ∧ off + n ≤ cs.length then some (.arr id (off + l) (hh - l) 0 1) else none
    | none => none
  | _, _, _, _ => none
def asliceAt (P : Program) (t : TypeId) (h : AHeap) (x : AV) (lo hi mx : Option AV) : Option AV :=
  match x with
  | .ptr id off => asliceArr P t h id off lo hi mx
  | x => aslice P t x lo hi mx
def afieldAddr (P : Program) (s : TypeId) (x : AV) (f : Nat) : Option AV :=
  match tfield P s f with
  | some (fo, _, _) =>
    match x with
    | .ptr id off => some (.ptr id (off + fo))
    | .eptr id g k idx off => some (.eptr id g k idx (off + fo))
    | .sptr cs off => some (.sptr cs (off + fo))
    | _ => none
  | none => none
def afield (P : Program) (s : TypeId) (x : AV) (f : Nat) : Option AV :=
  match tfield P s f, x with
  | some (fo, k, g), .agg cs => cut (some g) k cs fo
  | _, _ => none
/-- A struct's or an array's parts laid over zeros; a slice's elements. -/
def afill (place : Nat → Option (Nat × Nat)) (cs : List AV) : List (Nat × AV) → Option (List AV)
  | [] => some cs
  | (i, v) :: r => match place i with
    | some (off, size) => if v.cells.length = size ∧ okVal v = true ∧ off + size ≤ cs.length then afill place (putAt cs off v.cells) r else none
    | none => none
def abuild (P : Program) (t : TypeId) (parts : List (Nat × AV)) : Option AV :=
  match tzero P t, tplaces P t, tarr P t with
  | some z, some pl, _ => (afill (fun i => pl[i]?) z.cells parts).map .agg
  | some z, none, some (_, e) => if 0 < tsize P e then (afill (fun i => some (i * tsize P e, tsize P e)) z.cells parts).map .agg else none
  | _, _, _ => none
def afillS (k : Nat) (es : List AV) : List (Nat × AV) → Option (List AV)
  | [] => some es
  | (i, v) :: r => if v.cells.length = k ∧ okVal v = true ∧ i < es.length then afillS k (es.set i v) r else none
def abuildSlice (P : Program) (t : TypeId) (len : Nat) (parts : List (Nat × AV)) : Option AV :=
  match tslice P t with
  | some (k, _, z) => if len * k ≤ 2 ^ 24 then (afillS k (List.replicate len z) parts).map (.slc true) else none
  | none => none
def amake (P : Program) (t : TypeId) (h : AHeap) (len cap : AV) : Option (AV × AHeap) :=
  match tslice P t, asInt len, asInt cap with
  | some (k, bytes, z), some l, some c =>
    if 0 ≤ l ∧ l ≤ c ∧ (c.toNat * bytes ≤ 2 ^ 47) then
      some (.arr h.length 0 l.toNat 0 k, h ++ [.arr k (List.replicate l.toNat z) 0])
    else none
  | _, _, _ => none
/-- The elements that an append or a copy takes from its second operand. -/
def aelems (h : AHeap) : AV → Option (List AV)
  | .val (.string s) => some (s.data.toList.map byteVal)
  | x => sview h x
def aappend (P : Program) (t : TypeId) (h : AHeap) (s x : AV) : Option (AV × AHeap) :=
  match tslice P t with
  | none => none
  | some (ks, bytes, _) => match aelems h x with
    | none => none
    | some xs =>
      if headOk ks xs = false then none else
      match s with
      | .slc true es =>
        if headOk ks es = false then none
        else if xs = [] then some (.slc true es, h)
        else if (es.length + xs.length) * bytes ≤ 2 ^ 47 then
          some (.arr h.length 0 (es.length + xs.length) 0 ks, h ++ [.arr ks (es ++ xs) 0])
        else none
      | .arr id off len g k => match hget h id with
        | .arr k' es g' =>
          if k = k' ∧ g = g' ∧ off + len ≤ es.length ∧ k = ks ∧ (len + xs.length) * bytes ≤ 2 ^ 47 then
            some (.arr id 0 (len + xs.length) (g + 1) k, h.set id (.arr k ((es.drop off).take len ++ xs) (g + 1)))
          else none
        | _ => none
      | _ => none
def acopy (P : Program) (t : TypeId) (h : AHeap) (d x : AV) : Option (AV × AHeap) :=
  match tslice P t with
  | none => none
  | some (ks, _, _) => match aelems h x with
    | none => none
    | some xs =>
      match d with
      | .arr id off len g k => match hget h id with
        | .arr k' es g' =>
          if k = k' ∧ g = g' ∧ off + len ≤ es.length ∧ k = ks ∧ headOk k xs then
            some (.int (min xs.length len : Nat), h.set id (.arr k (es.take off ++ xs.take len ++ es.drop (off + min xs.length len)) g))
          else none
        | _ => none
      | _ => none
def alen (P : Program) (t : TypeId) (x : AV) : Option AV :=
  match x with
  | .val (.string s) => if isStrT P t then some (.int s.size) else none
  | x => match tarr P t, tslice P t with
    | some (n, _), _ => some (.int n)
    | none, some _ => (slen x).map fun n => .int n
    | none, none => none
def amin2 : AV → AV → Option AV
  | .val (.int k x), .val (.int _ y) => some (.val (.int k (if y < x then y else x)))
  | _, _ => none
def amax2 : AV → AV → Option AV
  | .val (.int k x), .val (.int _ y) => some (.val (.int k (if x < y then y else x)))
  | _, _ => none
def afold (f : AV → AV → Option AV) : AV → List AV → Option AV
  | x, [] => some x
  | x, y :: r => match f x y with | some z => afold f z r | none => none
/-- The type of an argument. -/
def argT (ts : Array TypeId) (i : Nat) : TypeId := ts.getD i 0
def isSeqT (P : Program) (t : TypeId) : Bool := match P.underlying t with | some (.slice _) | some .string => true | _ => false
def abuiltin (P : Program) (b : Builtin) (ts : Array TypeId) (h : AHeap) (args : List AV) : Option (AV × AHeap) :=
  match b, args with
  | .len, [x] => if 0 < ts.size then (alen P (argT ts 0) x).map (·, h) else none
  | .append, [s, x] => if ts.size = 2 ∧ isSeqT P (argT ts 1) = true then aappend P (argT ts 0) h s x else none
  | .copy, [d, x] => if 0 < ts.size then acopy P (argT ts 0) h d x else none
  | .min, x :: r => (afold amin2 x r).map (·, h)
  | .max, x :: r => (afold amax2 x r).map (·, h)
  | _, _ => none
/-- May the function be entered? -/
def callable (P : Program) (f : FuncId) : Bool := match P.funcs[f]? with | some fn => fn.body.isSome && fn.name != "runtime.NumGoroutine" | none => false
def acall1 (P : Program) (h : AHeap) (f : AV) (args : List AV) : Option ANext :=
  match f with
  | .clo f first caps => if callable P f then some (.call f (first ++ args ++ caps) h) else none
  | _ => none
def apick : AV → AV → AV → Option AV
  | .val (.bool c), a, b => some (if c then a else b)
  | _, _, _ => none
def anil : AV → Option AV
  | .ptr id off => some (.ptr id off)
  | .eptr id g k idx off => some (.eptr id g k idx off)
  | .sptr cs off => some (.sptr cs off)
  | .clo f first caps => some (.clo f first caps)
  | _ => none
def ato (x : Option AV) (h : AHeap) : Option ANext := x.map (.value · h)
def ato2 (x : Option (AV × AHeap)) : Option ANext := x.map fun p => .value p.1 p.2

def aop (P : Program) (env : Env) (h : AHeap) (o : Oper) : Option ANext :=
  match o.op with
  | .move x | .assign x => some (.value (oval env x) h)
  | .pick c a b => ato (apick (oval env c) (oval env a) (oval env b)) h
  | .alloc t => match tzero P t with | some z => some (.value (.ptr h.length 0) (h ++ [.vars z.cells])) | none => none
  | .box _ x => if okVal (oval env x) then some (.value (.ptr h.length 0) (h ++ [.vars (oval env x).cells])) else none
  | .build t parts => ato (abuild P t (parts.toList.map fun p => (p.1, oval env p.2))) h
  | .buildSlice t len parts => ato (abuildSlice P t len (parts.toList.map fun p => (p.1, oval env p.2))) h
  | .load t a => ato (aload P t h (oval env a)) h
  | .store t a x => (astore P t h (oval env a) (oval env x)).map (.value .und ·)
  | .nilCheck x => ato (anil (oval env x)) h
  | .binOp op t x y _ => ato (abin P op t (oval env x) (oval env y)) h
  | .unOp op _ x => ato (aun op (oval env x)) h
  | .convert s d x => ato2 (aconvert P s d h (oval env x))
  | .makeFunc (.func f) first caps => some (.value (.clo f (first.toList.map (oval env)) (caps.toList.map (oval env))) h)
  | .makeSlice t l c => ato2 (amake P t h (oval env l) (oval env c))
  | .slice t x lo hi mx => ato (asliceAt P t h (oval env x) (lo.map (oval env)) (hi.map (oval env)) (mx.map (oval env))) h
  | .fieldAddr s x f => ato (afieldAddr P s (oval env x) f) h
  | .field s x f => ato (afield P s (oval env x) f) h
  | .indexAddr t x i => ato (aindexAddr P t (oval env x) (oval env i)) h
  | .index t x i => ato (aindex P t (oval env x) (oval env i)) h
  | .extract t i => match oval env t with | .tup vs => ato vs[i]? h | _ => none
  | .call c => match c.callee with
    | .value f => acall1 P h (oval env f) (c.args.toList.map (oval env))
    | .builtin b => ato2 (abuiltin P b c.argTypes h (c.args.toList.map (oval env)))
    | .invoke .. => none
  | _ => none

/-! ### Calls -/
mutual
/-- Nothing in it can be written or appended to any more. -/
def solid : AV → Bool
  | .val _ => true
  | .agg cs => solidL cs
  | .tup cs => solidL cs
  | .slc f es => !f && solidL es
  | _ => false
def solidL : List AV → Bool
  | [] => true
  | x :: r => solid x && solidL r
end
def flat1 : AV → Bool
  | .val _ => true
  | _ => false
/-- No slice, no address in it. -/
def flat : AV → Bool
  | .val _ => true
  | .agg cs => cs.all flat1
  | .tup cs => cs.all flat1
  | _ => false
def expL (f : AV → Option (AV × List Nat)) : List AV → Option (List AV × List Nat)
  | [] => some ([], [])
  | x :: r => match f x, expL f r with
    | some (y, i), some (l, j) => some (y :: l, i ++ j)
    | _, _ => none
/-- A value as one that nobody writes any more; the numbers of the arrays that this takes. 'd': how deep. -/
def exp1 (h : AHeap) : (d : Nat) → AV → Option (AV × List Nat)
  | 0, v => if solid v then some (v, []) else none
  | d + 1, v => if solid v then some (v, []) else
    match v with
    | .agg cs => (expL (exp1 h d) cs).map fun p => (.agg p.1, p.2)
    | .tup cs => (expL (exp1 h d) cs).map fun p => (.tup p.1, p.2)
    | .slc _ es => (expL (exp1 h d) es).map fun p => (.slc false p.1, p.2)
    | .arr id off len g k => match sview h (.arr id off len g k) with
      | some es => (expL (exp1 h d) es).map fun p => (.slc false p.1, id :: p.2)
      | none => none
    | .clo f [] [] => some (.clo f [] [], [])
    | _ => none
abbrev expDepth : Nat := 4
/-- Arrays that were handed away to be read: never written again. -/
def frz1 (h : AHeap) (id : Nat) : AHeap :=
  match hget h id with
  | .arr k es g => h.set id (.frz k es g)
  | _ => h
def frzAll (h : AHeap) : List Nat → AHeap
  | [] => h
  | id :: r => frzAll (frz1 h id) r
/-- Only arrays may be handed away so. -/
def canFrz (h : AHeap) (ids : List Nat) : Bool := ids.all fun id => match hget h id with | .arr .. | .frz .. => true | _ => false

mutual
def below (n : Nat) : AV → Bool
  | .val _ => true
  | .agg cs => belowL n cs
  | .tup cs => belowL n cs
  | .slc _ es => belowL n es
  | .sptr cs _ => belowL n cs
  | .ptr id _ => id < n
  | .eptr id .. => id < n
  | .arr id .. => id < n
  | .clo _ a b => belowL n a && belowL n b
  | .unk => true
def belowL (n : Nat) : List AV → Bool
  | [] => true
  | x :: r => below n x && belowL n r
end
def belowO (n : Nat) : AObj → Bool
  | .dead => true
  | .vars cs => belowL n cs
  | .arr _ es _ => belowL n es
  | .frz _ es _ => belowL n es
/-- Nothing that was there leads to what is new. -/
def GcOk (n : Nat) (h h' : AHeap) : Prop := ∀ i, i < n → h'[i]? = h[i]? ∨ belowO n (hget h' i) = true

abbrev CallF := FuncId → List AV → AHeap → Option (AV × AHeap)
/-- The result of a function that is called with values alone: it is run in a memory of its own. -/
def pureRes (r : Option (AV × AHeap)) : Option AV :=
  match r with
  | some (v, h) => match exp1 h expDepth v with
    | some (v', ids) => if canFrz h ids then some v' else none
    | none => none
  | none => none
open Classical in
noncomputable def doCall (md : FuncId → Nat) (call : CallF) (f : FuncId) (args : List AV) (h : AHeap) : Option (AV × AHeap) :=
  if md f = 0 then
    match expL (exp1 h expDepth) args with
    | some (as, ids) =>
      if canFrz h ids then
        match pureRes (call f as []) with
        | some r => some (r, if flat r then h else frzAll h ids)
        | none => none
      else none
    | none => none
  else
    match call f args h with
    | some (r, h') => if below h.length r = true ∧ GcOk h.length h h' then some (r, h'.take h.length) else some (r, h')
    | none => none

/-! ### Regions -/
def aput (env : Env) (dst : Option Tmp) (v : AV) : Env :=
  match dst with
  | some d => env.set d v
  | none => env
/-- Is the operation carried out? -/
def aguard (ops : Array Oper) (env : Env) (o : Oper) : Option Bool :=
  match o.guard with
  | none => some true
  | some (j, want) => match (ops[j]?).bind (·.dst) with
    | none => some false
    | some d => match env.getD d .und with
      | .unk => none
      | .val (.bool b) => some (b == want)
      | _ => some false
noncomputable def astep (P : Program) (md : FuncId → Nat) (call : CallF) (env : Env) (h : AHeap) (o : Oper) : Option (AV × AHeap) :=
  match aop P env h o with
  | some (.value v h') => some (v, h')
  | some (.call f args h') => doCall md call f args h'
  | none => none
noncomputable def runOps (P : Program) (md : FuncId → Nat) (call : CallF) (ops : Array Oper) : List Oper → Env → AHeap → Option (Env × AHeap)
  | [], env, h => some (env, h)
  | o :: r, env, h =>
    match aguard ops env o with
    | some true => match astep P md call env h o with
      | some (v, h') => runOps P md call ops r (aput env o.dst v) h'
      | none => none
    | some false => runOps P md call ops r (aput env o.dst .und) h
    | none => none
/-- May the operation turn the abstract memory, or hang on it? -/
def effOp (P : Program) (md : FuncId → Nat) (o : Oper) : Bool :=
  match o.op with
  | .alloc _ | .box .. | .store .. | .makeSlice .. => true
  | .convert s d _ => (match P.underlying s, P.underlying d with | some .string, some (.slice _) => true | _, _ => false)
  | .call c => match c.callee with
    | .value (.func f) => md f == 1
    | .value _ => true
    | .builtin .append | .builtin .copy => true
    | _ => false
  | _ => false
def readOp (P : Program) (o : Oper) : Bool :=
  match o.op with
  | .load .. => true
  | .slice t .. => (tarr P t).isSome
  | .convert s d _ => (match P.underlying s, P.underlying d with | some (.slice _), some .string => true | _, _ => false)
  | .call c => match c.callee with
    | .value _ => true
    | .builtin .append | .builtin .copy => true
    | _ => false
  | _ => false
open Classical in
/-- In an order that Go leaves open: what may not turn the memory does not. -/
noncomputable def runDraw (P : Program) (md : FuncId → Nat) (call : CallF) (ops : Array Oper) : List Oper → Env → AHeap → Option (Env × AHeap)
  | [], env, h => some (env, h)
  | o :: r, env, h =>
    match aguard ops env o with
    | some true => match astep P md call env h o with
      | some (v, h') => if effOp P md o = true ∨ h' = h then runDraw P md call ops r (aput env o.dst v) h' else none
      | none => none
    | some false => runDraw P md call ops r (aput env o.dst .und) h
    | none => none
/-- A load may stand in no order with what turns the memory, if it answers the same in every memory of the region. -/
def isLoad (o : Oper) : Bool := match o.op with | .load .. => true | _ => false
/-- May the operation be carried out beside the loads so far (pd), the memories so far being hs? -/
def looseOk (P : Program) (md : FuncId → Nat) (o : Oper) (env : Env) (h : AHeap) (v : AV) (h' : AHeap) (hs : List AHeap) (pd : List (Env × Oper × AV)) : Prop :=
  (effOp P md o = true ∨ h' = h) ∧ (effOp P md o = true → ∀ p ∈ pd, aop P p.1 h' p.2.1 = some (.value p.2.2 h')) ∧ (isLoad o = true → ∀ g ∈ hs, aop P env g o = some (.value v g))
open Classical in
noncomputable def runLoose (P : Program) (md : FuncId → Nat) (call : CallF) (ops : Array Oper) : List Oper → Env → AHeap → List AHeap → List (Env × Oper × AV) → Option (Env × AHeap)
  | [], env, h, _, _ => some (env, h)
  | o :: r, env, h, hs, pd =>
    match aguard ops env o with
    | some true => match astep P md call env h o with
      | some (v, h') => if looseOk P md o env h v h' hs pd then runLoose P md call ops r (aput env o.dst v) h' (if effOp P md o then h' :: hs else hs) (if isLoad o then (env, o, v) :: pd else pd) else none
      | none => none
    | some false => runLoose P md call ops r (aput env o.dst .und) h hs pd
    | none => none

/-! ### Code -/
inductive Ex where
  | norm
  | exit (id : Nat)
  | ret
  deriving DecidableEq
abbrev RunR := Option (Ex × Env × AHeap)
def seqK (r : RunR) (k : Env → AHeap → RunR) : RunR :=
  match r with
  | some (.norm, e, h) => k e h
  | r => r
def blockK (id : Nat) (r : RunR) : RunR :=
  match r with
  | some (.exit i, e, h) => if i = id then some (.norm, e, h) else some (.exit i, e, h)
  | r => r
def normK (r : Option (Env × AHeap)) : RunR := r.map fun p => (.norm, p.1, p.2)
def iter (f : Env → AHeap → RunR) : Nat → Env → AHeap → RunR
  | 0, _, _ => none
  | n + 1, e, h => seqK (f e h) (iter f n)
def condK (c : AV) (a b : RunR) : RunR :=
  match c with
  | .val (.bool t) => if t then a else b
  | _ => none
/-- Slots that are read no more are forgotten. -/
def mask : List Bool → Env → Env
  | true :: m, x :: e => x :: mask m e
  | false :: m, _ :: e => .unk :: mask m e
  | _, e => e
def maskR (m : List Bool) (r : RunR) : RunR := r.map fun p => (p.1, mask m p.2.1, p.2.2)
/-- Is the region of this number one whose loads stand in no order? -/
def looseAt (M : Nat → List Bool) (id : Nat) : Bool := !(M (100000 + id)).isEmpty
/-- 'M 0': the slots that outlive a region; 'M (id + 1)': those that outlive a round of the loop in block id; 'm': those of the loop at hand. -/
noncomputable def run (P : Program) (md : FuncId → Nat) (M : Nat → List Bool) (call : CallF) (n : Nat) : Code → List Bool → Env → AHeap → RunR
  | .skip, _, e, h => some (.norm, e, h)
  | .region id ops d, _, e, h => maskR (M 0) (normK (if d then (if looseAt M id then runLoose P md call ops ops.toList e h [h] [] else runDraw P md call ops ops.toList e h) else runOps P md call ops ops.toList e h))
  | .seq a b, m, e, h => seqK (run P md M call n a m e h) fun e h => run P md M call n b m e h
  | .cond c a b, m, e, h => condK (oval e c) (run P md M call n a m e h) (run P md M call n b m e h)
  | .block id c, _, e, h => blockK id (run P md M call n c (M (id + 1)) e h)
  | .loop c, m, e, h => maskR m (iter (fun e h => run P md M call n c m (mask m e) h) n e h)
  | .exit id, _, e, h => some (.exit id, e, h)
  | .ret, _, e, h => some (.ret, e, h)
  | _, _, _, _ => none

/-! ### Functions -/
def aresults (P : Program) (rs : List ResultVar) (env : Env) (h : AHeap) : Option (List AV) :=
  match rs with
  | [] => some []
  | .tmp t :: r => (aresults P r env h).map (env.getD t .und :: ·)
  | .cell a t :: r => match aload P t h (env.getD a .und), aresults P r env h with
    | some v, some l => some (v :: l)
    | _, _ => none
def tupOf : List AV → AV
  | [v] => v
  | l => .tup l
/-- Are two operations of a region ordered by its edges? -/
def ordered (b : Array Nat) (i j : Nat) : Bool := (b.getD (max i j) 0).testBit (min i j)
def tmpsOf (ops : Array Oper) (o : Oper) : List Tmp := o.looksAt ops ++ o.dst.toList
/-- 'L': loads may stand in no order with what turns the memory. -/
def drawOk1 (P : Program) (md : FuncId → Nat) (ops : Array Oper) (L : Bool) : Bool :=
  let b := Region.before ops
  let l := ops.toList.zipIdx
  !Region.departs ops &&
  (l.all fun (o, i) => o.after.all fun e => e.on < i) &&
  (l.all fun (o, i) => (tmpsOf ops o).all fun t => l.all fun (o', j) => i == j || o'.dst != some t || ordered b i j) &&
  (l.all fun (o, i) => !effOp P md o || l.all fun (o', j) => i == j || !(effOp P md o' || readOp P o' && !(L && isLoad o')) || ordered b i j)
def drawsOk (P : Program) (md : FuncId → Nat) (M : Nat → List Bool) : Code → Bool
  | .region id ops d => !d || drawOk1 P md ops (looseAt M id)
  | .seq a b => drawsOk P md M a && drawsOk P md M b
  | .cond _ a b => drawsOk P md M a && drawsOk P md M b
  | .block _ c => drawsOk P md M c
  | .loop c => drawsOk P md M c
  | _ => true
def fnOk (P : Program) (md : FuncId → Nat) (fg : FuncId → Nat → List Bool) (f : FuncId) : Bool :=
  match P.funcs[f]? with
  | some fn => match fn.body with
    | some c => drawsOk P md (fg f) c
    | none => false
  | none => false
def env0 (n : Nat) (args : List AV) : Env := args ++ List.replicate (n - args.length) .unk
def finish (P : Program) (rs : List ResultVar) (r : RunR) : Option (AV × AHeap) :=
  match r with
  | some (.norm, e, h) => (aresults P rs e h).map fun l => (tupOf l, h)
  | some (.ret, e, h) => (aresults P rs e h).map fun l => (tupOf l, h)
  | _ => none
noncomputable def acall (P : Program) (md : FuncId → Nat) (fg : FuncId → Nat → List Bool) : Nat → CallF
  | 0, _, _, _ => none
  | n + 1, f, args, h =>
    if fnOk P md fg f then
      match P.funcs[f]? with
      | some fn => match fn.body with
        | some c => finish P fn.results.toList (run P md (fg f) (acall P md fg n) n c [] (env0 fn.ntmps args) h)
        | none => none
      | none => none
    else none

/-! ### Without a bound -/
open Classical in
noncomputable def lim {α : Type} (s : Nat → Option α) : Option α :=
  if h : ∃ r n, ∀ m, n ≤ m → s m = some r then some h.choose else none
noncomputable def aval (P : Program) (md : FuncId → Nat) (fg : FuncId → Nat → List Bool) (f : FuncId) (args : List AV) (h : AHeap) : Option (AV × AHeap) := lim fun n => acall P md fg n f args h
noncomputable def arun (P : Program) (md : FuncId → Nat) (fg : FuncId → Nat → List Bool) (M : Nat → List Bool) (c : Code) (m : List Bool) (e : Env) (h : AHeap) : RunR := lim fun n => run P md M (acall P md fg n) n c m e h
/-- What a function answers that is called with values alone. -/
noncomputable def pcall (P : Program) (md : FuncId → Nat) (fg : FuncId → Nat → List Bool) (f : FuncId) (args : List AV) : Option AV := pureRes (aval P md fg f args [])
end Go.Ab
