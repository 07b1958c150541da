/- How the abstract machine's operations on slices, addresses and memory are reckoned: rewrite rules. -/
import Derived.Test.YtlpkfeplbcadbaaAb19
namespace Go.Ab
/-! ### Parts of a function's body, by number -/
def regIn : Code → Nat → Option Code
  | .region i ops d, n => if i = n then some (.region i ops d) else none
  | .seq a b, n => (regIn a n).or (regIn b n)
  | .cond _ a b, n => (regIn a n).or (regIn b n)
  | .block _ c, n => regIn c n
  | .loop c, n => regIn c n
  | _, _ => none
def loopIn : Code → Nat → Option Code
  | .block i (.loop c), n => if i = n then some c else loopIn c n
  | .seq a b, n => (loopIn a n).or (loopIn b n)
  | .cond _ a b, n => (loopIn a n).or (loopIn b n)
  | .block _ c, n => loopIn c n
  | .loop c, n => loopIn c n
  | _, _ => none
/-- The region of this number. -/
def regOf (f : Func) (n : Nat) : Code := ((f.body.bind fun c => regIn c n)).getD .skip
/-- A round of the loop in the block of this number. -/
def loopOf (f : Func) (n : Nat) : Code := ((f.body.bind fun c => loopIn c n)).getD .skip
section
variable {P : Program} {md : FuncId → Nat} {fg : FuncId → Nat → List Bool} {M : Nat → List Bool} {m : List Bool} {env : Env} {h : AHeap}
/-- A loop whose round ends the loop. -/
theorem aloop_out {c : Code} {m : List Bool} {e e' : Env} {h h' : AHeap} {x : Ex} (hx : x ≠ .norm) (r : arun P md fg M c m (mask m e) h = some (x, e', h')) : aloop P md fg M c m e h = some (x, e', h') := by
  rw [aloop_eq, r]; cases x with
  | norm => exact absurd rfl hx
  | exit _ => rfl
  | ret => rfl
/-- A round, and the loop again. -/
theorem aloop_more {c : Code} {m : List Bool} {e e' : Env} {h h' : AHeap} {R : RunR} (r : arun P md fg M c m (mask m e) h = some (.norm, e', h')) (k : aloop P md fg M c m (mask m e') h' = R) : aloop P md fg M c m e h = R := by
  rw [aloop_eq, r, seqK_norm, aloop_mask, k]

/-! ### Memory -/
theorem hget_zero (o : AObj) (r : AHeap) : hget (o :: r) 0 = o := rfl
theorem hget_succ (o : AObj) (r : AHeap) (n : Nat) : hget (o :: r) (n + 1) = hget r n := rfl
def lvars (a : Option Bool) (k off : Nat) : AObj → Option AV
  | .vars cs => cut a k cs off
  | _ => none
theorem aload_ptr (t : TypeId) (id off : Nat) : aload P t h (.ptr id off) = lvars (tagg P t) (tsize P t) off (hget h id) := by
  simp only [aload, lvars]; cases hget h id <;> rfl
theorem aload_sptr (t : TypeId) (cs : List AV) (off : Nat) : aload P t h (.sptr cs off) = cut (tagg P t) (tsize P t) cs off := rfl
def leptr (a : Option Bool) (s : Nat) (g k idx off : Nat) : AObj → Option AV
  | .arr k' es g' => if k = k' ∧ g = g' then (match es[idx]? with | some e => cut a s e.cells off | none => none) else none
  | .frz k' es g' => if k = k' ∧ g = g' then (match es[idx]? with | some e => cut a s e.cells off | none => none) else none
  | .vars cs => if k = 1 ∧ g = 0 ∧ off = 0 ∧ a = some false then cs[idx]? else none
  | .dead => none
theorem aload_eptr (t : TypeId) (id g k idx off : Nat) : aload P t h (.eptr id g k idx off) = leptr (tagg P t) (tsize P t) g k idx off (hget h id) := by
  simp only [aload, leptr]; cases hget h id <;> rfl
theorem leptr_arr (a : Option Bool) (s g k idx off : Nat) (es : List AV) : leptr a s g k idx off (.arr k es g) = (es[idx]?).bind fun e => cut a s e.cells off := by
  simp only [leptr, and_self, if_true]; cases es[idx]? <;> rfl
theorem leptr_frz (a : Option Bool) (s g k idx off : Nat) (es : List AV) : leptr a s g k idx off (.frz k es g) = (es[idx]?).bind fun e => cut a s e.cells off := by
  simp only [leptr, and_self, if_true]; cases es[idx]? <;> rfl
theorem lvars_vars (a : Option Bool) (k off : Nat) (cs : List AV) : lvars a k off (.vars cs) = cut a k cs off := rfl
theorem cut_cell (k : Nat) (cs : List AV) (off : Nat) : cut (some false) k cs off = cs[off]? := rfl
theorem cut_agg (k : Nat) (cs : List AV) (off : Nat) : cut (some true) k cs off = if off + k ≤ cs.length then some (.agg ((cs.drop off).take k)) else none := rfl
/-- May it be laid into a place of this size? -/
def fits (k : Nat) (x : AV) : Bool := decide (x.cells.length = k) && decide (0 < k) && okVal x
theorem fits_val (v : Value) : fits 1 (.val v) = okVal (.val v) := by simp [fits, AV.cells]
theorem fits_str (s : ByteArray) : fits 1 (.val (.string s)) = true := rfl
theorem fits_int (k : IntKind) (n : Int) : fits 1 (.val (.int k n)) = true := rfl
theorem fits_bool (b : Bool) : fits 1 (.val (.bool b)) = true := rfl
theorem fits_slc (f : Bool) (es : List AV) : fits 1 (.slc f es) = true := rfl
theorem fits_arr (id off len g k : Nat) : fits 1 (.arr id off len g k) = true := rfl
theorem fits_ptr (id off : Nat) : fits 1 (.ptr id off) = true := rfl
theorem fits_nil : fits 1 (.val (.pointer none)) = true := rfl
theorem fits_agg (k : Nat) (cs : List AV) : fits k (.agg cs) = (decide (cs.length = k) && decide (0 < k)) := Bool.and_true _
def svars (ok : Bool) (vs : List AV) (off : Nat) (h : AHeap) (id : Nat) : AObj → Option AHeap
  | .vars cs => if ok = true ∧ off + vs.length ≤ cs.length then some (h.set id (.vars (putAt cs off vs))) else none
  | _ => none
theorem fits_iff (k : Nat) (x : AV) : (x.cells.length = k ∧ 0 < k ∧ okVal x = true) ↔ fits k x = true := by simp [fits, and_assoc]
theorem astore_ptr (t : TypeId) (id off : Nat) (x : AV) : astore P t h (.ptr id off) x = svars (fits (tsize P t) x) x.cells off h id (hget h id) := by
  unfold astore
  by_cases hf : fits (tsize P t) x = true
  · rw [if_pos ((fits_iff _ _).2 hf), hf]
    dsimp only
    cases hget h id <;> simp [svars]
  · rw [if_neg (fun e => hf ((fits_iff _ _).1 e))]
    rw [Bool.not_eq_true] at hf
    rw [hf]
    cases hget h id <;> simp [svars]
theorem svars_vars (vs : List AV) (off : Nat) (id : Nat) (cs : List AV) : svars true vs off h id (.vars cs) = if off + vs.length ≤ cs.length then some (h.set id (.vars (putAt cs off vs))) else none := by simp [svars]
def septr (ok : Bool) (s : Nat) (x : AV) (g k idx off : Nat) (h : AHeap) (id : Nat) : AObj → Option AHeap
  | .arr k' es g' =>
    if ok = true ∧ k = k' ∧ g = g' then
      match es[idx]? with
      | some e => if off + x.cells.length ≤ e.cells.length then some (h.set id (.arr k (es.set idx (if x.cells.length = e.cells.length then x else patch e off x.cells)) g)) else none
      | none => none
    else none
  | .vars cs => if ok = true ∧ k = 1 ∧ g = 0 ∧ off = 0 ∧ idx < cs.length ∧ s = 1 then some (h.set id (.vars (putAt cs idx x.cells))) else none
  | _ => none
theorem astore_eptr (t : TypeId) (id g k idx off : Nat) (x : AV) : astore P t h (.eptr id g k idx off) x = septr (fits (tsize P t) x) (tsize P t) x g k idx off h id (hget h id) := by
  unfold astore
  by_cases hf : fits (tsize P t) x = true
  · rw [if_pos ((fits_iff _ _).2 hf), hf]
    dsimp only
    cases hget h id with
    | arr k' es g' =>
      simp only [septr, true_and]
      split
      · cases es[idx]? <;> rfl
      · rfl
    | vars cs => simp only [septr, true_and]
    | dead => rfl
    | frz k' es g' => rfl
  · rw [if_neg (fun e => hf ((fits_iff _ _).1 e))]
    rw [Bool.not_eq_true] at hf
    rw [hf]
    cases hget h id <;> simp [septr]
/-- An element of one cell. -/
theorem septr_cell (s : Nat) (x : AV) (g idx : Nat) (id : Nat) (es : List AV) {e : AV} (he : es[idx]? = some e) (hx : x.cells.length = 1) (hc : e.cells.length = 1) : septr true s x g 1 idx 0 h id (.arr 1 es g) = some (h.set id (.arr 1 (es.set idx x) g)) := by
  simp [septr, he, hx, hc]

/-! ### Fields, elements -/
def faT (f : Option (Nat × Nat × Bool)) (x : AV) : Option AV :=
  match f with
  | some (fo, _, _) =>
    match x with
    | .ptr id off => some (.ptr id (off + fo))
    | .eptr id g k idx off => some (.eptr id g k idx (off + fo))
    | .sptr cs off => some (.sptr cs (off + fo))
    | _ => none
  | none => none
theorem afieldAddr_eq (s : TypeId) (x : AV) (f : Nat) : afieldAddr P s x f = faT (tfield P s f) x := rfl
theorem faT_ptr (fo a : Nat) (b : Bool) (id off : Nat) : faT (some (fo, a, b)) (.ptr id off) = some (.ptr id (off + fo)) := rfl
theorem faT_sptr (fo a : Nat) (b : Bool) (cs : List AV) (off : Nat) : faT (some (fo, a, b)) (.sptr cs off) = some (.sptr cs (off + fo)) := rfl
theorem faT_eptr (fo a : Nat) (b : Bool) (id g k idx off : Nat) : faT (some (fo, a, b)) (.eptr id g k idx off) = some (.eptr id g k idx (off + fo)) := rfl
def fT (f : Option (Nat × Nat × Bool)) (x : AV) : Option AV :=
  match f, x with
  | some (fo, k, g), .agg cs => cut (some g) k cs fo
  | _, _ => none
theorem afield_eq (s : TypeId) (x : AV) (f : Nat) : afield P s x f = fT (tfield P s f) x := rfl
theorem fT_agg (fo k : Nat) (g : Bool) (cs : List AV) : fT (some (fo, k, g)) (.agg cs) = cut (some g) k cs fo := rfl
def ixK (ks : Nat) : Option AV → Option AV
  | some v => if v.cells.length = ks then some (.sptr v.cells 0) else none
  | none => none
theorem ixK_some (ks : Nat) (v : AV) : ixK ks (some v) = if v.cells.length = ks then some (.sptr v.cells 0) else none := rfl
def ixT (s : Nat) (a : Option (Nat × TypeId)) (b : Option (Nat × Nat × AV)) (x : AV) (n : Int) : Option AV :=
  match a, b with
  | some (len, _), _ =>
    if 0 ≤ n ∧ n < len ∧ 0 < s then
      match x with
      | .ptr id off => some (.ptr id (off + n.toNat * s))
      | .eptr id g k idx off => some (.eptr id g k idx (off + n.toNat * s))
      | .sptr cs off => some (.sptr cs (off + n.toNat * s))
      | _ => none
    else none
  | none, some (ks, _, _) =>
    match x with
    | .slc _ es => if 0 ≤ n then ixK ks es[n.toNat]? else none
    | .arr id off len g k => if 0 ≤ n ∧ n < len ∧ k = ks then some (.eptr id g k (off + n.toNat) 0) else none
    | _ => none
  | none, none => none
def tsz (P : Program) (a : Option (Nat × TypeId)) : Nat := match a with | some (_, e) => tsize P e | none => 0
theorem tsz_some (n : Nat) (e : TypeId) : tsz P (some (n, e)) = tsize P e := rfl
theorem tsz_none : tsz P none = 0 := rfl
theorem aindexAddr_eq (t : TypeId) (x : AV) (k : IntKind) (n : Int) : aindexAddr P t x (.val (.int k n)) = ixT (tsz P (tarr P t)) (tarr P t) (tslice P t) x n := by
  unfold aindexAddr
  simp only [asInt]
  cases tarr P t with
  | some p => rfl
  | none =>
    cases tslice P t with
    | none => rfl
    | some q =>
      cases x <;> rfl
theorem ixT_slc (s ks b : Nat) (z : AV) (f : Bool) (es : List AV) (n : Int) : ixT s none (some (ks, b, z)) (.slc f es) n = if 0 ≤ n then ixK ks es[n.toNat]? else none := rfl
theorem ixT_arr (s ks b : Nat) (z : AV) (id off len g k : Nat) (n : Int) : ixT s none (some (ks, b, z)) (.arr id off len g k) n = if 0 ≤ n ∧ n < len ∧ k = ks then some (.eptr id g k (off + n.toNat) 0) else none := rfl
theorem ixT_aptr (s len : Nat) (e : TypeId) (b : Option (Nat × Nat × AV)) (id off : Nat) (n : Int) : ixT s (some (len, e)) b (.ptr id off) n = if 0 ≤ n ∧ n < len ∧ 0 < s then some (.ptr id (off + n.toNat * s)) else none := rfl
theorem ixT_asptr (s len : Nat) (e : TypeId) (b : Option (Nat × Nat × AV)) (cs : List AV) (off : Nat) (n : Int) : ixT s (some (len, e)) b (.sptr cs off) n = if 0 ≤ n ∧ n < len ∧ 0 < s then some (.sptr cs (off + n.toNat * s)) else none := rfl
def strIx (b : Bool) (s : ByteArray) (n : Int) : Option AV := if b = true ∧ 0 ≤ n then (s.data.toList[n.toNat]?).map byteVal else none
theorem aindex_str (t : TypeId) (s : ByteArray) (k : IntKind) (n : Int) : aindex P t (.val (.string s)) (.val (.int k n)) = strIx (isStrT P t) s n := rfl
theorem strIx_true (s : ByteArray) (n : Int) : strIx true s n = if 0 ≤ n then (s.data.toList[n.toNat]?).map byteVal else none := by simp [strIx]
def arrIx (P : Program) (cs : List AV) (n : Int) (a : Option (Nat × TypeId)) : Option AV :=
  match a with
  | some (len, e) => if 0 ≤ n ∧ n < len ∧ 0 < tsize P e then cut (tagg P e) (tsize P e) cs (n.toNat * tsize P e) else none
  | none => none
theorem aindex_agg (t : TypeId) (cs : List AV) (k : IntKind) (n : Int) : aindex P t (.agg cs) (.val (.int k n)) = arrIx P cs n (tarr P t) := rfl
theorem arrIx_some (cs : List AV) (n : Int) (len : Nat) (e : TypeId) : arrIx P cs n (some (len, e)) = if 0 ≤ n ∧ n < len ∧ 0 < tsize P e then cut (tagg P e) (tsize P e) cs (n.toNat * tsize P e) else none := rfl
theorem byteVal_eq (b : UInt8) : byteVal b = .val (.int .u8 b.toNat) := rfl
theorem cells_val (v : Value) : (AV.val v).cells = [.val v] := rfl
theorem cells_agg (cs : List AV) : (AV.agg cs).cells = cs := rfl
theorem cells_slc (f : Bool) (es : List AV) : (AV.slc f es).cells = [.slc f es] := rfl
theorem cells_arr (id off len g k : Nat) : (AV.arr id off len g k).cells = [.arr id off len g k] := rfl
theorem cells_ptr (id off : Nat) : (AV.ptr id off).cells = [.ptr id off] := rfl

/-! ### Slice expressions -/
theorem abound_none (d : Nat) : abound d none = some d := rfl
theorem abound_int (d : Nat) (k : IntKind) (n : Int) : abound d (some (.val (.int k n))) = if 0 ≤ n then some n.toNat else none := rfl
def slS (b : Bool) (s : ByteArray) (lo hi : Option Nat) : Option AV :=
  match lo, hi with
  | some l, some h => if b = true ∧ l ≤ h ∧ h ≤ s.size then some (.val (.string (s.extract l h))) else none
  | _, _ => none
theorem asliceAt_str (t : TypeId) (s : ByteArray) (lo hi : Option AV) : asliceAt P t h (.val (.string s)) lo hi none = slS (isStrT P t) s (abound 0 lo) (abound s.size hi) := by
  simp only [asliceAt, aslice, slS]
  cases abound 0 lo <;> cases abound s.size hi <;> rfl
theorem slS_some (s : ByteArray) (l h : Nat) : slS true s (some l) (some h) = if l ≤ h ∧ h ≤ s.size then some (.val (.string (s.extract l h))) else none := by simp [slS]
def slL (T : Option (Nat × Nat × AV)) (full : Bool) (es : List AV) (lo hi : Option Nat) : Option AV :=
  match T, lo, hi with
  | some (ks, _, _), some l, some h => if l ≤ h ∧ h ≤ es.length ∧ headOk ks es then some (.slc (full && h == es.length) ((es.drop l).take (h - l))) else none
  | _, _, _ => none
theorem asliceAt_slc (t : TypeId) (full : Bool) (es : List AV) (lo hi : Option AV) : asliceAt P t h (.slc full es) lo hi none = slL (tslice P t) full es (abound 0 lo) (abound es.length hi) := by
  simp only [asliceAt, aslice, slL]
  cases tslice P t <;> cases abound 0 lo <;> cases abound es.length hi <;> rfl
theorem slL_some (ks b : Nat) (z : AV) (full : Bool) (es : List AV) (l h : Nat) : slL (some (ks, b, z)) full es (some l) (some h) = if l ≤ h ∧ h ≤ es.length ∧ headOk ks es then some (.slc (full && h == es.length) ((es.drop l).take (h - l))) else none := rfl
def slA (T : Option (Nat × Nat × AV)) (id off len g k : Nat) (lo hi : Option Nat) : Option AV :=
  match T, lo, hi with
  | some (ks, _, _), some l, some h => if l ≤ h ∧ h ≤ len ∧ k = ks then some (.arr id (off + l) (h - l) g k) else none
  | _, _, _ => none
theorem asliceAt_arr (t : TypeId) (id off len g k : Nat) (lo hi : Option AV) : asliceAt P t h (.arr id off len g k) lo hi none = slA (tslice P t) id off len g k (abound 0 lo) (abound len hi) := by
  simp only [asliceAt, aslice, slA]
  cases tslice P t <;> cases abound 0 lo <;> cases abound len hi <;> rfl
theorem slA_some (ks b : Nat) (z : AV) (id off len g k : Nat) (l h : Nat) : slA (some (ks, b, z)) id off len g k (some l) (some h) = if l ≤ h ∧ h ≤ len ∧ k = ks then some (.arr id (off + l) (h - l) g k) else none := rfl

/-! ### What is built -/
def bS (T : Option (Nat × Nat × AV)) (len : Nat) (parts : List (Nat × AV)) : Option AV :=
  match T with
  | some (k, _, z) => if len * k ≤ 2 ^ 24 then (afillS k (List.replicate len z) parts).map (.slc true) else none
  | none => none
theorem abuildSlice_eq (t : TypeId) (len : Nat) (parts : List (Nat × AV)) : abuildSlice P t len parts = bS (tslice P t) len parts := rfl
theorem bS_some (k b : Nat) (z : AV) (len : Nat) (parts : List (Nat × AV)) : bS (some (k, b, z)) len parts = if len * k ≤ 2 ^ 24 then (afillS k (List.replicate len z) parts).map (.slc true) else none := rfl
theorem afillS_nil (k : Nat) (es : List AV) : afillS k es [] = some es := rfl
theorem afillS_cons (k : Nat) (es : List AV) (i : Nat) (v : AV) (r : List (Nat × AV)) : afillS k es ((i, v) :: r) = if v.cells.length = k ∧ okVal v = true ∧ i < es.length then afillS k (es.set i v) r else none := rfl
theorem okVal_int (k : IntKind) (n : Int) : okVal (.val (.int k n)) = true := rfl
theorem okVal_str (s : ByteArray) : okVal (.val (.string s)) = true := rfl
theorem okVal_bool (b : Bool) : okVal (.val (.bool b)) = true := rfl
theorem okVal_slc (f : Bool) (es : List AV) : okVal (.slc f es) = true := rfl
theorem okVal_agg (cs : List AV) : okVal (.agg cs) = true := rfl
theorem okVal_ptr (id off : Nat) : okVal (.ptr id off) = true := rfl
theorem okVal_arr (id off len g k : Nat) : okVal (.arr id off len g k) = true := rfl
def bT (z : Option AV) (pl : Option (List (Nat × Nat))) (parts : List (Nat × AV)) : Option AV :=
  match z, pl with
  | some z, some pl => (afill (fun i => pl[i]?) z.cells parts).map .agg
  | _, _ => none
theorem abuild_struct (t : TypeId) (parts : List (Nat × AV)) {pl : List (Nat × Nat)} (hp : tplaces P t = some pl) : abuild P t parts = bT (tzero P t) (some pl) parts := by
  simp only [abuild, hp, bT]; cases tzero P t <;> rfl
theorem bT_some (z : AV) (pl : List (Nat × Nat)) (parts : List (Nat × AV)) : bT (some z) (some pl) parts = (afill (fun i => pl[i]?) z.cells parts).map .agg := rfl
theorem afill_nil (place : Nat → Option (Nat × Nat)) (cs : List AV) : afill place cs [] = some cs := rfl
def fillK (place : Nat → Option (Nat × Nat)) (cs : List AV) (v : AV) (r : List (Nat × AV)) (p : Option (Nat × Nat)) : Option (List AV) :=
  match p with
  | some (off, size) => if v.cells.length = size ∧ okVal v = true ∧ off + size ≤ cs.length then afill place (putAt cs off v.cells) r else none
  | none => none
theorem afill_cons (place : Nat → Option (Nat × Nat)) (cs : List AV) (i : Nat) (v : AV) (r : List (Nat × AV)) : afill place cs ((i, v) :: r) = fillK place cs v r (place i) := rfl
theorem fillK_some (place : Nat → Option (Nat × Nat)) (cs : List AV) (v : AV) (r : List (Nat × AV)) (off size : Nat) : fillK place cs v r (some (off, size)) = if v.cells.length = size ∧ okVal v = true ∧ off + size ≤ cs.length then afill place (putAt cs off v.cells) r else none := rfl
theorem putAt_nil (cs : List AV) (off : Nat) : putAt cs off [] = cs := rfl
theorem putAt_cons (cs : List AV) (off : Nat) (v : AV) (r : List AV) : putAt cs off (v :: r) = putAt (cs.set off v) (off + 1) r := rfl

/-! ### Go's own functions -/
theorem abuiltin_len (a : TypeId) (x : AV) : abuiltin P .len #[a] h [x] = (alen P a x).map (·, h) := rfl
theorem abuiltin_append (a b : TypeId) (s x : AV) : abuiltin P .append #[a, b] h [s, x] = if isSeqT P b = true then aappend P a h s x else none := by
  simp [abuiltin, argT]
theorem abuiltin_copy (a b : TypeId) (s x : AV) : abuiltin P .copy #[a, b] h [s, x] = acopy P a h s x := rfl
theorem abuiltin_min (ts : Array TypeId) (x : AV) (r : List AV) : abuiltin P .min ts h (x :: r) = (afold amin2 x r).map (·, h) := by
  simp [abuiltin]
theorem abuiltin_max (ts : Array TypeId) (x : AV) (r : List AV) : abuiltin P .max ts h (x :: r) = (afold amax2 x r).map (·, h) := by
  simp [abuiltin]
theorem amin2_int (k k' : IntKind) (x y : Int) : amin2 (.val (.int k x)) (.val (.int k' y)) = some (.val (.int k (if y < x then y else x))) := rfl
theorem amax2_int (k k' : IntKind) (x y : Int) : amax2 (.val (.int k x)) (.val (.int k' y)) = some (.val (.int k (if x < y then y else x))) := rfl
theorem afold_nil (f : AV → AV → Option AV) (x : AV) : afold f x [] = some x := rfl
theorem afold_cons (f : AV → AV → Option AV) (x y : AV) (r : List AV) : afold f x (y :: r) = (f x y).bind fun z => afold f z r := by
  simp only [afold]; cases f x y <;> rfl
def lenT (a : Option (Nat × TypeId)) (b : Option (Nat × Nat × AV)) (x : AV) : Option AV :=
  match a, b with
  | some (n, _), _ => some (.int n)
  | none, some _ => (slen x).map fun n => .int n
  | none, none => none
theorem alen_str (t : TypeId) (s : ByteArray) : alen P t (.val (.string s)) = if isStrT P t = true then some (.int s.size) else none := rfl
theorem alen_slc (t : TypeId) (f : Bool) (es : List AV) : alen P t (.slc f es) = lenT (tarr P t) (tslice P t) (.slc f es) := rfl
theorem alen_arr (t : TypeId) (id off len g k : Nat) : alen P t (.arr id off len g k) = lenT (tarr P t) (tslice P t) (.arr id off len g k) := rfl
theorem lenT_slc (p : Nat × Nat × AV) (f : Bool) (es : List AV) : lenT none (some p) (.slc f es) = some (.int es.length) := rfl
theorem lenT_arr (p : Nat × Nat × AV) (id off len g k : Nat) : lenT none (some p) (.arr id off len g k) = some (.int len) := rfl
theorem alen_array (t : TypeId) (x : AV) {n : Nat} {e : TypeId} (ht : tarr P t = some (n, e)) (hx : ∀ s, x ≠ .val (.string s)) : alen P t x = some (.int n) := by
  unfold alen
  split
  · exact absurd rfl (hx _)
  · simp [ht]
def appT (T : Option (Nat × Nat × AV)) (h : AHeap) (s : AV) (xs : Option (List AV)) : Option (AV × AHeap) :=
  match T with
  | none => none
  | some (ks, bytes, _) => match xs with
    | none => none
    | some xs =>
      if headOk ks xs = false then none else
      match s with
      | .slc true es =>
        if headOk ks es = false then none
        else if xs = [] then some (.slc true es, h)
        else if (es.length + xs.length) * bytes ≤ 2 ^ 47 then
          some (.arr h.length 0 (es.length + xs.length) 0 ks, h ++ [.arr ks (es ++ xs) 0])
        else none
      | .arr id off len g k => match hget h id with
        | .arr k' es g' =>
          if k = k' ∧ g = g' ∧ off + len ≤ es.length ∧ k = ks ∧ (len + xs.length) * bytes ≤ 2 ^ 47 then
            some (.arr id 0 (len + xs.length) (g + 1) k, h.set id (.arr k ((es.drop off).take len ++ xs) (g + 1)))
          else none
        | _ => none
      | _ => none
theorem aappend_eq (t : TypeId) (s x : AV) : aappend P t h s x = appT (tslice P t) h s (aelems h x) := by
  unfold aappend appT
  cases tslice P t with
  | none => rfl
  | some p => cases aelems h x <;> rfl
theorem appT_slc (ks b : Nat) (z : AV) (es xs : List AV) (hk : headOk ks xs = true) (he : headOk ks es = true) (hx : xs ≠ []) (hb : (es.length + xs.length) * b ≤ 140737488355328) :
    appT (some (ks, b, z)) h (.slc true es) (some xs) = some (.arr h.length 0 (es.length + xs.length) 0 ks, h ++ [.arr ks (es ++ xs) 0]) := by
  have : (es.length + xs.length) * b ≤ 2 ^ 47 := hb
  simp [appT, hk, he, hx, this]
theorem appT_slc0 (ks b : Nat) (z : AV) (es : List AV) (he : headOk ks es = true) : appT (some (ks, b, z)) h (.slc true es) (some []) = some (.slc true es, h) := by
  have h0 : headOk ks [] = true := rfl
  simp only [appT, h0, he, if_true, Bool.true_eq_false, if_false]
theorem appT_arr (ks b : Nat) (z : AV) (id len g : Nat) (es xs : List AV) (ho : hget h id = .arr ks es g) (hl : len = es.length) (hk : headOk ks xs = true) (hb : (len + xs.length) * b ≤ 140737488355328) :
    appT (some (ks, b, z)) h (.arr id 0 len g ks) (some xs) = some (.arr id 0 (len + xs.length) (g + 1) ks, h.set id (.arr ks (es ++ xs) (g + 1))) := by
  have : (len + xs.length) * b ≤ 2 ^ 47 := hb
  subst hl
  simp [appT, hk, ho, this]
theorem aelems_str (s : ByteArray) : aelems h (.val (.string s)) = some (s.data.toList.map byteVal) := rfl
theorem aelems_slc (f : Bool) (es : List AV) : aelems h (.slc f es) = some es := rfl
theorem aelems_arr (id off len g k : Nat) : aelems h (.arr id off len g k) = sview h (.arr id off len g k) := rfl
theorem sview_arr (id len g k : Nat) (es : List AV) (ho : hget h id = .arr k es g) (hl : len = es.length) : sview h (.arr id 0 len g k) = some es := by
  subst hl; simp [sview, ho]
theorem sview_slc (f : Bool) (es : List AV) : sview h (.slc f es) = some es := rfl
theorem headOk_nil (k : Nat) : headOk k [] = true := rfl
theorem headOk_cons (k : Nat) (e : AV) (r : List AV) : headOk k (e :: r) = (e.cells.length == k) := rfl
theorem headOk_bytes (l : List UInt8) : headOk 1 (l.map byteVal) = true := by cases l <;> rfl
theorem bytesOf_map : ∀ l : List UInt8, bytesOf (l.map byteVal) = some l
  | [] => rfl
  | b :: r => by
    have hb : UInt8.ofNat ((b.toNat : Int)).toNat = b := by simp
    show (bytesOf (r.map byteVal)).map (UInt8.ofNat ((b.toNat : Int)).toNat :: ·) = _
    rw [bytesOf_map r, hb]; rfl
/-- Bytes of a slice as a text. -/
theorem aconvert_text {s t : TypeId} {e : TypeId} (h1 : P.underlying s = some (.slice e)) (h2 : P.underlying t = some .string) (h3 : P.underlying e = some (.int .u8)) {x : AV} {l : List UInt8} (hv : sview h x = some (l.map byteVal)) : aconvert P s t h x = some (.val (.string ⟨l.toArray⟩), h) := by
  simp only [aconvert, h1, h2, h3, hv, headOk_bytes, if_true, bytesOf_map, Option.map_some]
theorem aconvert_bytes {s t : TypeId} {e : TypeId} (h1 : P.underlying s = some .string) (h2 : P.underlying t = some (.slice e)) (h3 : P.underlying e = some (.int .u8)) (x : ByteArray) : aconvert P s t h (.val (.string x)) = some (.arr h.length 0 x.size 0 1, h ++ [.arr 1 (x.data.toList.map byteVal) 0]) := by
  simp only [aconvert, h1, h2, h3]
theorem aconvert_str {s t : TypeId} (h1 : P.underlying s = some .string) (h2 : P.underlying t = some .string) (x : ByteArray) : aconvert P s t h (.val (.string x)) = some (.val (.string x), h) := by
  simp only [aconvert, h1, h2]
end
end Go.Ab
