/- How the abstract machine's runs are reckoned: rewrite rules. -/
import Derived.Test.YtlpkfeplbcadbaaAb18
import Derived.Laws.Strings
namespace Go.Ab
section
variable {P : Program} {md : FuncId → Nat} {fg : FuncId → Nat → List Bool} {M : Nat → List Bool} {m : List Bool} {env : Env} {h : AHeap} {d : Option Tmp} {ty : TypeId} {pos : String} {aft : Array Edge} {g : Option (Nat × Bool)}

/-! ### Control -/
theorem seqK_norm (e : Env) (h : AHeap) (k : Env → AHeap → RunR) : seqK (some (.norm, e, h)) k = k e h := rfl
theorem seqK_ret (e : Env) (h : AHeap) (k : Env → AHeap → RunR) : seqK (some (.ret, e, h)) k = some (.ret, e, h) := rfl
theorem seqK_exit (i : Nat) (e : Env) (h : AHeap) (k : Env → AHeap → RunR) : seqK (some (.exit i, e, h)) k = some (.exit i, e, h) := rfl
theorem blockK_norm (i : Nat) (e : Env) (h : AHeap) : blockK i (some (.norm, e, h)) = some (.norm, e, h) := rfl
theorem blockK_ret (i : Nat) (e : Env) (h : AHeap) : blockK i (some (.ret, e, h)) = some (.ret, e, h) := rfl
theorem blockK_exit_eq (i : Nat) (e : Env) (h : AHeap) : blockK i (some (.exit i, e, h)) = some (.norm, e, h) := by simp [blockK]
theorem blockK_exit_ne {i j : Nat} (e : Env) (h : AHeap) (hij : j ≠ i) : blockK i (some (.exit j, e, h)) = some (.exit j, e, h) := by simp [blockK, hij]
theorem normK_some (e : Env) (h : AHeap) : normK (some (e, h)) = some (.norm, e, h) := rfl
theorem condK_true (a b : RunR) : condK (.val (.bool true)) a b = a := rfl
theorem condK_false (a b : RunR) : condK (.val (.bool false)) a b = b := rfl
theorem condK_bool (t : Bool) (a b : RunR) : condK (.val (.bool t)) a b = if t = true then a else b := rfl
theorem maskR_some (m : List Bool) (x : Ex) (e : Env) (h : AHeap) : maskR m (some (x, e, h)) = some (x, mask m e, h) := rfl
theorem mask_nil (e : Env) : mask [] e = e := by cases e <;> rfl
theorem mask_none (m : List Bool) : mask m [] = [] := by cases m with | nil => rfl | cons b m => cases b <;> rfl
theorem mask_true (m : List Bool) (x : AV) (e : Env) : mask (true :: m) (x :: e) = x :: mask m e := rfl
theorem mask_false (m : List Bool) (x : AV) (e : Env) : mask (false :: m) (x :: e) = .unk :: mask m e := rfl
theorem arun_text (id : Nat) (ops : Array Oper) (e : Env) (h : AHeap) : arun P md fg M (.region id ops false) m e h = maskR (M 0) (normK (runOps P md (aval P md fg) ops ops.toList e h)) := arun_region id ops false m e h
theorem arun_draw (id : Nat) (ops : Array Oper) (e : Env) (h : AHeap) : arun P md fg M (.region id ops true) m e h = maskR (M 0) (normK (if looseAt M id then runLoose P md (aval P md fg) ops ops.toList e h [h] [] else runDraw P md (aval P md fg) ops ops.toList e h)) := arun_region id ops true m e h
theorem runOps_nil (call : CallF) (ops : Array Oper) (env : Env) (h : AHeap) : runOps P md call ops [] env h = some (env, h) := rfl
/-- What follows an operation. -/
noncomputable def thenOps (r : Option ANext) (md : FuncId → Nat) (call : CallF) (d : Option Tmp) (k : Env → AHeap → Option (Env × AHeap)) (env : Env) : Option (Env × AHeap) :=
  match r with
  | some (.value v h) => k (aput env d v) h
  | some (.call f as h) => match doCall md call f as h with
    | some (v, h) => k (aput env d v) h
    | none => none
  | none => none
theorem thenOps_value (v : AV) (h : AHeap) (call : CallF) (k : Env → AHeap → Option (Env × AHeap)) : thenOps (some (.value v h)) md call d k env = k (aput env d v) h := rfl
/-- What follows a call. -/
def callK (r : Option (AV × AHeap)) (d : Option Tmp) (k : Env → AHeap → Option (Env × AHeap)) (env : Env) : Option (Env × AHeap) :=
  match r with
  | some (v, h) => k (aput env d v) h
  | none => none
theorem thenOps_call (f : FuncId) (as : List AV) (h : AHeap) (call : CallF) (k : Env → AHeap → Option (Env × AHeap)) : thenOps (some (.call f as h)) md call d k env = callK (doCall md call f as h) d k env := rfl
theorem callK_some (v : AV) (h : AHeap) (k : Env → AHeap → Option (Env × AHeap)) : callK (some (v, h)) d k env = k (aput env d v) h := rfl
theorem runOps_plain (call : CallF) (ops : Array Oper) (op : Op) (r : List Oper) : runOps P md call ops (⟨d, op, ty, pos, aft, none⟩ :: r) env h = thenOps (aop P env h ⟨d, op, ty, pos, aft, none⟩) md call d (runOps P md call ops r) env := by
  simp only [runOps, aguard, astep, thenOps]
  cases aop P env h ⟨d, op, ty, pos, aft, none⟩ with
  | none => rfl
  | some x => cases x with
    | value v h' => rfl
    | call f as h' => dsimp only; cases doCall md call f as h' <;> rfl
/-- The slot of an operation that guards. -/
def gdst (ops : Array Oper) (j : Nat) : Option Tmp := (ops[j]?).bind (·.dst)
def gval (env : Env) (t : Option Tmp) (w : Bool) : Option Bool :=
  match t with
  | none => some false
  | some t => match env.getD t .und with
    | .unk => none
    | .val (.bool b) => some (b == w)
    | _ => some false
def gbool (v : AV) (w : Bool) : Option Bool :=
  match v with
  | .unk => none
  | .val (.bool b) => some (b == w)
  | _ => some false
theorem gval_some (t : Tmp) (w : Bool) : gval env (some t) w = gbool (env.getD t .und) w := rfl
theorem gbool_bool (b w : Bool) : gbool (.val (.bool b)) w = some (b == w) := rfl
theorem gbool_und (w : Bool) : gbool .und w = some false := rfl
def guardK (x : Option Bool) (a b : Option (Env × AHeap)) : Option (Env × AHeap) :=
  match x with
  | some true => a
  | some false => b
  | none => none
theorem guardK_true (a b : Option (Env × AHeap)) : guardK (some true) a b = a := rfl
theorem guardK_false (a b : Option (Env × AHeap)) : guardK (some false) a b = b := rfl
theorem guardK_bool (t : Bool) (a b : Option (Env × AHeap)) : guardK (some t) a b = if t = true then a else b := by cases t <;> rfl
theorem aguard_some (ops : Array Oper) (op : Op) (j : Nat) (w : Bool) : aguard ops env ⟨d, op, ty, pos, aft, some (j, w)⟩ = gval env (gdst ops j) w := by
  unfold aguard gval gdst
  dsimp only
  cases (ops[j]?).bind (·.dst) with
  | none => rfl
  | some t => dsimp only; cases env.getD t .und <;> first | rfl | (rename_i v; cases v <;> rfl)
theorem runOps_guard (call : CallF) (ops : Array Oper) (op : Op) (j : Nat) (w : Bool) (r : List Oper) : runOps P md call ops (⟨d, op, ty, pos, aft, some (j, w)⟩ :: r) env h =
    guardK (gval env (gdst ops j) w) (thenOps (aop P env h ⟨d, op, ty, pos, aft, some (j, w)⟩) md call d (runOps P md call ops r) env) (runOps P md call ops r (aput env d .und) h) := by
  simp only [runOps, aguard_some, astep, thenOps]
  cases gval env (gdst ops j) w with
  | none => rfl
  | some t => cases t with
    | false => rfl
    | true =>
      simp only [guardK]
      cases aop P env h ⟨d, op, ty, pos, aft, some (j, w)⟩ with
      | none => rfl
      | some x => cases x with
        | value v h' => rfl
        | call f as h' => dsimp only; cases doCall md call f as h' <;> rfl
open Classical in
/-- In an order that Go leaves open. -/
noncomputable def thenDraw (P : Program) (o : Oper) (h0 : AHeap) (r : Option ANext) (md : FuncId → Nat) (call : CallF) (d : Option Tmp) (k : Env → AHeap → Option (Env × AHeap)) (env : Env) : Option (Env × AHeap) :=
  match r with
  | some (.value v h) => if effOp P md o = true ∨ h = h0 then k (aput env d v) h else none
  | some (.call f as h) => match doCall md call f as h with
    | some (v, h) => if effOp P md o = true ∨ h = h0 then k (aput env d v) h else none
    | none => none
  | none => none
open Classical in
noncomputable def callD (P : Program) (md : FuncId → Nat) (o : Oper) (h0 : AHeap) (r : Option (AV × AHeap)) (d : Option Tmp) (k : Env → AHeap → Option (Env × AHeap)) (env : Env) : Option (Env × AHeap) :=
  match r with
  | some (v, h) => if effOp P md o = true ∨ h = h0 then k (aput env d v) h else none
  | none => none
theorem thenDraw_quiet (o : Oper) (h0 : AHeap) (v : AV) (call : CallF) (k : Env → AHeap → Option (Env × AHeap)) : thenDraw P o h0 (some (.value v h0)) md call d k env = k (aput env d v) h0 := by simp [thenDraw]
theorem thenDraw_eff (o : Oper) (h0 : AHeap) (v : AV) (h' : AHeap) (call : CallF) (k : Env → AHeap → Option (Env × AHeap)) (he : effOp P md o = true) : thenDraw P o h0 (some (.value v h')) md call d k env = k (aput env d v) h' := by simp [thenDraw, he]
theorem thenDraw_call (o : Oper) (h0 : AHeap) (f : FuncId) (as : List AV) (h : AHeap) (call : CallF) (k : Env → AHeap → Option (Env × AHeap)) : thenDraw P o h0 (some (.call f as h)) md call d k env = callD P md o h0 (doCall md call f as h) d k env := rfl
theorem callD_quiet (o : Oper) (h0 : AHeap) (v : AV) (k : Env → AHeap → Option (Env × AHeap)) : callD P md o h0 (some (v, h0)) d k env = k (aput env d v) h0 := by simp [callD]
theorem callD_eff (o : Oper) (h0 : AHeap) (v : AV) (h' : AHeap) (k : Env → AHeap → Option (Env × AHeap)) (he : effOp P md o = true) : callD P md o h0 (some (v, h')) d k env = k (aput env d v) h' := by simp [callD, he]
theorem runDraw_nil (call : CallF) (ops : Array Oper) (env : Env) (h : AHeap) : runDraw P md call ops [] env h = some (env, h) := rfl
theorem runDraw_plain (call : CallF) (ops : Array Oper) (op : Op) (r : List Oper) : runDraw P md call ops (⟨d, op, ty, pos, aft, none⟩ :: r) env h = thenDraw P ⟨d, op, ty, pos, aft, none⟩ h (aop P env h ⟨d, op, ty, pos, aft, none⟩) md call d (runDraw P md call ops r) env := by
  simp only [runDraw, aguard, astep, thenDraw]
  cases aop P env h ⟨d, op, ty, pos, aft, none⟩ with
  | none => rfl
  | some x => cases x with
    | value v h' => rfl
    | call f as h' => dsimp only; cases doCall md call f as h' <;> rfl
theorem runDraw_guard (call : CallF) (ops : Array Oper) (op : Op) (j : Nat) (w : Bool) (r : List Oper) : runDraw P md call ops (⟨d, op, ty, pos, aft, some (j, w)⟩ :: r) env h =
    guardK (gval env (gdst ops j) w) (thenDraw P ⟨d, op, ty, pos, aft, some (j, w)⟩ h (aop P env h ⟨d, op, ty, pos, aft, some (j, w)⟩) md call d (runDraw P md call ops r) env) (runDraw P md call ops r (aput env d .und) h) := by
  simp only [runDraw, aguard_some, astep, thenDraw]
  cases gval env (gdst ops j) w with
  | none => rfl
  | some t => cases t with
    | false => rfl
    | true =>
      simp only [guardK]
      cases aop P env h ⟨d, op, ty, pos, aft, some (j, w)⟩ with
      | none => rfl
      | some x => cases x with
        | value v h' => rfl
        | call f as h' => dsimp only; cases doCall md call f as h' <;> rfl
theorem aput_some (t : Nat) (v : AV) : aput env (some t) v = env.set t v := rfl
theorem aput_none (v : AV) : aput env none v = env := rfl

/-! ### What comes next, as data: nothing in it is reckoned before its turn -/
noncomputable def seqC (r : RunR) (P : Program) (md : FuncId → Nat) (fg : FuncId → Nat → List Bool) (M : Nat → List Bool) (b : Code) (m : List Bool) : RunR := seqK r fun e h => arun P md fg M b m e h
noncomputable def condC (c : AV) (P : Program) (md : FuncId → Nat) (fg : FuncId → Nat → List Bool) (M : Nat → List Bool) (a b : Code) (m : List Bool) (e : Env) (h : AHeap) : RunR := condK c (arun P md fg M a m e h) (arun P md fg M b m e h)
theorem arun_seqC (a b : Code) (e : Env) (h : AHeap) : arun P md fg M (.seq a b) m e h = seqC (arun P md fg M a m e h) P md fg M b m := arun_seq a b m e h
theorem arun_condC (c : Operand) (a b : Code) (e : Env) (h : AHeap) : arun P md fg M (.cond c a b) m e h = condC (oval e c) P md fg M a b m e h := arun_cond c a b m e h
theorem seqC_norm (b : Code) (e : Env) (h : AHeap) : seqC (some (.norm, e, h)) P md fg M b m = arun P md fg M b m e h := rfl
theorem seqC_ret (b : Code) (e : Env) (h : AHeap) : seqC (some (.ret, e, h)) P md fg M b m = some (.ret, e, h) := rfl
theorem seqC_exit (i : Nat) (b : Code) (e : Env) (h : AHeap) : seqC (some (.exit i, e, h)) P md fg M b m = some (.exit i, e, h) := rfl
theorem condC_true (a b : Code) (e : Env) (h : AHeap) : condC (.val (.bool true)) P md fg M a b m e h = arun P md fg M a m e h := rfl
theorem condC_false (a b : Code) (e : Env) (h : AHeap) : condC (.val (.bool false)) P md fg M a b m e h = arun P md fg M b m e h := rfl
/-- An operation under its guard. -/
noncomputable def guardC (x : Option Bool) (P : Program) (md : FuncId → Nat) (call : CallF) (ops : Array Oper) (o : Oper) (r : List Oper) (env : Env) (h : AHeap) : Option (Env × AHeap) :=
  guardK x (thenOps (aop P env h o) md call o.dst (runOps P md call ops r) env) (runOps P md call ops r (aput env o.dst .und) h)
theorem runOps_guardC (call : CallF) (ops : Array Oper) (op : Op) (j : Nat) (w : Bool) (r : List Oper) : runOps P md call ops (⟨d, op, ty, pos, aft, some (j, w)⟩ :: r) env h = guardC (gval env (gdst ops j) w) P md call ops ⟨d, op, ty, pos, aft, some (j, w)⟩ r env h := runOps_guard call ops op j w r
theorem guardC_true (call : CallF) (ops : Array Oper) (op : Op) (r : List Oper) : guardC (some true) P md call ops ⟨d, op, ty, pos, aft, g⟩ r env h = thenOps (aop P env h ⟨d, op, ty, pos, aft, g⟩) md call d (runOps P md call ops r) env := rfl
theorem guardC_false (call : CallF) (ops : Array Oper) (op : Op) (r : List Oper) : guardC (some false) P md call ops ⟨d, op, ty, pos, aft, g⟩ r env h = runOps P md call ops r (aput env d .und) h := rfl
noncomputable def guardD (x : Option Bool) (P : Program) (md : FuncId → Nat) (call : CallF) (ops : Array Oper) (o : Oper) (r : List Oper) (env : Env) (h : AHeap) : Option (Env × AHeap) :=
  guardK x (thenDraw P o h (aop P env h o) md call o.dst (runDraw P md call ops r) env) (runDraw P md call ops r (aput env o.dst .und) h)
theorem runDraw_guardD (call : CallF) (ops : Array Oper) (op : Op) (j : Nat) (w : Bool) (r : List Oper) : runDraw P md call ops (⟨d, op, ty, pos, aft, some (j, w)⟩ :: r) env h = guardD (gval env (gdst ops j) w) P md call ops ⟨d, op, ty, pos, aft, some (j, w)⟩ r env h := runDraw_guard call ops op j w r
theorem guardD_true (call : CallF) (ops : Array Oper) (op : Op) (r : List Oper) : guardD (some true) P md call ops ⟨d, op, ty, pos, aft, g⟩ r env h = thenDraw P ⟨d, op, ty, pos, aft, g⟩ h (aop P env h ⟨d, op, ty, pos, aft, g⟩) md call d (runDraw P md call ops r) env := rfl
theorem guardD_false (call : CallF) (ops : Array Oper) (op : Op) (r : List Oper) : guardD (some false) P md call ops ⟨d, op, ty, pos, aft, g⟩ r env h = runDraw P md call ops r (aput env d .und) h := rfl

/-! ### Operations -/
theorem oval_tmp (t : Nat) : oval env (.tmp t) = env.getD t .und := rfl
theorem oval_const (v : Value) : oval env (.const v) = ofCell v := rfl
theorem oval_func (f : FuncId) : oval env (.func f) = .clo f [] [] := rfl
theorem ofCell_int (k : IntKind) (n : Int) : ofCell (.int k n) = .val (.int k n) := rfl
theorem ofCell_bool (b : Bool) : ofCell (.bool b) = .val (.bool b) := rfl
theorem ofCell_string (s : ByteArray) : ofCell (.string s) = .val (.string s) := rfl
theorem ofCell_nil : ofCell (.slice none 0 0) = .slc true [] := rfl
theorem ofCell_ptr (p : Option Addr) : ofCell (.pointer p) = .val (.pointer p) := rfl
theorem ofCell_nilFunc : ofCell .nilFunc = .val .nilFunc := rfl
theorem aop_move (x : Operand) : aop P env h ⟨d, .move x, ty, pos, aft, g⟩ = some (.value (oval env x) h) := rfl
theorem aop_assign (x : Operand) : aop P env h ⟨d, .assign x, ty, pos, aft, g⟩ = some (.value (oval env x) h) := rfl
theorem aop_pick (c a b : Operand) : aop P env h ⟨d, .pick c a b, ty, pos, aft, g⟩ = ato (apick (oval env c) (oval env a) (oval env b)) h := rfl
theorem aop_alloc (t : TypeId) : aop P env h ⟨d, .alloc t, ty, pos, aft, g⟩ = match tzero P t with | some z => some (.value (.ptr h.length 0) (h ++ [.vars z.cells])) | none => none := rfl
theorem aop_box (t : TypeId) (x : Operand) : aop P env h ⟨d, .box t x, ty, pos, aft, g⟩ = if okVal (oval env x) then some (.value (.ptr h.length 0) (h ++ [.vars (oval env x).cells])) else none := rfl
theorem aop_build (t : TypeId) (ps : Array (Nat × Operand)) : aop P env h ⟨d, .build t ps, ty, pos, aft, g⟩ = ato (abuild P t (ps.toList.map fun p => (p.1, oval env p.2))) h := rfl
theorem aop_buildSlice (t : TypeId) (n : Nat) (ps : Array (Nat × Operand)) : aop P env h ⟨d, .buildSlice t n ps, ty, pos, aft, g⟩ = ato (abuildSlice P t n (ps.toList.map fun p => (p.1, oval env p.2))) h := rfl
theorem aop_load (t : TypeId) (a : Operand) : aop P env h ⟨d, .load t a, ty, pos, aft, g⟩ = ato (aload P t h (oval env a)) h := rfl
theorem aop_store (t : TypeId) (a x : Operand) : aop P env h ⟨d, .store t a x, ty, pos, aft, g⟩ = (astore P t h (oval env a) (oval env x)).map (.value .und ·) := rfl
theorem aop_nilCheck (x : Operand) : aop P env h ⟨d, .nilCheck x, ty, pos, aft, g⟩ = ato (anil (oval env x)) h := rfl
theorem aop_binOp (op : BinOp) (t t' : TypeId) (x y : Operand) : aop P env h ⟨d, .binOp op t x y t', ty, pos, aft, g⟩ = ato (abin P op t (oval env x) (oval env y)) h := rfl
theorem aop_unOp (op : UnOp) (t : TypeId) (x : Operand) : aop P env h ⟨d, .unOp op t x, ty, pos, aft, g⟩ = ato (aun op (oval env x)) h := rfl
theorem aop_convert (s t : TypeId) (x : Operand) : aop P env h ⟨d, .convert s t x, ty, pos, aft, g⟩ = ato2 (aconvert P s t h (oval env x)) := rfl
theorem aop_makeFunc (f : FuncId) (a b : Array Operand) : aop P env h ⟨d, .makeFunc (.func f) a b, ty, pos, aft, g⟩ = some (.value (.clo f (a.toList.map (oval env)) (b.toList.map (oval env))) h) := rfl
theorem aop_makeSlice (t : TypeId) (l c : Operand) : aop P env h ⟨d, .makeSlice t l c, ty, pos, aft, g⟩ = ato2 (amake P t h (oval env l) (oval env c)) := rfl
theorem aop_slice (t : TypeId) (x : Operand) (lo hi mx : Option Operand) : aop P env h ⟨d, .slice t x lo hi mx, ty, pos, aft, g⟩ = ato (asliceAt P t h (oval env x) (lo.map (oval env)) (hi.map (oval env)) (mx.map (oval env))) h := rfl
theorem aop_fieldAddr (s : TypeId) (x : Operand) (f : Nat) : aop P env h ⟨d, .fieldAddr s x f, ty, pos, aft, g⟩ = ato (afieldAddr P s (oval env x) f) h := rfl
theorem aop_field (s : TypeId) (x : Operand) (f : Nat) : aop P env h ⟨d, .field s x f, ty, pos, aft, g⟩ = ato (afield P s (oval env x) f) h := rfl
theorem aop_indexAddr (t : TypeId) (x i : Operand) : aop P env h ⟨d, .indexAddr t x i, ty, pos, aft, g⟩ = ato (aindexAddr P t (oval env x) (oval env i)) h := rfl
theorem aop_index (t : TypeId) (x i : Operand) : aop P env h ⟨d, .index t x i, ty, pos, aft, g⟩ = ato (aindex P t (oval env x) (oval env i)) h := rfl
theorem aop_extract (t : Operand) (i : Nat) : aop P env h ⟨d, .extract t i, ty, pos, aft, g⟩ = match oval env t with | .tup vs => ato vs[i]? h | _ => none := rfl
theorem aop_callValue (f : Operand) (as : Array Operand) (ats : Array TypeId) : aop P env h ⟨d, .call ⟨.value f, as, ats⟩, ty, pos, aft, g⟩ = acall1 P h (oval env f) (as.toList.map (oval env)) := rfl
theorem aop_builtin (b : Builtin) (as : Array Operand) (ats : Array TypeId) : aop P env h ⟨d, .call ⟨.builtin b, as, ats⟩, ty, pos, aft, g⟩ = ato2 (abuiltin P b ats h (as.toList.map (oval env))) := rfl
theorem ato_some (v : AV) : ato (some v) h = some (.value v h) := rfl
theorem ato2_some (v : AV) : ato2 (some (v, h)) = some (.value v h) := rfl
theorem acall1_clo {f : FuncId} (hc : callable P f = true) (a b args : List AV) : acall1 P h (.clo f a b) args = some (.call f (a ++ args ++ b) h) := by simp [acall1, hc]
theorem apick_true (a b : AV) : apick (.val (.bool true)) a b = some a := rfl
theorem apick_false (a b : AV) : apick (.val (.bool false)) a b = some b := rfl
theorem apick_bool (t x y : Bool) : apick (.val (.bool t)) (.val (.bool x)) (.val (.bool y)) = some (.val (.bool (if t = true then x else y))) := by cases t <;> rfl
section
variable (t : TypeId) (k k' : IntKind) (a b : Int) (s u : ByteArray) (x y : Bool)
theorem abin_add : abin P .add t (.val (.int k a)) (.val (.int k b)) = some (.val (.int k (k.wrap (a + b)))) := by simp [abin, isShift, aint]
theorem abin_sub : abin P .sub t (.val (.int k a)) (.val (.int k b)) = some (.val (.int k (k.wrap (a - b)))) := by simp [abin, isShift, aint]
theorem abin_mul : abin P .mul t (.val (.int k a)) (.val (.int k b)) = some (.val (.int k (k.wrap (a * b)))) := by simp [abin, isShift, aint]
theorem abin_quo (h0 : b ≠ 0) : abin P .quo t (.val (.int k a)) (.val (.int k b)) = some (.val (.int k (k.wrap (a.tdiv b)))) := by simp [abin, isShift, aint, h0]
theorem abin_rem (h0 : b ≠ 0) : abin P .rem t (.val (.int k a)) (.val (.int k b)) = some (.val (.int k (a.tmod b))) := by simp [abin, isShift, aint, h0]
theorem abin_and : abin P .and t (.val (.int k a)) (.val (.int k b)) = some (.val (.int k (k.wrap (BitVec.ofInt k.bits a &&& BitVec.ofInt k.bits b).toNat))) := by simp only [abin, isShift, aint]; simp
theorem abin_or : abin P .or t (.val (.int k a)) (.val (.int k b)) = some (.val (.int k (k.wrap (BitVec.ofInt k.bits a ||| BitVec.ofInt k.bits b).toNat))) := by simp only [abin, isShift, aint]; simp
theorem abin_xor : abin P .xor t (.val (.int k a)) (.val (.int k b)) = some (.val (.int k (k.wrap (BitVec.ofInt k.bits a ^^^ BitVec.ofInt k.bits b).toNat))) := by simp only [abin, isShift, aint]; simp
theorem abin_eql : abin P .eql t (.val (.int k a)) (.val (.int k b)) = some (.val (.bool (a == b))) := by simp [abin, isShift, aint]
theorem abin_neq : abin P .neq t (.val (.int k a)) (.val (.int k b)) = some (.val (.bool (a != b))) := by simp [abin, isShift, aint]
theorem abin_lss : abin P .lss t (.val (.int k a)) (.val (.int k b)) = some (.val (.bool (decide (a < b)))) := by simp [abin, isShift, aint]
theorem abin_leq : abin P .leq t (.val (.int k a)) (.val (.int k b)) = some (.val (.bool (decide (a ≤ b)))) := by simp [abin, isShift, aint]
theorem abin_gtr : abin P .gtr t (.val (.int k a)) (.val (.int k b)) = some (.val (.bool (decide (a > b)))) := by simp [abin, isShift, aint]
theorem abin_geq : abin P .geq t (.val (.int k a)) (.val (.int k b)) = some (.val (.bool (decide (a ≥ b)))) := by simp [abin, isShift, aint]
theorem abin_shl (h0 : 0 ≤ b) : abin P .shl t (.val (.int k a)) (.val (.int k' b)) = some (.val (.int k (k.wrap (a * 2 ^ (min b.toNat k.bits))))) := by simp [abin, isShift, ashift, Int.not_lt.2 h0]
theorem abin_shr (h0 : 0 ≤ b) : abin P .shr t (.val (.int k a)) (.val (.int k' b)) = some (.val (.int k (a.fdiv (2 ^ (min b.toNat k.bits))))) := by simp [abin, isShift, ashift, Int.not_lt.2 h0]
theorem abin_cat (hl : s.size + u.size ≤ 9223372036854775807) : abin P .add t (.val (.string s)) (.val (.string u)) = some (.val (.string (s ++ u))) := by
  have : ¬ (((s.size + u.size : Nat) : Int) > IntKind.i64.max) := by
    have : IntKind.i64.max = 9223372036854775807 := by decide
    omega
  simp only [abin, astr, if_neg this]; rfl
theorem bytes_eq_iff {s u : ByteArray} : s.toList = u.toList ↔ s = u := by
  constructor
  · intro h
    have hl : ∀ s : ByteArray, s.toList = s.data.toList := fun s => ByteArray.toList_eq s
    rw [hl, hl] at h
    exact ByteArray.ext (Array.ext' h)
  · rintro rfl; rfl
open Classical in
theorem abin_seq : abin P .eql t (.val (.string s)) (.val (.string u)) = some (.val (.bool (decide (s = u)))) := by
  have : (s.toList == u.toList) = decide (s = u) := by
    rw [Bool.eq_iff_iff, beq_iff_eq, decide_eq_true_eq]; exact bytes_eq_iff
  simp only [abin, astr, this]; rfl
open Classical in
theorem abin_sne : abin P .neq t (.val (.string s)) (.val (.string u)) = some (.val (.bool (!decide (s = u)))) := by
  have : (s.toList == u.toList) = decide (s = u) := by
    rw [Bool.eq_iff_iff, beq_iff_eq, decide_eq_true_eq]; exact bytes_eq_iff
  simp only [abin, astr, this]; rfl
theorem abin_slt : abin P .lss t (.val (.string s)) (.val (.string u)) = some (.val (.bool (Op.bytesLess s.toList u.toList))) := rfl
theorem abin_beq (hb : isBoolT P t = true) : abin P .eql t (.val (.bool x)) (.val (.bool y)) = some (.val (.bool (x == y))) := by simp [abin, hb, aeqb]
theorem abin_bne (hb : isBoolT P t = true) : abin P .neq t (.val (.bool x)) (.val (.bool y)) = some (.val (.bool (!(x == y)))) := by simp [abin, hb, aeqb]
theorem abin_nil (hb : isPtrT P t = true) : abin P .eql t (.val (.pointer none)) (.val (.pointer none)) = some (.val (.bool true)) := by simp [abin, hb, aeqb]
theorem abin_nnil (hb : isPtrT P t = true) : abin P .neq t (.val (.pointer none)) (.val (.pointer none)) = some (.val (.bool false)) := by simp [abin, hb, aeqb]
theorem abin_ptr (hb : isPtrT P t = true) (id off : Nat) : abin P .eql t (.ptr id off) (.val (.pointer none)) = some (.val (.bool false)) := by simp [abin, hb, aeqb]
theorem abin_nptr (hb : isPtrT P t = true) (id off : Nat) : abin P .neq t (.ptr id off) (.val (.pointer none)) = some (.val (.bool true)) := by simp [abin, hb, aeqb]
theorem aun_neg : aun .neg (.val (.int k a)) = some (.val (.int k (k.wrap (0 - a)))) := rfl
theorem aun_xor : aun .xor (.val (.int k a)) = some (.val (.int k (k.wrap (BitVec.ofInt k.bits (if k.signed then -1 else k.max) ^^^ BitVec.ofInt k.bits a).toNat))) := rfl
theorem aun_not : aun .not (.val (.bool x)) = some (.val (.bool (!x))) := rfl
theorem aconvert_int {t' : TypeId} {k0 : IntKind} (h1 : P.underlying t = some (.int k0)) (h2 : P.underlying t' = some (.int k)) : aconvert P t t' h (.val (.int k' a)) = some (.val (.int k (k.wrap a)), h) := by simp [aconvert, h1, h2]
theorem anil_ptr (id off : Nat) : anil (.ptr id off) = some (.ptr id off) := rfl
theorem anil_eptr (id g k i off : Nat) : anil (.eptr id g k i off) = some (.eptr id g k i off) := rfl
end

/-! ### Ends -/
theorem finish_ret (rs : List ResultVar) (e : Env) (h : AHeap) : finish P rs (some (.ret, e, h)) = (aresults P rs e h).map fun l => (tupOf l, h) := rfl
theorem finish_norm (rs : List ResultVar) (e : Env) (h : AHeap) : finish P rs (some (.norm, e, h)) = (aresults P rs e h).map fun l => (tupOf l, h) := rfl
theorem aresults_nil : aresults P [] env h = some [] := rfl
theorem aresults_tmp (t : Tmp) (r : List ResultVar) : aresults P (.tmp t :: r) env h = (aresults P r env h).map (env.getD t .und :: ·) := rfl
theorem tupOf_one (a : AV) : tupOf [a] = a := rfl
theorem tupOf_nil : tupOf [] = .tup [] := rfl
theorem tupOf_two (a b : AV) (l : List AV) : tupOf (a :: b :: l) = .tup (a :: b :: l) := rfl

/-! ### Calls by value -/
theorem pcall_eq (f : FuncId) (as : List AV) : pcall P md fg f as = pureRes (aval P md fg f as []) := rfl
theorem exp1_solid {h : AHeap} {d : Nat} {v : AV} (hs : solid v = true) : exp1 h d v = some (v, []) := by cases d <;> simp [exp1, hs]
theorem expL_solid {h : AHeap} {d : Nat} : ∀ {l : List AV}, solidL l = true → expL (exp1 h d) l = some (l, [])
  | [], _ => rfl
  | x :: r, hs => by
    simp only [solidL, Bool.and_eq_true] at hs
    simp only [expL, exp1_solid hs.1, expL_solid hs.2, List.append_nil]
theorem canFrz_nil (h : AHeap) : canFrz h [] = true := rfl
theorem pureRes_solid {v : AV} {h : AHeap} (hs : solid v = true) : pureRes (some (v, h)) = some v := by simp [pureRes, exp1_solid hs, canFrz_nil]
/-- A call that is handed values alone. -/
theorem doCall_pure {f : FuncId} {as : List AV} {h : AHeap} {r : AV} (hm : md f = 0) (hs : solidL as = true) (e : pcall P md fg f as = some r) : doCall md (aval P md fg) f as h = some (r, h) := by
  unfold doCall
  rw [if_pos hm, expL_solid hs]
  simp only [canFrz_nil, if_true]
  rw [← pcall_eq, e]
  simp [frzAll]
/-- One that is handed an array of the run's own, to look at. -/
theorem doCall_look {f : FuncId} {as as' : List AV} {ids : List Nat} {h : AHeap} {r : AV} (hm : md f = 0) (hs : expL (exp1 h expDepth) as = some (as', ids)) (hc : canFrz h ids = true) (e : pcall P md fg f as' = some r) (hf : flat r = true) : doCall md (aval P md fg) f as h = some (r, h) := by
  unfold doCall
  rw [if_pos hm, hs]
  simp only [hc, if_true]
  rw [← pcall_eq, e]
  simp [hf]
theorem doCall_ref {f : FuncId} {as : List AV} {h h' : AHeap} {r : AV} (hm : md f ≠ 0) (e : aval P md fg f as h = some (r, h')) (hb : below h.length r = true) (hg : GcOk h.length h h') : doCall md (aval P md fg) f as h = some (r, h'.take h.length) := by
  unfold doCall
  rw [if_neg hm, e]
  simp [hb, hg]
theorem doCall_keep {f : FuncId} {as : List AV} {h h' : AHeap} {r : AV} (hm : md f ≠ 0) (e : aval P md fg f as h = some (r, h')) (hb : below h.length r = false) : doCall md (aval P md fg) f as h = some (r, h') := by
  unfold doCall
  rw [if_neg hm, e]
  simp [hb]
theorem gcOk_refl (n : Nat) (h : AHeap) : GcOk n h h := fun _ _ => .inl rfl
theorem gcOk_append (h g : AHeap) : GcOk h.length h (h ++ g) := fun i hi => .inl (by rw [List.getElem?_append_left hi])
end
/-! ### Numbers -/
theorem wrap_i64 {n : Int} (h1 : -9223372036854775808 ≤ n) (h2 : n ≤ 9223372036854775807) : IntKind.i64.wrap n = n := IntWalk.i64_in n ⟨h1, h2⟩
theorem wrap_u64 {n : Int} (h1 : 0 ≤ n) (h2 : n < 18446744073709551616) : IntKind.u64.wrap n = n := by
  show n % 18446744073709551616 = n
  exact Int.emod_eq_of_lt h1 h2
theorem wrap_u32 {n : Int} (h1 : 0 ≤ n) (h2 : n < 4294967296) : IntKind.u32.wrap n = n := by
  show n % 4294967296 = n
  exact Int.emod_eq_of_lt h1 h2
theorem wrap_u8 {n : Int} (h1 : 0 ≤ n) (h2 : n < 256) : IntKind.u8.wrap n = n := by
  show n % 256 = n
  exact Int.emod_eq_of_lt h1 h2
theorem wrap_u64' (n : Int) : IntKind.u64.wrap n = n % 18446744073709551616 := rfl
theorem wrap_u32' (n : Int) : IntKind.u32.wrap n = n % 4294967296 := rfl
theorem wrap_u8' (n : Int) : IntKind.u8.wrap n = n % 256 := rfl
end Go.Ab
