/- Regions whose loads stand in no order with what turns the memory: rewrite rules. -/
import Derived.Test.YtlpkfeplbcadbaaAb22
namespace Go.Ab
section
variable {P : Program} {md : FuncId → Nat} {env : Env} {h : AHeap} {d : Option Tmp} {ty : TypeId} {pos : String} {aft : Array Edge} {g : Option (Nat × Bool)} {call : CallF} {ops : Array Oper} {hs : List AHeap} {pd : List (Env × Oper × AV)}
open Classical in
noncomputable def looseV (v : AV) (h' : AHeap) (P : Program) (md : FuncId → Nat) (call : CallF) (ops : Array Oper) (o : Oper) (r : List Oper) (env : Env) (h : AHeap) (hs : List AHeap) (pd : List (Env × Oper × AV)) : Option (Env × AHeap) :=
  if looseOk P md o env h v h' hs pd then runLoose P md call ops r (aput env o.dst v) h' (if effOp P md o then h' :: hs else hs) (if isLoad o then (env, o, v) :: pd else pd) else none
noncomputable def looseK (x : Option (AV × AHeap)) (P : Program) (md : FuncId → Nat) (call : CallF) (ops : Array Oper) (o : Oper) (r : List Oper) (env : Env) (h : AHeap) (hs : List AHeap) (pd : List (Env × Oper × AV)) : Option (Env × AHeap) :=
  match x with
  | some (v, h') => looseV v h' P md call ops o r env h hs pd
  | none => none
noncomputable def looseN (x : Option ANext) (P : Program) (md : FuncId → Nat) (call : CallF) (ops : Array Oper) (o : Oper) (r : List Oper) (env : Env) (h : AHeap) (hs : List AHeap) (pd : List (Env × Oper × AV)) : Option (Env × AHeap) :=
  match x with
  | some (.value v h') => looseV v h' P md call ops o r env h hs pd
  | some (.call f as h1) => looseK (doCall md call f as h1) P md call ops o r env h hs pd
  | none => none
theorem looseN_value (v : AV) (h' : AHeap) (o : Oper) (r : List Oper) : looseN (some (.value v h')) P md call ops o r env h hs pd = looseV v h' P md call ops o r env h hs pd := rfl
theorem looseN_call (f : FuncId) (vs : List AV) (h1 : AHeap) (o : Oper) (r : List Oper) : looseN (some (.call f vs h1)) P md call ops o r env h hs pd = looseK (doCall md call f vs h1) P md call ops o r env h hs pd := rfl
theorem looseK_some (v : AV) (h' : AHeap) (o : Oper) (r : List Oper) : looseK (some (v, h')) P md call ops o r env h hs pd = looseV v h' P md call ops o r env h hs pd := rfl
open Classical in
theorem looseV_eq (v : AV) (h' : AHeap) (op : Op) (r : List Oper) : looseV v h' P md call ops ⟨d, op, ty, pos, aft, g⟩ r env h hs pd =
    if effOp P md ⟨d, op, ty, pos, aft, g⟩ = true then (if ∀ p ∈ pd, aop P p.1 h' p.2.1 = some (.value p.2.2 h') then runLoose P md call ops r (aput env d v) h' (h' :: hs) pd else none)
    else if h' = h then (if isLoad ⟨d, op, ty, pos, aft, g⟩ = true then (if ∀ m ∈ hs, aop P env m ⟨d, op, ty, pos, aft, g⟩ = some (.value v m) then runLoose P md call ops r (aput env d v) h' hs ((env, ⟨d, op, ty, pos, aft, g⟩, v) :: pd) else none) else runLoose P md call ops r (aput env d v) h' hs pd) else none := by
  have hne : isLoad ⟨d, op, ty, pos, aft, g⟩ = true → effOp P md ⟨d, op, ty, pos, aft, g⟩ = false := by
    intro hlo
    unfold isLoad at hlo
    split at hlo
    · rename_i hop; simp only at hop; subst hop; rfl
    · cases hlo
  unfold looseV looseOk
  by_cases he : effOp P md ⟨d, op, ty, pos, aft, g⟩ = true
  · have hl : isLoad ⟨d, op, ty, pos, aft, g⟩ = false := by
      cases hl : isLoad ⟨d, op, ty, pos, aft, g⟩ with
      | false => rfl
      | true => rw [hne hl] at he; cases he
    simp [he, hl]
  · by_cases hh : h' = h
    · cases hl : isLoad ⟨d, op, ty, pos, aft, g⟩ <;> simp [he, hh, hl]
    · simp [he, hh]
theorem runLoose_nil : runLoose P md call ops [] env h hs pd = some (env, h) := rfl
theorem runLoose_plain (op : Op) (r : List Oper) : runLoose P md call ops (⟨d, op, ty, pos, aft, none⟩ :: r) env h hs pd = looseN (aop P env h ⟨d, op, ty, pos, aft, none⟩) P md call ops ⟨d, op, ty, pos, aft, none⟩ r env h hs pd := by
  simp only [runLoose, aguard, astep, looseN, looseV, looseK]
  cases aop P env h ⟨d, op, ty, pos, aft, none⟩ with
  | none => rfl
  | some x => cases x with
    | value v h' => rfl
    | call f as h' => dsimp only; cases doCall md call f as h' <;> rfl
noncomputable def guardL (x : Option Bool) (P : Program) (md : FuncId → Nat) (call : CallF) (ops : Array Oper) (o : Oper) (r : List Oper) (env : Env) (h : AHeap) (hs : List AHeap) (pd : List (Env × Oper × AV)) : Option (Env × AHeap) :=
  guardK x (looseN (aop P env h o) P md call ops o r env h hs pd) (runLoose P md call ops r (aput env o.dst .und) h hs pd)
theorem runLoose_guardL (op : Op) (j : Nat) (w : Bool) (r : List Oper) : runLoose P md call ops (⟨d, op, ty, pos, aft, some (j, w)⟩ :: r) env h hs pd = guardL (gval env (gdst ops j) w) P md call ops ⟨d, op, ty, pos, aft, some (j, w)⟩ r env h hs pd := by
  simp only [runLoose, aguard_some, astep, guardL]
  cases gval env (gdst ops j) w with
  | none => rfl
  | some t => cases t with
    | false => rfl
    | true =>
      simp only [guardK, looseN, looseV, looseK]
      cases aop P env h ⟨d, op, ty, pos, aft, some (j, w)⟩ with
      | none => rfl
      | some x => cases x with
        | value v h' => rfl
        | call f as h' => dsimp only; cases doCall md call f as h' <;> rfl
theorem guardL_true (op : Op) (r : List Oper) : guardL (some true) P md call ops ⟨d, op, ty, pos, aft, g⟩ r env h hs pd = looseN (aop P env h ⟨d, op, ty, pos, aft, g⟩) P md call ops ⟨d, op, ty, pos, aft, g⟩ r env h hs pd := rfl
theorem guardL_false (op : Op) (r : List Oper) : guardL (some false) P md call ops ⟨d, op, ty, pos, aft, g⟩ r env h hs pd = runLoose P md call ops r (aput env d .und) h hs pd := rfl
/-! ### Which operations turn the memory -/
theorem eff_move (x : Operand) : effOp P md ⟨d, .move x, ty, pos, aft, g⟩ = false := rfl
theorem eff_assign (x : Operand) : effOp P md ⟨d, .assign x, ty, pos, aft, g⟩ = false := rfl
theorem eff_pick (a b c : Operand) : effOp P md ⟨d, .pick a b c, ty, pos, aft, g⟩ = false := rfl
theorem eff_load (t : TypeId) (a : Operand) : effOp P md ⟨d, .load t a, ty, pos, aft, g⟩ = false := rfl
theorem eff_store (t : TypeId) (a x : Operand) : effOp P md ⟨d, .store t a x, ty, pos, aft, g⟩ = true := rfl
theorem eff_nilCheck (x : Operand) : effOp P md ⟨d, .nilCheck x, ty, pos, aft, g⟩ = false := rfl
theorem eff_binOp (o : BinOp) (t t' : TypeId) (x y : Operand) : effOp P md ⟨d, .binOp o t x y t', ty, pos, aft, g⟩ = false := rfl
theorem eff_unOp (o : UnOp) (t : TypeId) (x : Operand) : effOp P md ⟨d, .unOp o t x, ty, pos, aft, g⟩ = false := rfl
theorem eff_build (t : TypeId) (ps : Array (Nat × Operand)) : effOp P md ⟨d, .build t ps, ty, pos, aft, g⟩ = false := rfl
theorem eff_buildSlice (t : TypeId) (n : Nat) (ps : Array (Nat × Operand)) : effOp P md ⟨d, .buildSlice t n ps, ty, pos, aft, g⟩ = false := rfl
theorem eff_alloc (t : TypeId) : effOp P md ⟨d, .alloc t, ty, pos, aft, g⟩ = true := rfl
theorem eff_box (t : TypeId) (x : Operand) : effOp P md ⟨d, .box t x, ty, pos, aft, g⟩ = true := rfl
theorem eff_makeSlice (t : TypeId) (a b : Operand) : effOp P md ⟨d, .makeSlice t a b, ty, pos, aft, g⟩ = true := rfl
theorem eff_slice (t : TypeId) (x : Operand) (a b c : Option Operand) : effOp P md ⟨d, .slice t x a b c, ty, pos, aft, g⟩ = false := rfl
theorem eff_fieldAddr (t : TypeId) (x : Operand) (f : Nat) : effOp P md ⟨d, .fieldAddr t x f, ty, pos, aft, g⟩ = false := rfl
theorem eff_field (t : TypeId) (x : Operand) (f : Nat) : effOp P md ⟨d, .field t x f, ty, pos, aft, g⟩ = false := rfl
theorem eff_indexAddr (t : TypeId) (x i : Operand) : effOp P md ⟨d, .indexAddr t x i, ty, pos, aft, g⟩ = false := rfl
theorem eff_index (t : TypeId) (x i : Operand) : effOp P md ⟨d, .index t x i, ty, pos, aft, g⟩ = false := rfl
theorem eff_extract (x : Operand) (i : Nat) : effOp P md ⟨d, .extract x i, ty, pos, aft, g⟩ = false := rfl
theorem eff_func (f : FuncId) (xs : Array Operand) (ts : Array TypeId) : effOp P md ⟨d, .call ⟨.value (.func f), xs, ts⟩, ty, pos, aft, g⟩ = (md f == 1) := rfl
theorem eff_len (xs : Array Operand) (ts : Array TypeId) : effOp P md ⟨d, .call ⟨.builtin .len, xs, ts⟩, ty, pos, aft, g⟩ = false := rfl
theorem eff_append (xs : Array Operand) (ts : Array TypeId) : effOp P md ⟨d, .call ⟨.builtin .append, xs, ts⟩, ty, pos, aft, g⟩ = true := rfl
theorem eff_copy (xs : Array Operand) (ts : Array TypeId) : effOp P md ⟨d, .call ⟨.builtin .copy, xs, ts⟩, ty, pos, aft, g⟩ = true := rfl
theorem isLoad_load (t : TypeId) (a : Operand) : isLoad ⟨d, .load t a, ty, pos, aft, g⟩ = true := rfl
theorem isLoad_move (x : Operand) : isLoad ⟨d, .move x, ty, pos, aft, g⟩ = false := rfl
theorem isLoad_assign (x : Operand) : isLoad ⟨d, .assign x, ty, pos, aft, g⟩ = false := rfl
theorem isLoad_pick (a b c : Operand) : isLoad ⟨d, .pick a b c, ty, pos, aft, g⟩ = false := rfl
theorem isLoad_nilCheck (x : Operand) : isLoad ⟨d, .nilCheck x, ty, pos, aft, g⟩ = false := rfl
theorem isLoad_binOp (o : BinOp) (t t' : TypeId) (x y : Operand) : isLoad ⟨d, .binOp o t x y t', ty, pos, aft, g⟩ = false := rfl
theorem isLoad_unOp (o : UnOp) (t : TypeId) (x : Operand) : isLoad ⟨d, .unOp o t x, ty, pos, aft, g⟩ = false := rfl
theorem isLoad_build (t : TypeId) (ps : Array (Nat × Operand)) : isLoad ⟨d, .build t ps, ty, pos, aft, g⟩ = false := rfl
theorem isLoad_buildSlice (t : TypeId) (n : Nat) (ps : Array (Nat × Operand)) : isLoad ⟨d, .buildSlice t n ps, ty, pos, aft, g⟩ = false := rfl
theorem isLoad_slice (t : TypeId) (x : Operand) (a b c : Option Operand) : isLoad ⟨d, .slice t x a b c, ty, pos, aft, g⟩ = false := rfl
theorem isLoad_convert (t t' : TypeId) (x : Operand) : isLoad ⟨d, .convert t t' x, ty, pos, aft, g⟩ = false := rfl
theorem isLoad_fieldAddr (t : TypeId) (x : Operand) (f : Nat) : isLoad ⟨d, .fieldAddr t x f, ty, pos, aft, g⟩ = false := rfl
theorem isLoad_field (t : TypeId) (x : Operand) (f : Nat) : isLoad ⟨d, .field t x f, ty, pos, aft, g⟩ = false := rfl
theorem isLoad_indexAddr (t : TypeId) (x i : Operand) : isLoad ⟨d, .indexAddr t x i, ty, pos, aft, g⟩ = false := rfl
theorem isLoad_index (t : TypeId) (x i : Operand) : isLoad ⟨d, .index t x i, ty, pos, aft, g⟩ = false := rfl
theorem isLoad_extract (x : Operand) (i : Nat) : isLoad ⟨d, .extract x i, ty, pos, aft, g⟩ = false := rfl
theorem isLoad_call (c : Call) : isLoad ⟨d, .call c, ty, pos, aft, g⟩ = false := rfl
end
attribute [go_sem] looseN_value looseN_call looseK_some looseV_eq runLoose_nil runLoose_plain runLoose_guardL guardL_true guardL_false eff_move eff_assign eff_pick eff_load eff_store eff_nilCheck eff_binOp eff_unOp eff_build eff_buildSlice eff_alloc eff_box eff_makeSlice eff_slice eff_fieldAddr eff_field eff_indexAddr eff_index eff_extract eff_func eff_len eff_append eff_copy isLoad_load isLoad_move isLoad_assign isLoad_pick isLoad_nilCheck isLoad_binOp isLoad_unOp isLoad_build isLoad_buildSlice isLoad_slice isLoad_convert isLoad_fieldAddr isLoad_field isLoad_indexAddr isLoad_index isLoad_extract isLoad_call List.forall_mem_cons
theorem all_nil {α : Type} (p : α → Prop) : (∀ x ∈ ([] : List α), p x) ↔ True := by simp
attribute [go_sem] all_nil
end Go.Ab
