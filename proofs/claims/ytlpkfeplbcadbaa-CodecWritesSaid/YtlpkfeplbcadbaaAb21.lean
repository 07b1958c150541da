/- The rewrite rules gathered, and loops by their rounds. -/
import Derived.Test.YtlpkfeplbcadbaaAb20
import Derived.Attr
namespace Go.Ab
section
variable {P : Program} {md : FuncId → Nat} {fg : FuncId → Nat → List Bool} {M : Nat → List Bool} {m : List Bool} {env : Env} {h : AHeap}
/-- A loop at its head. -/
noncomputable def lrun (P : Program) (md : FuncId → Nat) (fg : FuncId → Nat → List Bool) (M : Nat → List Bool) (c : Code) (m : List Bool) (e : Env) (h : AHeap) : RunR := arun P md fg M (.loop c) m e h
/-- A round, and what comes of it. -/
def lstep (m : List Bool) (r : RunR) (k : Env → AHeap → RunR) : RunR :=
  match r with
  | some (.norm, e, h) => k (mask m e) h
  | some (x, e, h) => some (x, mask m e, h)
  | none => none
theorem lstep_norm (e : Env) (h : AHeap) (k : Env → AHeap → RunR) : lstep m (some (.norm, e, h)) k = k (mask m e) h := rfl
theorem lstep_exit (i : Nat) (e : Env) (h : AHeap) (k : Env → AHeap → RunR) : lstep m (some (.exit i, e, h)) k = some (.exit i, mask m e, h) := rfl
theorem lstep_ret (e : Env) (h : AHeap) (k : Env → AHeap → RunR) : lstep m (some (.ret, e, h)) k = some (.ret, mask m e, h) := rfl
theorem arun_loop_l (c : Code) (e : Env) (h : AHeap) : arun P md fg M (.loop c) m e h = lrun P md fg M c m (mask m e) h := by
  show _ = arun P md fg M (.loop c) m (mask m e) h
  rw [arun_loop, arun_loop, aloop_mask]
theorem lrun_eq (c : Code) (e : Env) (h : AHeap) : lrun P md fg M c m e h = lstep m (arun P md fg M c m (mask m e) h) fun e h => lrun P md fg M c m e h := by
  show arun P md fg M (.loop c) m e h = _
  rw [arun_loop, aloop_eq]
  cases arun P md fg M c m (mask m e) h with
  | none => rfl
  | some x =>
    obtain ⟨x, e', h'⟩ := x
    cases x with
    | norm =>
      show maskR m (aloop P md fg M c m e' h') = arun P md fg M (.loop c) m (mask m e') h'
      rw [arun_loop, aloop_mask]
    | exit _ => rfl
    | ret => rfl
theorem lrun_at {c c' : Code} (hc : c = c') (e : Env) (h : AHeap) : lrun P md fg M c m e h = lstep m (arun P md fg M c' m (mask m e) h) fun e h => lrun P md fg M c m e h := by
  rw [lrun_eq, hc]
theorem acall1_if (f : FuncId) (a b args : List AV) : acall1 P h (.clo f a b) args = if callable P f = true then some (.call f (a ++ args ++ b) h) else none := rfl
/-- Bytes as a text. -/
def textK (o : Option (List AV)) (h : AHeap) : Option (AV × AHeap) :=
  match o with
  | some es => if headOk 1 es then (bytesOf es).map fun l => (.val (.string ⟨l.toArray⟩), h) else none
  | none => none
theorem aconvert_textK {s t : TypeId} {e : TypeId} (h1 : P.underlying s = some (.slice e)) (h2 : P.underlying t = some .string) (h3 : P.underlying e = some (.int .u8)) {x : AV} : aconvert P s t h x = textK (sview h x) h := by
  simp only [aconvert, h1, h2, h3, textK]
  cases sview h x <;> rfl
theorem textK_map (l : List UInt8) : textK (some (l.map byteVal)) h = some (.val (.string ⟨l.toArray⟩), h) := by
  simp only [textK, headOk_bytes, if_true, bytesOf_map, Option.map_some]
theorem textK_cons (n : Int) (r : List AV) : textK (some (.val (.int .u8 n) :: r)) h = (bytesOf (.val (.int .u8 n) :: r)).map fun l => (.val (.string ⟨l.toArray⟩), h) := rfl
theorem textK_nil : textK (some []) h = some (.val (.string ⟨#[]⟩), h) := rfl
theorem bytesOf_nil : bytesOf [] = some [] := rfl
theorem bytesOf_cons (n : Int) (r : List AV) : bytesOf (.val (.int .u8 n) :: r) = (bytesOf r).map (UInt8.ofNat n.toNat :: ·) := rfl
section
variable (t : TypeId) (id off g k i : Nat) (f : FuncId) (a b : List AV) (x y : Bool)
theorem eqPN : abin P .eql t (.ptr id off) (.val (.pointer none)) = if isPtrT P t = true then some (.val (.bool false)) else none := rfl
theorem nePN : abin P .neq t (.ptr id off) (.val (.pointer none)) = if isPtrT P t = true then some (.val (.bool true)) else none := rfl
theorem eqNN : abin P .eql t (.val (.pointer none)) (.val (.pointer none)) = if isPtrT P t = true then some (.val (.bool true)) else none := rfl
theorem neNN : abin P .neq t (.val (.pointer none)) (.val (.pointer none)) = if isPtrT P t = true then some (.val (.bool false)) else none := rfl
theorem eqEN : abin P .eql t (.eptr id g k i off) (.val (.pointer none)) = if isPtrT P t = true then some (.val (.bool false)) else none := rfl
theorem neEN : abin P .neq t (.eptr id g k i off) (.val (.pointer none)) = if isPtrT P t = true then some (.val (.bool true)) else none := rfl
theorem eqFN : abin P .eql t (.clo f a b) (.val .nilFunc) = if isFuncT P t = true then some (.val (.bool false)) else none := rfl
theorem neFN : abin P .neq t (.clo f a b) (.val .nilFunc) = if isFuncT P t = true then some (.val (.bool true)) else none := rfl
theorem eqBB : abin P .eql t (.val (.bool x)) (.val (.bool y)) = if isBoolT P t = true then some (.val (.bool (x == y))) else none := rfl
theorem neBB : abin P .neq t (.val (.bool x)) (.val (.bool y)) = if isBoolT P t = true then some (.val (.bool (!(x == y)))) else none := rfl
end
/-- A round, and the loop again, as data. -/
noncomputable def lstepC (r : RunR) (P : Program) (md : FuncId → Nat) (fg : FuncId → Nat → List Bool) (M : Nat → List Bool) (c : Code) (m : List Bool) : RunR := lstep m r fun e h => lrun P md fg M c m e h
theorem lstepC_norm (c : Code) (e : Env) (h : AHeap) : lstepC (some (.norm, e, h)) P md fg M c m = lrun P md fg M c m (mask m e) h := rfl
theorem lstepC_exit (i : Nat) (c : Code) (e : Env) (h : AHeap) : lstepC (some (.exit i, e, h)) P md fg M c m = some (.exit i, mask m e, h) := rfl
theorem lstepC_ret (c : Code) (e : Env) (h : AHeap) : lstepC (some (.ret, e, h)) P md fg M c m = some (.ret, mask m e, h) := rfl
theorem lrun_atC {c c' : Code} (hc : c = c') (e : Env) (h : AHeap) : lrun P md fg M c m e h = lstepC (arun P md fg M c' m (mask m e) h) P md fg M c m := lrun_at hc e h
theorem env0_eq (n : Nat) (as : List AV) : env0 n as = as ++ List.replicate (n - as.length) .unk := rfl
theorem seqK_ite (c : Prop) [Decidable c] (a b : RunR) (k : Env → AHeap → RunR) : seqK (if c then a else b) k = if c then seqK a k else seqK b k := by split <;> rfl
theorem blockK_ite (c : Prop) [Decidable c] (a b : RunR) (i : Nat) : blockK i (if c then a else b) = if c then blockK i a else blockK i b := by split <;> rfl
end
attribute [go_sem] arun_seqC arun_condC seqC_norm seqC_ret seqC_exit condC_true condC_false runOps_guardC guardC_true guardC_false runDraw_guardD guardD_true guardD_false lstepC_norm lstepC_exit lstepC_ret arun_block arun_skip arun_exit arun_ret arun_text arun_draw arun_loop_l blockK_norm blockK_ret blockK_exit_eq blockK_exit_ne normK_some maskR_some mask_nil mask_none mask_true mask_false runOps_nil runOps_plain runDraw_nil runDraw_plain thenOps_value thenOps_call callK_some thenDraw_quiet thenDraw_call callD_quiet gval_some gbool_bool gbool_und aput_some aput_none
attribute [go_sem] oval_tmp oval_const oval_func ofCell_int ofCell_bool ofCell_string ofCell_nil ofCell_ptr ofCell_nilFunc aop_move aop_assign aop_pick aop_alloc aop_box aop_build aop_buildSlice aop_load aop_store aop_nilCheck aop_binOp aop_unOp aop_convert aop_makeFunc aop_makeSlice aop_slice aop_fieldAddr aop_field aop_indexAddr aop_index aop_extract aop_callValue aop_builtin ato_some ato2_some apick_true apick_false apick_bool abin_add abin_sub abin_mul abin_eql abin_neq abin_lss abin_leq abin_gtr abin_geq abin_seq abin_sne abin_slt aun_neg aun_not anil_ptr anil_eptr finish_ret finish_norm aresults_nil aresults_tmp tupOf_one tupOf_nil tupOf_two
attribute [go_sem] hget_zero hget_succ aload_ptr aload_sptr aload_eptr leptr_arr leptr_frz lvars_vars cut_cell cut_agg fits_str fits_int fits_bool fits_slc fits_arr fits_ptr fits_nil fits_agg astore_ptr svars_vars astore_eptr afieldAddr_eq faT_ptr faT_sptr faT_eptr afield_eq fT_agg ixK_some tsz_some tsz_none aindexAddr_eq ixT_slc ixT_arr ixT_aptr ixT_asptr aindex_str strIx_true aindex_agg arrIx_some cells_val cells_agg cells_slc cells_arr cells_ptr abound_none abound_int asliceAt_str slS_some asliceAt_slc slL_some asliceAt_arr slA_some abuildSlice_eq bS_some afillS_nil afillS_cons okVal_int okVal_str okVal_bool okVal_slc okVal_agg okVal_ptr okVal_arr bT_some afill_nil afill_cons fillK_some putAt_nil putAt_cons abuiltin_len abuiltin_append abuiltin_copy abuiltin_min abuiltin_max amin2_int amax2_int afold_nil afold_cons alen_str alen_slc alen_arr lenT_slc lenT_arr aappend_eq aelems_str aelems_slc aelems_arr sview_slc headOk_nil headOk_cons env0_eq acall1_if textK_map textK_cons textK_nil bytesOf_nil bytesOf_cons amin2_int eqPN nePN eqNN neNN eqEN neEN eqFN neFN eqBB neBB
attribute [go_sem] List.getD_cons_zero List.getD_cons_succ List.set_cons_zero List.set_cons_succ Option.map_some Option.map_none Option.bind_some Option.bind_none List.map_cons List.map_nil List.length_cons List.length_nil List.replicate List.cons_append List.nil_append List.append_nil
attribute [go_sem] decide_true decide_false if_true if_false beq_self_eq_true Bool.true_beq Bool.false_beq Bool.not_true Bool.not_false Bool.false_eq_true Int.toNat_natCast true_and and_true List.getElem?_cons_zero List.getElem?_cons_succ
theorem gdst_eq (ops : List Oper) (j : Nat) : gdst ops.toArray j = (ops[j]?).bind (·.dst) := by simp [gdst]
attribute [go_sem] gdst_eq
end Go.Ab
