/-
  The abstract machine without a bound on its rounds: the equations by which it is used.
-/
import Derived.Test.YtlpkfeplbcadbaaAb1
namespace Go.Ab
set_option linter.unusedSimpArgs false
set_option linter.unusedVariables false

def LeO {α : Type} (a b : Option α) : Prop := ∀ r, a = some r → b = some r
theorem LeO.refl {α : Type} (a : Option α) : LeO a a := fun _ h => h
theorem LeO.none {α : Type} (b : Option α) : LeO Option.none b := fun _ h => by cases h
theorem LeO.trans {α : Type} {a b c : Option α} (h : LeO a b) (k : LeO b c) : LeO a c := fun r e => k r (h r e)

section lim
variable {α : Type}
def Mono (s : Nat → Option α) : Prop := ∀ n, LeO (s n) (s (n + 1))
theorem Mono.le {s : Nat → Option α} (h : Mono s) {n m : Nat} (hm : n ≤ m) : LeO (s n) (s m) := by
  induction hm with
  | refl => exact LeO.refl _
  | step _ ih => exact ih.trans (h _)
theorem lim_of {s : Nat → Option α} {r : α} {n : Nat} (h : ∀ m, n ≤ m → s m = some r) : lim s = some r := by
  have hex : ∃ r n, ∀ m, n ≤ m → s m = some r := ⟨r, n, h⟩
  unfold lim
  rw [dif_pos hex]
  obtain ⟨n', hn'⟩ := hex.choose_spec
  have h1 := hn' (max n n') (Nat.le_max_right _ _)
  have h2 := h (max n n') (Nat.le_max_left _ _)
  rw [h1] at h2
  exact h2
theorem Mono.lim_of {s : Nat → Option α} (hs : Mono s) {r : α} {n : Nat} (h : s n = some r) : lim s = some r :=
  Ab.lim_of (n := n) fun _ hm => hs.le hm _ h
theorem of_lim {s : Nat → Option α} {r : α} (h : lim s = some r) : ∃ n, ∀ m, n ≤ m → s m = some r := by
  unfold lim at h
  split at h
  · rename_i hex
    have := hex.choose_spec
    simp only [Option.some.injEq] at h
    rw [h] at this
    exact this
  · cases h
theorem lim_iff {s : Nat → Option α} {r : α} : lim s = some r ↔ ∃ n, ∀ m, n ≤ m → s m = some r :=
  ⟨of_lim, fun ⟨_, h⟩ => lim_of h⟩
theorem lim_const (x : Option α) : lim (fun _ => x) = x := by
  cases x with
  | none =>
    cases h : lim (fun _ => (Option.none : Option α)) with
    | none => rfl
    | some r => obtain ⟨n, hn⟩ := of_lim h; have := hn n (Nat.le_refl n); cases this
  | some r => exact lim_of (n := 0) fun _ _ => rfl
theorem lim_ext {s t : Nat → Option α} (h : ∀ r, (∃ n, ∀ m, n ≤ m → s m = some r) ↔ (∃ n, ∀ m, n ≤ m → t m = some r)) : lim s = lim t := by
  cases hs : lim s with
  | none =>
    cases ht : lim t with
    | none => rfl
    | some r => have := lim_of ((h r).2 (of_lim ht)).choose_spec; rw [hs] at this; cases this
  | some r => exact (lim_of ((h r).1 (of_lim hs)).choose_spec).symm
end lim

/-! ### More rounds give the same answer -/
def LeC (c c' : CallF) : Prop := ∀ f as h, LeO (c f as h) (c' f as h)
section mono
variable {P : Program} {md : FuncId → Nat} {fg : FuncId → Nat → List Bool} {M : Nat → List Bool} {c c' : CallF}
theorem pureRes_mono {a b : Option (AV × AHeap)} (h : LeO a b) : LeO (pureRes a) (pureRes b) := by
  intro r hr
  cases a with
  | none => cases hr
  | some x => rw [h x rfl]; exact hr
theorem doCall_mono (hc : LeC c c') (f : FuncId) (as : List AV) (h : AHeap) : LeO (doCall md c f as h) (doCall md c' f as h) := by
  intro r hr
  unfold doCall at hr ⊢
  split
  · rename_i h0
    rw [if_pos h0] at hr
    split
    · rename_i as' ids he
      simp only [he] at hr
      split
      · rename_i hf
        rw [if_pos hf] at hr
        cases hp : pureRes (c f as' []) with
        | none => rw [hp] at hr; cases hr
        | some v => rw [hp] at hr; rw [pureRes_mono (hc f as' []) v hp]; exact hr
      · rename_i hf; rw [if_neg hf] at hr; cases hr
    · rename_i he; simp only [he] at hr; cases hr
  · rename_i h0
    rw [if_neg h0] at hr
    cases hp : c f as h with
    | none => rw [hp] at hr; cases hr
    | some v => rw [hp] at hr; rw [hc f as h v hp]; exact hr
theorem astep_mono (hc : LeC c c') (env : Env) (h : AHeap) (o : Oper) : LeO (astep P md c env h o) (astep P md c' env h o) := by
  intro r hr
  unfold astep at hr ⊢
  split
  · rename_i he; simp only [he] at hr; exact hr
  · rename_i he; simp only [he] at hr; exact doCall_mono hc _ _ _ r hr
  · rename_i he; simp only [he] at hr; exact hr
theorem runOps_mono (hc : LeC c c') (ops : Array Oper) : ∀ (l : List Oper) (env : Env) (h : AHeap), LeO (runOps P md c ops l env h) (runOps P md c' ops l env h)
  | [], _, _ => LeO.refl _
  | o :: l, env, h => by
    intro r hr
    simp only [runOps] at hr ⊢
    cases hg : aguard ops env o with
    | none => rw [hg] at hr; cases hr
    | some t =>
      rw [hg] at hr
      cases t with
      | true =>
        dsimp only at hr ⊢
        cases hs : astep P md c env h o with
        | none => rw [hs] at hr; cases hr
        | some x => rw [hs] at hr; rw [astep_mono hc env h o x hs]; exact runOps_mono hc ops l _ _ r hr
      | false => exact runOps_mono hc ops l _ _ r hr
theorem runDraw_mono (hc : LeC c c') (ops : Array Oper) : ∀ (l : List Oper) (env : Env) (h : AHeap), LeO (runDraw P md c ops l env h) (runDraw P md c' ops l env h)
  | [], _, _ => LeO.refl _
  | o :: l, env, h => by
    intro r hr
    simp only [runDraw] at hr ⊢
    cases hg : aguard ops env o with
    | none => rw [hg] at hr; cases hr
    | some t =>
      rw [hg] at hr
      cases t with
      | true =>
        dsimp only at hr ⊢
        cases hs : astep P md c env h o with
        | none => rw [hs] at hr; cases hr
        | some x =>
          rw [hs] at hr; rw [astep_mono hc env h o x hs]
          dsimp only at hr ⊢
          split
          · rename_i hq; rw [if_pos hq] at hr; exact runDraw_mono hc ops l _ _ r hr
          · rename_i hq; rw [if_neg hq] at hr; cases hr
      | false => exact runDraw_mono hc ops l _ _ r hr
theorem runLoose_mono (hc : LeC c c') (ops : Array Oper) : ∀ (l : List Oper) (env : Env) (h : AHeap) (hs : List AHeap) (pd : List (Env × Oper × AV)), LeO (runLoose P md c ops l env h hs pd) (runLoose P md c' ops l env h hs pd)
  | [], _, _, _, _ => LeO.refl _
  | o :: l, env, h, hs, pd => by
    intro r hr
    simp only [runLoose] at hr ⊢
    cases hg : aguard ops env o with
    | none => rw [hg] at hr; cases hr
    | some t =>
      rw [hg] at hr
      cases t with
      | true =>
        dsimp only at hr ⊢
        cases hs' : astep P md c env h o with
        | none => rw [hs'] at hr; cases hr
        | some x =>
          rw [hs'] at hr; rw [astep_mono hc env h o x hs']
          dsimp only at hr ⊢
          split
          · rename_i hq; rw [if_pos hq] at hr; exact runLoose_mono hc ops l _ _ _ _ r hr
          · rename_i hq; rw [if_neg hq] at hr; cases hr
      | false => exact runLoose_mono hc ops l _ _ _ _ r hr
theorem maskR_mono {a b : RunR} {m : List Bool} (h : LeO a b) : LeO (maskR m a) (maskR m b) := by
  intro r hr
  cases a with
  | none => cases hr
  | some x => rw [h x rfl]; exact hr
theorem seqK_mono {a b : RunR} {k k' : Env → AHeap → RunR} (h : LeO a b) (hk : ∀ e h, LeO (k e h) (k' e h)) : LeO (seqK a k) (seqK b k') := by
  intro r hr
  cases a with
  | none => cases hr
  | some x =>
    rw [h x rfl]
    obtain ⟨e, v, g⟩ := x
    cases e with
    | norm => exact hk _ _ r hr
    | exit _ => exact hr
    | ret => exact hr
theorem blockK_mono {a b : RunR} {id : Nat} (h : LeO a b) : LeO (blockK id a) (blockK id b) := by
  intro r hr
  cases a with
  | none => cases hr
  | some x => rw [h x rfl]; exact hr
theorem normK_mono {a b : Option (Env × AHeap)} (h : LeO a b) : LeO (normK a) (normK b) := by
  intro r hr
  cases a with
  | none => cases hr
  | some x => rw [h x rfl]; exact hr
theorem iter_mono {f f' : Env → AHeap → RunR} (hf : ∀ e h, LeO (f e h) (f' e h)) : ∀ (n m : Nat), n ≤ m → ∀ e h, LeO (iter f n e h) (iter f' m e h)
  | 0, _, _, _, _ => LeO.none _
  | n + 1, m, hm, e, h => by
    obtain ⟨m, rfl⟩ : ∃ k, m = k + 1 := ⟨m - 1, by omega⟩
    exact seqK_mono (hf e h) (iter_mono hf n m (by omega))
theorem run_mono (hc : LeC c c') {n m : Nat} (hm : n ≤ m) : ∀ (code : Code) (k : List Bool) (e : Env) (h : AHeap), LeO (run P md M c n code k e h) (run P md M c' m code k e h) := by
  intro code
  induction code with
  | skip => intro k e h; exact LeO.refl _
  | region id ops d =>
    intro k e h
    simp only [run]
    split
    · split
      · exact maskR_mono (normK_mono (runLoose_mono hc ops _ _ _ _ _))
      · exact maskR_mono (normK_mono (runDraw_mono hc ops _ _ _))
    · exact maskR_mono (normK_mono (runOps_mono hc ops _ _ _))
  | seq a b iha ihb => intro k e h; exact seqK_mono (iha k e h) (ihb k)
  | cond x a b iha ihb =>
    intro k e h r hr
    simp only [run] at hr ⊢
    unfold condK at hr ⊢
    split at hr
    · split at hr
      · rename_i ht; simp only [ht, if_true]; exact iha _ _ _ r hr
      · rename_i ht; simp only [ht, if_false]; exact ihb _ _ _ r hr
    · cases hr
  | block id c ih => intro k e h; exact blockK_mono (ih _ e h)
  | loop c ih => intro k e h; exact maskR_mono (iter_mono (fun e h => ih k _ h) n m hm e h)
  | exit id => intro k e h; exact LeO.refl _
  | ret => intro k e h; exact LeO.refl _
  | rangeFunc _ _ _ _ _ _ => intro k e h; exact LeO.none _
  | scope _ _ => intro k e h; exact LeO.none _
  | label _ => intro k e h; exact LeO.none _
  | goto _ => intro k e h; exact LeO.none _
  | refuse _ => intro k e h; exact LeO.none _
theorem finish_mono {rs : List ResultVar} {a b : RunR} (h : LeO a b) : LeO (finish P rs a) (finish P rs b) := by
  intro r hr
  cases a with
  | none => cases hr
  | some x => rw [h x rfl]; exact hr
theorem acall_succ : ∀ n, LeC (acall P md fg n) (acall P md fg (n + 1))
  | 0 => fun _ _ _ => LeO.none _
  | n + 1 => by
    intro f as h r hr
    rw [acall] at hr ⊢
    split
    · rename_i hok
      rw [if_pos hok] at hr
      split
      · rename_i fn hfn
        simp only [hfn] at hr
        split
        · rename_i code hb
          simp only [hb] at hr
          exact finish_mono (run_mono (acall_succ n) (Nat.le_succ n) code _ _ _) r hr
        · rename_i hb; simp only [hb] at hr; cases hr
      · rename_i hfn; simp only [hfn] at hr; cases hr
    · rename_i hok; rw [if_neg hok] at hr; cases hr
theorem acall_mono (f : FuncId) (as : List AV) (h : AHeap) : Mono fun n => acall P md fg n f as h := fun n => acall_succ n f as h
theorem arun_mono (code : Code) (m : List Bool) (e : Env) (h : AHeap) : Mono fun n => run P md M (acall P md fg n) n code m e h := fun n => run_mono (acall_succ n) (Nat.le_succ n) code m e h
end mono

/-! ### The equations -/
section eqs
variable {P : Program} {md : FuncId → Nat} {fg : FuncId → Nat → List Bool} {M : Nat → List Bool}
/-- A step over a limit is the limit of the steps. -/
theorem lim_step {α β : Type} {s : Nat → Option α} {F : Nat → Option α → Option β} {G : Option α → Option β} (hs : Mono s)
    (hF : ∀ r n, (∀ m, n ≤ m → s m = some r) → lim (fun m => F m (some r)) = G (some r) ) (hn : ∀ m, F m none = none) (hG : G none = none) : lim (fun m => F m (s m)) = G (lim s) := by
  cases h : lim s with
  | none =>
    have h0 : ∀ m, s m = none := by
      intro m
      cases hm : s m with
      | none => rfl
      | some r => rw [hs.lim_of hm] at h; cases h
    rw [hG]
    have : (fun m => F m (s m)) = fun _ => none := by funext m; rw [h0 m, hn m]
    rw [this, lim_const]
  | some r =>
    obtain ⟨n, hr⟩ := of_lim h
    rw [← hF r n hr]
    apply lim_ext
    intro y
    constructor
    · rintro ⟨k, hk⟩
      exact ⟨max n k, fun m hm => by have := hk m (by omega); rw [hr m (by omega)] at this; exact this⟩
    · rintro ⟨k, hk⟩
      exact ⟨max n k, fun m hm => by rw [hr m (by omega)]; exact hk m (by omega)⟩
open Classical in
theorem lim_doCall (f : FuncId) (as : List AV) (h : AHeap) : lim (fun n => doCall md (acall P md fg n) f as h) = doCall md (aval P md fg) f as h := by
  unfold doCall
  split
  · split
    · split
      · exact lim_step (s := fun n => acall P md fg n f _ []) (F := fun _ x => match pureRes x with | some r => some (r, if flat r then h else frzAll h _) | none => none)
          (G := fun x => match pureRes x with | some r => some (r, if flat r then h else frzAll h _) | none => none) (acall_mono _ _ _) (fun r _ _ => lim_const _) (fun _ => rfl) rfl
      · exact lim_const _
    · exact lim_const _
  · exact lim_step (s := fun n => acall P md fg n f as h) (F := fun _ x => match x with | some (r, h') => if below h.length r = true ∧ GcOk h.length h h' then some (r, h'.take h.length) else some (r, h') | none => none)
          (G := fun x => match x with | some (r, h') => if below h.length r = true ∧ GcOk h.length h h' then some (r, h'.take h.length) else some (r, h') | none => none) (acall_mono _ _ _) (fun r _ _ => lim_const _) (fun _ => rfl) rfl
theorem lim_astep (env : Env) (h : AHeap) (o : Oper) : lim (fun n => astep P md (acall P md fg n) env h o) = astep P md (aval P md fg) env h o := by
  unfold astep
  split
  · exact lim_const _
  · exact lim_doCall _ _ _
  · exact lim_const _
theorem lim_runOps (ops : Array Oper) : ∀ (l : List Oper) (env : Env) (h : AHeap), lim (fun n => runOps P md (acall P md fg n) ops l env h) = runOps P md (aval P md fg) ops l env h
  | [], _, _ => lim_const _
  | o :: l, env, h => by
    simp only [runOps]
    cases hg : aguard ops env o with
    | none => exact lim_const _
    | some t =>
      cases t with
      | true =>
        dsimp only
        rw [← lim_astep]
        refine lim_step (s := fun n => astep P md (acall P md fg n) env h o) (F := fun n x => match x with | some (v, h') => runOps P md (acall P md fg n) ops l (aput env o.dst v) h' | none => none)
          (G := fun x => match x with | some (v, h') => runOps P md (aval P md fg) ops l (aput env o.dst v) h' | none => none) (fun n => astep_mono (acall_succ n) env h o) (fun r _ _ => ?_) (fun _ => rfl) rfl
        obtain ⟨v, h'⟩ := r
        exact lim_runOps ops l _ _
      | false => exact lim_runOps ops l _ _
open Classical in
theorem lim_runDraw (ops : Array Oper) : ∀ (l : List Oper) (env : Env) (h : AHeap), lim (fun n => runDraw P md (acall P md fg n) ops l env h) = runDraw P md (aval P md fg) ops l env h
  | [], _, _ => lim_const _
  | o :: l, env, h => by
    simp only [runDraw]
    cases hg : aguard ops env o with
    | none => exact lim_const _
    | some t =>
      cases t with
      | true =>
        dsimp only
        rw [← lim_astep]
        refine lim_step (s := fun n => astep P md (acall P md fg n) env h o) (F := fun n x => match x with | some (v, h') => if effOp P md o = true ∨ h' = h then runDraw P md (acall P md fg n) ops l (aput env o.dst v) h' else none | none => none)
          (G := fun x => match x with | some (v, h') => if effOp P md o = true ∨ h' = h then runDraw P md (aval P md fg) ops l (aput env o.dst v) h' else none | none => none) (fun n => astep_mono (acall_succ n) env h o) (fun r _ _ => ?_) (fun _ => rfl) rfl
        obtain ⟨v, h'⟩ := r
        dsimp only
        split
        · exact lim_runDraw ops l _ _
        · exact lim_const _
      | false => exact lim_runDraw ops l _ _
open Classical in
theorem lim_runLoose (ops : Array Oper) : ∀ (l : List Oper) (env : Env) (h : AHeap) (hs : List AHeap) (pd : List (Env × Oper × AV)), lim (fun n => runLoose P md (acall P md fg n) ops l env h hs pd) = runLoose P md (aval P md fg) ops l env h hs pd
  | [], _, _, _, _ => lim_const _
  | o :: l, env, h, hs, pd => by
    simp only [runLoose]
    cases hg : aguard ops env o with
    | none => exact lim_const _
    | some t =>
      cases t with
      | true =>
        dsimp only
        rw [← lim_astep]
        refine lim_step (s := fun n => astep P md (acall P md fg n) env h o) (F := fun n x => match x with | some (v, h') => if looseOk P md o env h v h' hs pd then runLoose P md (acall P md fg n) ops l (aput env o.dst v) h' (if effOp P md o then h' :: hs else hs) (if isLoad o then (env, o, v) :: pd else pd) else none | none => none)
          (G := fun x => match x with | some (v, h') => if looseOk P md o env h v h' hs pd then runLoose P md (aval P md fg) ops l (aput env o.dst v) h' (if effOp P md o then h' :: hs else hs) (if isLoad o then (env, o, v) :: pd else pd) else none | none => none) (fun n => astep_mono (acall_succ n) env h o) (fun r _ _ => ?_) (fun _ => rfl) rfl
        obtain ⟨v, h'⟩ := r
        dsimp only
        split
        · exact lim_runLoose ops l _ _ _ _
        · exact lim_const _
      | false => exact lim_runLoose ops l _ _ _ _
theorem arun_skip (m : List Bool) (e : Env) (h : AHeap) : arun P md fg M .skip m e h = some (.norm, e, h) := lim_const _
theorem arun_exit (id : Nat) (m : List Bool) (e : Env) (h : AHeap) : arun P md fg M (.exit id) m e h = some (.exit id, e, h) := lim_const _
theorem arun_ret (m : List Bool) (e : Env) (h : AHeap) : arun P md fg M .ret m e h = some (.ret, e, h) := lim_const _
theorem lim_normK {s : Nat → Option (Env × AHeap)} (hs : Mono s) : lim (fun n => normK (s n)) = normK (lim s) :=
  lim_step (s := s) (F := fun _ x => normK x) (G := normK) hs (fun _ _ _ => lim_const _) (fun _ => rfl) rfl
theorem lim_maskR {s : Nat → RunR} (m : List Bool) (hs : Mono s) : lim (fun n => maskR m (s n)) = maskR m (lim s) :=
  lim_step (s := s) (F := fun _ x => maskR m x) (G := maskR m) hs (fun _ _ _ => lim_const _) (fun _ => rfl) rfl
theorem arun_region (id : Nat) (ops : Array Oper) (d : Bool) (m : List Bool) (e : Env) (h : AHeap) :
    arun P md fg M (.region id ops d) m e h = maskR (M 0) (normK (if d then (if looseAt M id then runLoose P md (aval P md fg) ops ops.toList e h [h] [] else runDraw P md (aval P md fg) ops ops.toList e h) else runOps P md (aval P md fg) ops ops.toList e h)) := by
  unfold arun
  simp only [run]
  cases d with
  | true =>
    simp only [if_true]
    split
    · rw [← lim_runLoose, ← lim_normK fun n => runLoose_mono (acall_succ n) ops _ _ _ _ _]
      exact lim_maskR _ fun n => normK_mono (runLoose_mono (acall_succ n) ops _ _ _ _ _)
    · rw [← lim_runDraw, ← lim_normK fun n => runDraw_mono (acall_succ n) ops _ _ _]
      exact lim_maskR _ fun n => normK_mono (runDraw_mono (acall_succ n) ops _ _ _)
  | false =>
    simp only [Bool.false_eq_true, if_false]
    rw [← lim_runOps, ← lim_normK fun n => runOps_mono (acall_succ n) ops _ _ _]
    exact lim_maskR _ fun n => normK_mono (runOps_mono (acall_succ n) ops _ _ _)
theorem lim_seqK {s : Nat → RunR} {k : Nat → Env → AHeap → RunR} (hs : Mono s) : lim (fun n => seqK (s n) (k n)) = seqK (lim s) fun e h => lim fun n => k n e h := by
  refine lim_step (s := s) (F := fun n x => seqK x (k n)) (G := fun x => seqK x fun e h => lim fun n => k n e h) hs (fun r _ _ => ?_) (fun _ => rfl) rfl
  obtain ⟨x, e, h⟩ := r
  cases x with
  | norm => rfl
  | exit _ => exact lim_const _
  | ret => exact lim_const _
theorem arun_seq (a b : Code) (m : List Bool) (e : Env) (h : AHeap) : arun P md fg M (.seq a b) m e h = seqK (arun P md fg M a m e h) fun e h => arun P md fg M b m e h :=
  lim_seqK (arun_mono a m e h)
theorem arun_cond (c : Operand) (a b : Code) (m : List Bool) (e : Env) (h : AHeap) : arun P md fg M (.cond c a b) m e h = condK (oval e c) (arun P md fg M a m e h) (arun P md fg M b m e h) := by
  show lim (fun n => condK _ _ _) = _
  unfold condK
  split
  · split <;> rfl
  · exact lim_const _
theorem arun_block (id : Nat) (c : Code) (m : List Bool) (e : Env) (h : AHeap) : arun P md fg M (.block id c) m e h = blockK id (arun P md fg M c (M (id + 1)) e h) := by
  refine lim_step (s := fun n => run P md M (acall P md fg n) n c (M (id + 1)) e h) (F := fun _ x => blockK id x) (G := blockK id) (arun_mono c _ e h) (fun r _ _ => lim_const _) (fun _ => rfl) rfl
/-- A loop without its last forgetting. -/
noncomputable def aloop (P : Program) (md : FuncId → Nat) (fg : FuncId → Nat → List Bool) (M : Nat → List Bool) (c : Code) (m : List Bool) (e : Env) (h : AHeap) : RunR :=
  lim fun n => iter (fun e h => run P md M (acall P md fg n) n c m (mask m e) h) n e h
theorem iter_mono_n (c : Code) (m : List Bool) (e : Env) (h : AHeap) : Mono fun n => iter (fun e h => run P md M (acall P md fg n) n c m (mask m e) h) n e h :=
  fun n => iter_mono (fun e h => run_mono (acall_succ n) (Nat.le_succ n) c m _ h) n (n + 1) (Nat.le_succ n) e h
theorem arun_loop (c : Code) (m : List Bool) (e : Env) (h : AHeap) : arun P md fg M (.loop c) m e h = maskR m (aloop P md fg M c m e h) :=
  lim_maskR m (iter_mono_n c m e h)
theorem aloop_eq (c : Code) (m : List Bool) (e : Env) (h : AHeap) : aloop P md fg M c m e h = seqK (arun P md fg M c m (mask m e) h) fun e h => aloop P md fg M c m e h := by
  have h1 : aloop P md fg M c m e h = lim fun n => iter (fun e h => run P md M (acall P md fg (n + 1)) (n + 1) c m (mask m e) h) (n + 1) e h := by
    apply lim_ext
    intro r
    constructor
    · rintro ⟨n, hn⟩
      exact ⟨n, fun m hm => hn (m + 1) (by omega)⟩
    · rintro ⟨n, hn⟩
      exact ⟨n + 1, fun m hm => by obtain ⟨k, rfl⟩ : ∃ k, m = k + 1 := ⟨m - 1, by omega⟩; exact hn k (by omega)⟩
  rw [h1]
  have h2 : arun P md fg M c m (mask m e) h = lim fun n => run P md M (acall P md fg (n + 1)) (n + 1) c m (mask m e) h := by
    apply lim_ext
    intro r
    constructor
    · rintro ⟨n, hn⟩
      exact ⟨n, fun m hm => hn (m + 1) (by omega)⟩
    · rintro ⟨n, hn⟩
      exact ⟨n + 1, fun m hm => by obtain ⟨k, rfl⟩ : ∃ k, m = k + 1 := ⟨m - 1, by omega⟩; exact hn k (by omega)⟩
  rw [h2]
  show lim (fun n => seqK (run P md M (acall P md fg (n + 1)) (n + 1) c m (mask m e) h) (iter (fun e h => run P md M (acall P md fg (n + 1)) (n + 1) c m (mask m e) h) n)) = _
  rw [lim_seqK (s := fun n => run P md M (acall P md fg (n + 1)) (n + 1) c m (mask m e) h) (fun n => arun_mono c m _ h (n + 1))]
  congr 1
  funext e' h'
  apply lim_ext
  intro r
  constructor
  · rintro ⟨n, hn⟩
    refine ⟨n + 1, fun m hm => ?_⟩
    obtain ⟨k, rfl⟩ : ∃ k, m = k + 1 := ⟨m - 1, by omega⟩
    have := hn k (by omega)
    exact iter_mono (fun e h => LeO.refl _) k (k + 1) (Nat.le_succ k) e' h' r this
  · rintro ⟨n, hn⟩
    refine ⟨n, fun m' hm => ?_⟩
    have := hn m' hm
    exact iter_mono (fun e h => run_mono (acall_succ m') (Nat.le_succ m') c m _ h) m' m' (Nat.le_refl m') e' h' r this
theorem mask_mask : ∀ (m : List Bool) (e : Env), mask m (mask m e) = mask m e
  | [], e => by cases e <;> rfl
  | true :: m, [] => rfl
  | false :: m, [] => rfl
  | true :: m, x :: e => by simp only [mask, mask_mask m e]
  | false :: m, x :: e => by simp only [mask, mask_mask m e]
/-- What is forgotten at a loop's head. -/
theorem aloop_mask (c : Code) (m : List Bool) (e : Env) (h : AHeap) : aloop P md fg M c m e h = aloop P md fg M c m (mask m e) h := by
  rw [aloop_eq c m e h, aloop_eq c m (mask m e) h, mask_mask]
theorem finish_lim (rs : List ResultVar) {s : Nat → RunR} (hs : Mono s) : lim (fun n => finish P rs (s n)) = finish P rs (lim s) :=
  lim_step (s := s) (F := fun _ x => finish P rs x) (G := finish P rs) hs (fun _ _ _ => lim_const _) (fun _ => rfl) rfl
/-- A function's body, run once. -/
theorem aval_eq {f : FuncId} {fn : Func} {c : Code} {rs : Array ResultVar} {nt : Nat} (hf : P.funcs[f]? = some fn) (hb : fn.body = some c) (hr : fn.results = rs) (hn : fn.ntmps = nt) (hok : fnOk P md fg f = true) (args : List AV) (h : AHeap) :
    aval P md fg f args h = finish P rs.toList (arun P md fg (fg f) c [] (env0 nt args) h) := by
  subst hr; subst hn
  unfold aval arun
  rw [← finish_lim fn.results.toList (arun_mono c _ _ _)]
  apply lim_ext
  intro r
  have key : ∀ n, acall P md fg (n + 1) f args h = finish P fn.results.toList (run P md (fg f) (acall P md fg n) n c [] (env0 fn.ntmps args) h) := by
    intro n; rw [acall, if_pos hok]; simp only [hf, hb]
  constructor
  · rintro ⟨n, hn⟩
    exact ⟨n, fun m hm => by rw [← key]; exact hn (m + 1) (by omega)⟩
  · rintro ⟨n, hn⟩
    exact ⟨n + 1, fun m hm => by obtain ⟨k, rfl⟩ : ∃ k, m = k + 1 := ⟨m - 1, by omega⟩; rw [key]; exact hn k (by omega)⟩
end eqs
end Go.Ab
