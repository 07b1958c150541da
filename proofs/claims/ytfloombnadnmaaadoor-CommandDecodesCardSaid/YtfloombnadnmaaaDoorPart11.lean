/- Parts of the proof, each with its own heading: The quick reckoning machine: code and functions. Commands: packages' names. Commands: strings.Trim. Commands: packages' names, both ways. Commands: packages' names as the document says. Commands: pins, and which commands are right. Commands: which are right. -/
import Derived.Test.YtfloombnadnmaaaDoorPart10
namespace Go.Ab
set_option linter.unusedSimpArgs false
set_option linter.unusedVariables false
section
variable {P : Program} {md : FuncId → Nat} {call : CallF} {n : Nat} {s s' : SEnv} {env : Env} {h h' : AHeap}
noncomputable def sguard (ops : Array Oper) (n : Nat) (s : SEnv) (o : Oper) : Option Bool :=
  match o.guard with
  | none => some true
  | some (j, want) => match (ops[j]?).bind (·.dst) with
    | none => some false
    | some d => match rdT n s d with
      | .unk => none
      | .val (.bool b) => some (b == want)
      | _ => some false
theorem sguard_eq (hS : Sim n s env) (ops : Array Oper) (o : Oper) : sguard ops n s o = aguard ops env o := by
  unfold sguard aguard
  simp only [hS.2]
  rfl
noncomputable def sstep (P : Program) (md : FuncId → Nat) (call : CallF) (n : Nat) (s : SEnv) (h : AHeap) (o : Oper) : Option (AV × AHeap) :=
  match aopR P (rdo n s) h o with
  | some (.value v h') => some (v, h')
  | some (.call f args h') => cdo md call f args h'
  | none => none
theorem sstep_eq (hS : Sim n s env) (h : AHeap) (o : Oper) : sstep P md call n s h o = cstep P md call env h o := by
  unfold sstep cstep
  rw [← hS.oval, aopR_eq]
  rfl
noncomputable def sops (P : Program) (md : FuncId → Nat) (call : CallF) (ops : Array Oper) (n : Nat) : List Oper → SEnv → AHeap → Option (SEnv × AHeap)
  | [], s, h => some (s, h)
  | o :: r, s, h =>
    match sguard ops n s o with
    | some true => match sstep P md call n s h o with
      | some (v, h') => sops P md call ops n r (sput s o.dst v) h'
      | none => none
    | some false => sops P md call ops n r (sput s o.dst .und) h
    | none => none
theorem sops_ok {ops : Array Oper} : ∀ {l : List Oper} {s : SEnv} {env : Env} {h : AHeap} {s' : SEnv} {h' : AHeap}, sops P md call ops n l s h = some (s', h') → Sim n s env → ∃ env', runOps P md call ops l env h = some (env', h') ∧ Sim n s' env'
  | [], _, _, _, _, _, e, hS => by cases e; exact ⟨_, rfl, hS⟩
  | o :: l, s, env, h, s', h', e, hS => by
    simp only [sops] at e
    simp only [runOps]
    rw [sguard_eq hS] at e
    cases hg : aguard ops env o with
    | none => rw [hg] at e; cases e
    | some t =>
      rw [hg] at e
      cases t with
      | true =>
        dsimp only at e ⊢
        rw [sstep_eq hS] at e
        cases hs : cstep P md call env h o with
        | none => rw [hs] at e; cases e
        | some x => rw [hs] at e; rw [cstep_eq hs]; exact sops_ok e (hS.put _ _)
      | false => exact sops_ok e (hS.put _ _)
/-- An operation that turns nothing. -/
def quietS (P : Program) (md : FuncId → Nat) (o : Oper) (h h' : AHeap) : Bool := effOp P md o || sameH o || heapB h' h
theorem quietS_ok {o : Oper} {v : AV} (q : quietS P md o h h' = true) (e : cstep P md call env h o = some (v, h')) : effOp P md o = true ∨ h' = h := by
  simp only [quietS, Bool.or_eq_true] at q
  rcases q with (q | q) | q
  · exact .inl q
  · unfold cstep at e
    split at e
    · rename_i he
      cases e
      obtain ⟨v', hv⟩ := aop_same q he
      cases hv; exact .inr rfl
    · rename_i he
      obtain ⟨v', hv⟩ := aop_same q he
      cases hv
    · cases e
  · exact .inr (heapB_eq q)
noncomputable def sdraw (P : Program) (md : FuncId → Nat) (call : CallF) (ops : Array Oper) (n : Nat) : List Oper → SEnv → AHeap → Option (SEnv × AHeap)
  | [], s, h => some (s, h)
  | o :: r, s, h =>
    match sguard ops n s o with
    | some true => match sstep P md call n s h o with
      | some (v, h') => if quietS P md o h h' then sdraw P md call ops n r (sput s o.dst v) h' else none
      | none => none
    | some false => sdraw P md call ops n r (sput s o.dst .und) h
    | none => none
theorem sdraw_ok {ops : Array Oper} : ∀ {l : List Oper} {s : SEnv} {env : Env} {h : AHeap} {s' : SEnv} {h' : AHeap}, sdraw P md call ops n l s h = some (s', h') → Sim n s env → ∃ env', runDraw P md call ops l env h = some (env', h') ∧ Sim n s' env'
  | [], _, _, _, _, _, e, hS => by cases e; exact ⟨_, rfl, hS⟩
  | o :: l, s, env, h, s', h', e, hS => by
    simp only [sdraw] at e
    simp only [runDraw]
    rw [sguard_eq hS] at e
    cases hg : aguard ops env o with
    | none => rw [hg] at e; cases e
    | some t =>
      rw [hg] at e
      cases t with
      | true =>
        dsimp only at e ⊢
        rw [sstep_eq hS] at e
        cases hs : cstep P md call env h o with
        | none => rw [hs] at e; cases e
        | some x =>
          rw [hs] at e; rw [cstep_eq hs]
          dsimp only at e ⊢
          split at e
          · rename_i hq
            rw [if_pos (quietS_ok hq hs)]
            exact sdraw_ok e (hS.put _ _)
          · cases e
      | false => exact sdraw_ok e (hS.put _ _)
/-! ### Regions with an order of their own -/
abbrev SPend := List (SEnv × Oper × AV × List Nat)
def stepV (x : Option (AV × AHeap)) (v : AV) : Bool :=
  match x with
  | some (a, _) => avB a v
  | none => false
def nextV (x : Option ANext) (v : AV) : Bool :=
  match x with
  | some (.value a _) => avB a v
  | _ => false
theorem isLoad_same {o : Oper} (h : isLoad o = true) : sameH o = true := by
  unfold isLoad at h
  unfold sameH
  split at h <;> first | (rename_i e; simp only [e]) | cases h
theorem nextV_ok {o : Oper} {v : AV} {g : AHeap} (hl : isLoad o = true) (e : nextV (aop P env g o) v = true) : aop P env g o = some (.value v g) := by
  unfold nextV at e
  split at e
  · rename_i a g' he
    obtain ⟨v', hv⟩ := aop_same (isLoad_same hl) he
    cases hv
    rw [he, avB_eq e]
  · cases e
theorem stepV_ok {o : Oper} {v : AV} {g : AHeap} (hl : isLoad o = true) (e : stepV (cstep P md call env g o) v = true) : cstep P md call env g o = some (v, g) := by
  unfold stepV at e
  split at e
  · rename_i a g' he
    have hq := quietS_ok (md := md) (by simp [quietS, isLoad_same hl]) he
    rw [isLoad_eff hl] at hq
    rcases hq with hq | hq
    · cases hq
    · rw [he, avB_eq e, hq]
  · cases e
noncomputable def sokG (P : Program) (md : FuncId → Nat) (call : CallF) (n n0 : Nat) (U : List Nat) (o : Oper) (s : SEnv) (h : AHeap) (v : AV) (h' : AHeap) (hs : List AHeap) (pd : SPend) : Bool :=
  quietS P md o h h' &&
  ((!(effOp P md o || readOp P o) || (subs U).tail.all fun T => if isLoad o then stepV (sstep P md call n s (killAt n0 h T) o) v else stepB (sstep P md call n s (killAt n0 h T) o) v (killAt n0 h' T)) &&
  ((!effOp P md o || pd.all fun p => isLoad p.2.1 && (subs p.2.2.2).all fun T => nextV (aopR P (rdo n p.1) (killAt n0 h' T) p.2.1) p.2.2.1) &&
  ((!isLoad o || hs.all fun g => (subs U).all fun T => nextV (aopR P (rdo n s) (killAt n0 g T) o) v) &&
  (!effOp P md o || U.all fun k => objB (hget h' (n0 + k)) (hget h (n0 + k))))))
/-- Loads that are to be looked at again, alike. -/
def PSim (n : Nat) (pd : SPend) (qd : Pend) : Prop := ∀ q ∈ qd, ∃ p ∈ pd, Sim n p.1 q.1 ∧ p.2 = q.2
theorem sokG_ok {n0 : Nat} {U : List Nat} {o : Oper} {v : AV} {hs : List AHeap} {pd : SPend} {qd : Pend} (hS : Sim n s env) (hP : PSim n pd qd) (e : sokG P md call n n0 U o s h v h' hs pd = true)
    (hst : cstep P md call env h o = some (v, h')) : okG P md call n0 U o env h v h' hs qd := by
  unfold sokG at e
  simp only [Bool.and_eq_true, Bool.or_eq_true, Bool.not_eq_true', List.all_eq_true] at e
  obtain ⟨e1, e2, e3, e4, e5⟩ := e
  have hq := quietS_ok e1 hst
  refine ⟨hq, ?_, ?_, ?_, ?_⟩
  · intro hr T hT
    rw [subs_tail U] at hT
    rcases List.mem_cons.1 hT with rfl | hT
    · exact cstep_eq hst
    · rcases e2 with e2 | e2
      · rw [e2] at hr; cases hr
      · have := e2 T hT
        rw [sstep_eq hS] at this
        split at this
        · rename_i hl
          have hh : h' = h := by
            rcases hq with hq | hq
            · rw [isLoad_eff hl] at hq; cases hq
            · exact hq
          rw [hh]
          exact cstep_eq (stepV_ok hl this)
        · exact cstep_eq (stepB_eq this)
  · intro he q hqm T hT
    rcases e3 with e3 | e3
    · rw [e3] at he; cases he
    · obtain ⟨p, hp, hs1, hs2⟩ := hP q hqm
      obtain ⟨k1, k2⟩ := e3 p hp
      rw [← hs1.oval] at k2
      rw [← hs2] at hT ⊢
      have k3 := k2 T hT
      rw [aopR_eq] at k3
      exact nextV_ok k1 k3
  · intro hl g hg T hT
    rcases e4 with e4 | e4
    · rw [e4] at hl; cases hl
    · have := e4 g hg T hT
      rw [← hS.oval, aopR_eq] at this
      exact nextV_ok hl this
  · intro he k hk
    rcases e5 with e5 | e5
    · rw [e5] at he; cases he
    · exact objB_eq (e5 k hk)
noncomputable def sG (P : Program) (md : FuncId → Nat) (call : CallF) (ops : Array Oper) (n n0 : Nat) (U : Nat → List Nat) : List Nat → SEnv → AHeap → List AHeap → SPend → Option (SEnv × AHeap)
  | [], s, h, _, _ => some (s, h)
  | i :: r, s, h, hs, pd => match ops[i]? with
    | none => none
    | some o =>
      match sguard ops n s o with
      | some true => match sstep P md call n s h o with
        | some (v, h') => if sokG P md call n n0 (U i) o s h v h' hs pd then sG P md call ops n n0 U r (sput s o.dst v) h' (if effOp P md o then h' :: hs else hs) (if isLoad o then (s, o, v, U i) :: pd else pd) else none
        | none => none
      | some false => sG P md call ops n n0 U r (sput s o.dst .und) h hs pd
      | none => none
theorem sG_ok {ops : Array Oper} {n0 : Nat} {U : Nat → List Nat} : ∀ {l : List Nat} {s : SEnv} {env : Env} {h : AHeap} {hs : List AHeap} {pd : SPend} {qd : Pend} {s' : SEnv} {h' : AHeap}, sG P md call ops n n0 U l s h hs pd = some (s', h') → Sim n s env → PSim n pd qd →
    ∃ env', runG P md call ops n0 U l env h hs qd = some (env', h') ∧ Sim n s' env'
  | [], _, _, _, _, _, _, _, _, e, hS, _ => by cases e; exact ⟨_, rfl, hS⟩
  | i :: l, s, env, h, hs, pd, qd, s', h', e, hS, hP => by
    simp only [sG] at e
    simp only [runG]
    cases ho : ops[i]? with
    | none => rw [ho] at e; cases e
    | some o =>
      rw [ho] at e
      dsimp only at e ⊢
      rw [sguard_eq hS] at e
      cases hg : aguard ops env o with
      | none => rw [hg] at e; cases e
      | some t =>
        rw [hg] at e
        cases t with
        | true =>
          dsimp only at e ⊢
          rw [sstep_eq hS] at e
          cases hs : cstep P md call env h o with
          | none => rw [hs] at e; cases e
          | some x =>
            rw [hs] at e; rw [cstep_eq hs]
            dsimp only at e ⊢
            split at e
            · rename_i hq
              rw [if_pos (sokG_ok hS hP hq hs)]
              refine sG_ok e (hS.put _ _) ?_
              intro q hq
              split at hq
              · rename_i hl
                rw [if_pos hl]
                rcases List.mem_cons.1 hq with rfl | hq
                · exact ⟨_, List.mem_cons_self .., hS, rfl⟩
                · obtain ⟨p, hp, k⟩ := hP q hq
                  exact ⟨p, List.mem_cons_of_mem _ hp, k⟩
              · rename_i hl
                rw [if_neg hl]
                exact hP q hq
            · cases e
        | false => exact sG_ok e (hS.put _ _) hP
noncomputable def sA (P : Program) (ops : Array Oper) (n : Nat) : List Nat → SEnv → AHeap → Option (SEnv × AHeap)
  | [], s, h => some (s, h)
  | i :: r, s, h => match ops[i]? with
    | some o => match aopR P (rdo n s) h o with
      | some (.value v h') => sA P ops n r (sput s o.dst v) h'
      | _ => none
    | none => none
theorem sA_ok {ops : Array Oper} : ∀ {l : List Nat} {s : SEnv} {env : Env} {h : AHeap} {s' : SEnv} {h' : AHeap}, sA P ops n l s h = some (s', h') → Sim n s env → ∃ env', runA P ops l env h = some (env', h') ∧ Sim n s' env'
  | [], _, _, _, _, _, e, hS => by cases e; exact ⟨_, rfl, hS⟩
  | i :: l, s, env, h, s', h', e, hS => by
    simp only [sA] at e
    simp only [runA]
    cases ho : ops[i]? with
    | none => rw [ho] at e; cases e
    | some o =>
      rw [ho] at e
      dsimp only at e ⊢
      rw [← hS.oval, aopR_eq] at e
      cases ha : aop P env h o with
      | none => rw [ha] at e; cases e
      | some x =>
        rw [ha] at e
        cases x with
        | value v h1 => exact sA_ok e (hS.put _ _)
        | call _ _ _ => cases e
noncomputable def sGA (P : Program) (md : FuncId → Nat) (call : CallF) (ops : Array Oper) (n : Nat) (sq : List Nat) (m : Nat) (U : Nat → List Nat) (s : SEnv) (h : AHeap) : Option (SEnv × AHeap) :=
  match sA P ops n (sq.take m) s h with
  | some (s1, h1) => sG P md call ops n h.length U (sq.drop m) s1 h1 [h1] []
  | none => none
theorem sGA_ok {ops : Array Oper} {sq : List Nat} {m : Nat} {U : Nat → List Nat} (e : sGA P md call ops n sq m U s h = some (s', h')) (hS : Sim n s env) : ∃ env', runGA P md call ops sq m U env h = some (env', h') ∧ Sim n s' env' := by
  unfold sGA at e; unfold runGA
  cases hA : sA P ops n (sq.take m) s h with
  | none => rw [hA] at e; cases e
  | some q =>
    rw [hA] at e
    obtain ⟨e1, k1, k2⟩ := sA_ok (env := env) hA hS
    rw [k1]
    exact sG_ok e k2 (fun q hq => by cases hq)
/-! ### Code -/
abbrev SR := Option (Ex × SEnv × AHeap)
def sseqK (r : SR) (k : SEnv → AHeap → SR) : SR :=
  match r with
  | some (.norm, e, h) => k e h
  | r => r
def sblockK (id : Nat) (r : SR) : SR :=
  match r with
  | some (.exit i, e, h) => if i = id then some (.norm, e, h) else some (.exit i, e, h)
  | r => r
def siter (f : SEnv → AHeap → SR) : Nat → SEnv → AHeap → SR
  | 0, _, _ => none
  | n + 1, e, h => sseqK (f e h) (siter f n)
def scondK (c : AV) (a b : SR) : SR :=
  match c with
  | .val (.bool t) => if t then a else b
  | _ => none
/-- A region's end: what is read no more is forgotten. -/
noncomputable def sendK (m : List Bool) (r : Option (SEnv × AHeap)) : SR :=
  match r with
  | some (s, h) => forceS (smask m s) fun s => forceL h fun h => some (.norm, s, h)
  | none => none
noncomputable def smaskR (m : List Bool) (r : SR) : SR :=
  match r with
  | some (x, s, h) => some (x, smask m s, h)
  | none => none
noncomputable def srun (P : Program) (md : FuncId → Nat) (M : Nat → List Bool) (call : CallF) (k n : Nat) : Code → List Bool → SEnv → AHeap → SR
  | .skip, _, s, h => some (.norm, s, h)
  | .region id ops d, _, s, h => sendK (M 0) (if d then (if looseAt M id then sGA P md call ops n (seqAt M id) (allocsAt M id) (unordAt M id) s h else sdraw P md call ops n ops.toList s h) else sops P md call ops n ops.toList s h)
  | .seq a b, m, s, h => sseqK (srun P md M call k n a m s h) fun s h => srun P md M call k n b m s h
  | .cond c a b, m, s, h => scondK (rdo n s c) (srun P md M call k n a m s h) (srun P md M call k n b m s h)
  | .block id c, _, s, h => sblockK id (srun P md M call k n c (M (id + 1)) s h)
  | .loop c, m, s, h => smaskR m (siter (fun s h => srun P md M call k n c m (smask m s) h) k s h)
  | .exit id, _, s, h => some (.exit id, s, h)
  | .ret, _, s, h => some (.ret, s, h)
  | _, _, _, _ => none
/-- A run in one form answers as the other does. -/
def SimR (n : Nat) (a : SR) (b : RunR) : Prop := ∀ x s h, a = some (x, s, h) → ∃ env, b = some (x, env, h) ∧ Sim n s env
theorem SimR.seq {a : SR} {b : RunR} {f : SEnv → AHeap → SR} {g : Env → AHeap → RunR} (h : SimR n a b) (hk : ∀ s env h, Sim n s env → SimR n (f s h) (g env h)) : SimR n (sseqK a f) (seqK b g) := by
  intro x s h' e
  unfold sseqK at e
  split at e
  · rename_i s1 h1
    obtain ⟨env, k1, k2⟩ := h _ _ _ rfl
    rw [k1]
    exact hk s1 env h1 k2 x s h' e
  · rename_i hne
    obtain ⟨env, k1, k2⟩ := h _ _ _ e
    rw [k1]
    refine ⟨env, ?_, k2⟩
    unfold seqK
    split
    · rename_i s1 h1 e1
      cases e1
      exact absurd e (hne _ _)
    · rfl
theorem SimR.iter {f : SEnv → AHeap → SR} {g : Env → AHeap → RunR} (hk : ∀ s env h, Sim n s env → SimR n (f s h) (g env h)) : ∀ (k : Nat) (s : SEnv) (env : Env) (h : AHeap), Sim n s env → SimR n (siter f k s h) (iter g k env h)
  | 0, _, _, _, _ => fun _ _ _ e => by cases e
  | k + 1, s, env, h, hS => SimR.seq (hk s env h hS) fun s env h hS => SimR.iter hk k s env h hS
theorem srun_ok {M : Nat → List Bool} {k : Nat} : ∀ (c : Code) (m : List Bool) (s : SEnv) (env : Env) (h : AHeap), Sim n s env → SimR n (srun P md M call k n c m s h) (run P md M call k c m env h) := by
  intro c
  induction c with
  | skip => intro m s env h hS x s' h' e; cases e; exact ⟨env, rfl, hS⟩
  | region id ops d =>
    intro m s env h hS x s' h' e
    simp only [srun] at e
    unfold sendK at e
    split at e
    · rename_i s1 h1 he
      rw [forceS_eq, forceL_eq] at e
      cases e
      have : ∃ env', (if d then (if looseAt M id then runGA P md call ops (seqAt M id) (allocsAt M id) (unordAt M id) env h else runDraw P md call ops ops.toList env h) else runOps P md call ops ops.toList env h) = some (env', h') ∧ Sim n s1 env' := by
        split at he
        · rename_i hd
          rw [if_pos hd]
          split at he
          · rename_i hl; rw [if_pos hl]; exact sGA_ok he hS
          · rename_i hl; rw [if_neg hl]; exact sdraw_ok he hS
        · rename_i hd
          rw [if_neg hd]
          exact sops_ok he hS
      obtain ⟨env', k1, k2⟩ := this
      simp only [run]
      rw [k1]
      exact ⟨_, rfl, k2.mask _⟩
    · cases e
  | seq a b iha ihb => intro m s env h hS; exact SimR.seq (iha m s env h hS) fun s env h hS => ihb m s env h hS
  | cond c a b iha ihb =>
    intro m s env h hS
    simp only [srun, run]
    rw [← hS.oval]
    intro x s' h' e
    unfold scondK at e
    unfold condK
    split at e
    · rename_i t heq
      rw [heq]
      dsimp only
      cases t with
      | true => exact iha m s env h hS x s' h' e
      | false => exact ihb m s env h hS x s' h' e
    · cases e
  | block id c ih =>
    intro m s env h hS x s' h' e
    simp only [srun] at e
    simp only [run]
    unfold sblockK at e
    split at e
    · rename_i i s1 h1 he
      obtain ⟨env', k1, k2⟩ := ih _ s env h hS _ _ _ he
      rw [k1]
      split at e
      · rename_i hi; cases e; exact ⟨env', by simp [blockK, hi], k2⟩
      · rename_i hi; cases e; exact ⟨env', by simp [blockK, hi], k2⟩
    · rename_i hne
      obtain ⟨env', k1, k2⟩ := ih _ s env h hS _ _ _ e
      rw [k1]
      refine ⟨env', ?_, k2⟩
      unfold blockK
      split
      · rename_i e1; cases e1; exact absurd e (hne _ _ _)
      · rfl
  | loop c ih =>
    intro m s env h hS x s' h' e
    simp only [srun] at e
    simp only [run]
    unfold smaskR at e
    split at e
    · rename_i x1 s1 h1 he
      cases e
      obtain ⟨env', k1, k2⟩ := SimR.iter (n := n) (fun s env h hS => ih m (smask m s) (mask m env) h (hS.mask m)) k s env h hS _ _ _ he
      rw [k1]
      exact ⟨_, rfl, k2.mask m⟩
    · cases e
  | exit id => intro m s env h hS x s' h' e; cases e; exact ⟨env, rfl, hS⟩
  | ret => intro m s env h hS x s' h' e; cases e; exact ⟨env, rfl, hS⟩
  | _ => intro m s env h hS x s' h' e; simp only [srun] at e; cases e
/-! ### Functions -/
def sinit : List AV → Nat → SEnv
  | [], _ => []
  | a :: r, i => (i, a) :: sinit r (i + 1)
theorem sinit_look : ∀ (l : List AV) (i t : Nat), look (sinit l i) t = if i ≤ t then (l[t - i]?).getD .unk else .unk
  | [], i, t => by simp [sinit, look_nil]
  | a :: r, i, t => by
    rw [sinit, look_cons, sinit_look r (i + 1) t]
    by_cases h : i = t
    · subst h; simp
    · rw [if_neg h]
      by_cases h1 : i ≤ t
      · rw [if_pos h1, if_pos (by omega), show t - i = (t - (i + 1)) + 1 by omega, List.getElem?_cons_succ]
      · rw [if_neg h1, if_neg (by omega)]
theorem sinit_sim (nt : Nat) (args : List AV) : Sim (args.length + (nt - args.length)) (sinit args 0) (env0 nt args) := by
  refine ⟨by simp [env0], fun t => ?_⟩
  rw [rdT_eq, sinit_look]
  simp only [Nat.zero_le, if_true, Nat.sub_zero]
  unfold env0
  rw [List.getD_eq_getElem?_getD, List.getElem?_append]
  by_cases h : t < args.length
  · rw [if_pos h, if_pos (by omega), List.getElem?_eq_getElem h]; rfl
  · rw [if_neg h, List.getElem?_replicate, List.getElem?_eq_none (l := args) (by omega)]
    by_cases h2 : t < args.length + (nt - args.length)
    · rw [if_pos h2, if_pos (by omega)]; rfl
    · rw [if_neg h2, if_neg (by omega)]; rfl
noncomputable def sresults (P : Program) (n : Nat) (rs : List ResultVar) (s : SEnv) (h : AHeap) : Option (List AV) :=
  match rs with
  | [] => some []
  | .tmp t :: r => (sresults P n r s h).map (rdT n s t :: ·)
  | .cell a t :: r => match aload P t h (rdT n s a), sresults P n r s h with
    | some v, some l => some (v :: l)
    | _, _ => none
theorem sresults_eq (hS : Sim n s env) (h : AHeap) : ∀ rs : List ResultVar, sresults P n rs s h = aresults P rs env h
  | [] => rfl
  | .tmp t :: r => by rw [sresults, aresults, sresults_eq hS h r, hS.2]
  | .cell a t :: r => by rw [sresults, aresults, sresults_eq hS h r, hS.2]; rfl
noncomputable def sfinish (P : Program) (n : Nat) (rs : List ResultVar) (r : SR) : Option (AV × AHeap) :=
  match r with
  | some (.norm, s, h) => (sresults P n rs s h).map fun l => (tupOf l, h)
  | some (.ret, s, h) => (sresults P n rs s h).map fun l => (tupOf l, h)
  | _ => none
theorem sfinish_ok {rs : List ResultVar} {a : SR} {b : RunR} {r : AV × AHeap} (hab : SimR n a b) (e : sfinish P n rs a = some r) : finish P rs b = some r := by
  unfold sfinish at e
  split at e
  · obtain ⟨env, k1, k2⟩ := hab _ _ _ rfl
    rw [k1]; rw [sresults_eq k2] at e; exact e
  · obtain ⟨env, k1, k2⟩ := hab _ _ _ rfl
    rw [k1]; rw [sresults_eq k2] at e; exact e
  · cases e
noncomputable def scall (P : Program) (md : FuncId → Nat) (fg : FuncId → Nat → List Bool) (A : FuncId → Bool) : Nat → CallF
  | 0, _, _, _ => none
  | k + 1, f, args, h =>
    if A f then
      match P.funcs[f]? with
      | some fn => match fn.body with
        | some c => forceL args fun args => sfinish P (args.length + (fn.ntmps - args.length)) fn.results.toList (srun P md (fg f) (scall P md fg A k) k (args.length + (fn.ntmps - args.length)) c [] (sinit args 0) h)
        | none => none
      | none => none
    else none
theorem scall_le {fg : FuncId → Nat → List Bool} {A : FuncId → Bool} (hok : okAll P md fg A) : ∀ k, LeC (scall P md fg A k) (acall P md fg k)
  | 0 => fun _ _ _ => LeO.none _
  | k + 1 => by
    intro f as h r e
    simp only [scall] at e
    simp only [acall]
    split at e
    · rename_i ha
      rw [if_pos (hok f ha)]
      cases hf : P.funcs[f]? with
      | none => rw [hf] at e; cases e
      | some fn =>
        rw [hf] at e
        dsimp only at e ⊢
        cases hb : fn.body with
        | none => rw [hb] at e; cases e
        | some c =>
          rw [hb] at e
          dsimp only at e ⊢
          rw [forceL_eq] at e
          have := sfinish_ok (srun_ok (k := k) c [] _ _ h (sinit_sim fn.ntmps as)) e
          exact finish_mono (fun x hx => run_mono (scall_le hok k) (Nat.le_refl k) c [] _ _ x hx) r this
    · cases e
theorem aval_of_scall {fg : FuncId → Nat → List Bool} {A : FuncId → Bool} (hok : okAll P md fg A) (k : Nat) {f : FuncId} {as : List AV} {h : AHeap} {r : AV × AHeap} (e : scall P md fg A k f as h = some r) : aval P md fg f as h = some r :=
  (acall_mono f as h).lim_of (scall_le hok k f as h r e)
theorem pcall_strue {fg : FuncId → Nat → List Bool} {A : FuncId → Bool} (hok : okAll P md fg A) (k : Nat) {f : FuncId} {as : List AV} (e : trueB (scall P md fg A k f as []) = true) : pcall P md fg f as = some (.bool true) := by
  unfold trueB at e
  split at e
  · rename_i h hc
    unfold pcall
    rw [aval_of_scall hok k hc]
    rfl
  · cases e
end
end Go.Ab
namespace Go.Proofs.YtfloombnadnmaaaDoor
open Go Go.Ab Go.Proofs
set_option maxRecDepth 100000
set_option linter.unusedSimpArgs false
set_option linter.unusedVariables false
/-- A small letter or a digit. -/
def alnN (n : Nat) : Bool := (decide (97 ≤ n) && decide (n ≤ 122)) || (decide (48 ≤ n) && decide (n ≤ 57))
def aln (c : UInt8) : Bool := alnN c.toNat
def lowc (c : UInt8) : Bool := decide (97 ≤ c.toNat) && decide (c.toNat ≤ 122)
def setL : List AV := (List.range 256).map fun n => .bool (alnN n)
def cutset : ByteArray := ⟨#[97, 98, 99, 100, 101, 102, 103, 104, 105, 106, 107, 108, 109, 110, 111, 112, 113, 114, 115, 116, 117, 118, 119, 120, 121, 122, 48, 49, 50, 51, 52, 53, 54, 55, 56, 57]⟩
theorem setL_get (c : UInt8) : setL[c.toNat]? = some (.bool (aln c)) := by
  have h := c.toNat_lt
  unfold setL aln
  rw [List.getElem?_map, List.getElem?_range (by omega)]; rfl
def pureB (x : Option (AV × AHeap)) (r : AV) : Bool := match pureRes x with | some v => avB v r | none => false
theorem pcall_of_pureB {k : Nat} {f : FuncId} {xs : List AV} {r : AV} (e : pureB (scall Tryd.prog md fg knows k f xs []) r = true) : pcall Tryd.prog md fg f xs = some r := by
  unfold pureB at e
  cases hs : scall Tryd.prog md fg knows k f xs [] with
  | none => rw [hs] at e; simp [pureRes] at e
  | some x =>
    rw [hs] at e
    unfold pcall
    rw [aval_of_scall okKnown k hs]
    split at e
    · rename_i v hv; rw [hv, avB_eq e]
    · cases e
theorem asciiSet_p : pcall Tryd.prog md fg 67 [.val (.string cutset)] = some (.tup [.agg setL, .bool true]) := pcall_of_pureB (k := 100) (by kernel_rfl)
theorem contains_a {h : AHeap} {id : Nat} (hr : hget h id = .vars setL) (c : UInt8) : aval Tryd.prog md fg 72 [.ptr id 0, byteVal c] h = some (.val (.bool (aln c)), h) := by
  have hc := c.toNat_lt
  rw [aval_of Tryd.func72 body72 Tryd.results72 Tryd.ntmps72 ok72]
  unfold byteVal
  have ht : ((c.toNat : Int)).toNat = c.toNat := by omega
  simp (implicitDefEqProofs := false) (disch := omega) only [go_sem, Nat.reduceAdd, Nat.reduceSub, Nat.reduceMul, Nat.reduceLT, Nat.reduceLeDiff, Nat.reduceEqDiff, List.drop_zero, List.take_succ_cons, List.take_zero, List.drop_succ_cons, Bool.and_true, Bool.true_and, Bool.and_false, Bool.false_and, BitVec.reduceOfInt, Nat.zero_add, Nat.mul_one, Nat.add_zero, Int.zero_add, Int.reduceToNat, Nat.reducePow, ↓reduceIte, reduceCtorEq, Int.reduceLE, Int.reduceLT, Int.reduceEq, Int.reduceNe, Int.reduceAdd, Int.reduceSub, Int.reduceMul, Int.reduceNeg, Nat.reduceBEq, show regOf Tryd.f72 0 = Code.region _ _ _ from rfl, show regOf Tryd.f72 1 = Code.region _ _ _ from rfl, hr, ht, setL_get]
theorem contains_c {h : AHeap} {id : Nat} (hr : hget h id = .vars setL) (c : UInt8) : doCall md (aval Tryd.prog md fg) 72 [.ptr id 0, byteVal c] h = some (.val (.bool (aln c)), h) := doCall_len (by decide) (contains_a hr c) rfl
end Go.Proofs.YtfloombnadnmaaaDoor
namespace Go.Proofs.YtfloombnadnmaaaDoor
open Go Go.Ab Go.Proofs
set_option maxRecDepth 100000
set_option linter.unusedSimpArgs false
set_option linter.unusedVariables false
section
variable {h : AHeap} {id : Nat}
theorem contains_d (hr : hget h id = .vars setL) (c : UInt8) : doCall md (aval Tryd.prog md fg) 72 [.ptr id 0, .val (.int .u8 (c.toBitVec.toNat : Int))] h = some (.val (.bool (aln c)), h) := contains_c hr c
theorem tl_round (hr : hget h id = .vars setL) (c : UInt8) (r : List UInt8) (hc : aln c = true) :
    lrun Tryd.prog md fg (fg 68) (loopOf Tryd.f68 0) (fg 68 1) ([.val (.string (txt (c :: r))), .ptr id 0, .unk, .unk, .unk, .unk, .unk, .unk, .unk, .unk, .unk, .unk, .unk, .unk, .unk, .unk]) h = lrun Tryd.prog md fg (fg 68) (loopOf Tryd.f68 0) (fg 68 1) ([.val (.string (txt r)), .ptr id 0, .unk, .unk, .unk, .unk, .unk, .unk, .unk, .unk, .unk, .unk, .unk, .unk, .unk, .unk]) h := by
  rw [lrun_atC loop68_0]
  have hs : (txt (c :: r)).size = r.length + 1 := by rw [txt_size]; rfl
  have hx : (txt (c :: r)).extract 1 (r.length + 1) = txt r := by rw [txt_extract]; simp
  simp (implicitDefEqProofs := false) (disch := omega) only [go_sem, Nat.reduceAdd, Nat.reduceSub, Nat.reduceMul, Nat.reduceLT, Nat.reduceLeDiff, Nat.reduceEqDiff, List.drop_zero, List.take_succ_cons, List.take_zero, List.drop_succ_cons, Bool.and_true, Bool.true_and, Bool.and_false, Bool.false_and, BitVec.reduceOfInt, Nat.zero_add, Nat.mul_one, Nat.add_zero, Int.zero_add, Int.reduceToNat, Nat.reducePow, ↓reduceIte, reduceCtorEq, Int.reduceLE, Int.reduceLT, Int.reduceEq, Int.reduceNe, Int.reduceAdd, Int.reduceSub, Int.reduceMul, Int.reduceNeg, Nat.reduceBEq, show regOf Tryd.f68 1 = Code.region _ _ _ from rfl, show regOf Tryd.f68 2 = Code.region _ _ _ from rfl, show regOf Tryd.f68 3 = Code.region _ _ _ from rfl, hs, txt_list, List.getElem?_cons_zero, contains_d hr, hc, hx]
theorem tl_end0 (hr : hget h id = .vars setL) :
    lrun Tryd.prog md fg (fg 68) (loopOf Tryd.f68 0) (fg 68 1) ([.val (.string (txt [])), .ptr id 0, .unk, .unk, .unk, .unk, .unk, .unk, .unk, .unk, .unk, .unk, .unk, .unk, .unk, .unk]) h = some (.exit 0, [.val (.string (txt [])), .ptr id 0, .unk, .unk, .unk, .unk, .unk, .unk, .unk, .unk, .unk, .unk, .unk, .unk, .unk, .unk], h) := by
  rw [lrun_atC loop68_0]
  have hs : (txt []).size = 0 := by rw [txt_size]; rfl
  simp (implicitDefEqProofs := false) (disch := omega) only [go_sem, Nat.reduceAdd, Nat.reduceSub, Nat.reduceMul, Nat.reduceLT, Nat.reduceLeDiff, Nat.reduceEqDiff, List.drop_zero, List.take_succ_cons, List.take_zero, List.drop_succ_cons, Bool.and_true, Bool.true_and, Bool.and_false, Bool.false_and, BitVec.reduceOfInt, Nat.zero_add, Nat.mul_one, Nat.add_zero, Int.zero_add, Int.reduceToNat, Nat.reducePow, ↓reduceIte, reduceCtorEq, Int.reduceLE, Int.reduceLT, Int.reduceEq, Int.reduceNe, Int.reduceAdd, Int.reduceSub, Int.reduceMul, Int.reduceNeg, Nat.reduceBEq, show regOf Tryd.f68 1 = Code.region _ _ _ from rfl, show regOf Tryd.f68 2 = Code.region _ _ _ from rfl, show regOf Tryd.f68 3 = Code.region _ _ _ from rfl, hs]
theorem tl_end1 (hr : hget h id = .vars setL) (c : UInt8) (r : List UInt8) (hc : aln c = false) :
    lrun Tryd.prog md fg (fg 68) (loopOf Tryd.f68 0) (fg 68 1) ([.val (.string (txt (c :: r))), .ptr id 0, .unk, .unk, .unk, .unk, .unk, .unk, .unk, .unk, .unk, .unk, .unk, .unk, .unk, .unk]) h = some (.exit 0, [.val (.string (txt (c :: r))), .ptr id 0, .unk, .unk, .unk, .unk, .unk, .unk, .unk, .unk, .unk, .unk, .unk, .unk, .unk, .unk], h) := by
  rw [lrun_atC loop68_0]
  have hs : (txt (c :: r)).size = r.length + 1 := by rw [txt_size]; rfl
  simp (implicitDefEqProofs := false) (disch := omega) only [go_sem, Nat.reduceAdd, Nat.reduceSub, Nat.reduceMul, Nat.reduceLT, Nat.reduceLeDiff, Nat.reduceEqDiff, List.drop_zero, List.take_succ_cons, List.take_zero, List.drop_succ_cons, Bool.and_true, Bool.true_and, Bool.and_false, Bool.false_and, BitVec.reduceOfInt, Nat.zero_add, Nat.mul_one, Nat.add_zero, Int.zero_add, Int.reduceToNat, Nat.reducePow, ↓reduceIte, reduceCtorEq, Int.reduceLE, Int.reduceLT, Int.reduceEq, Int.reduceNe, Int.reduceAdd, Int.reduceSub, Int.reduceMul, Int.reduceNeg, Nat.reduceBEq, show regOf Tryd.f68 1 = Code.region _ _ _ from rfl, show regOf Tryd.f68 2 = Code.region _ _ _ from rfl, show regOf Tryd.f68 3 = Code.region _ _ _ from rfl, hs, txt_list, List.getElem?_cons_zero, contains_d hr, hc]
theorem tl_loop (hr : hget h id = .vars setL) : ∀ l : List UInt8,
    lrun Tryd.prog md fg (fg 68) (loopOf Tryd.f68 0) (fg 68 1) ([.val (.string (txt l)), .ptr id 0, .unk, .unk, .unk, .unk, .unk, .unk, .unk, .unk, .unk, .unk, .unk, .unk, .unk, .unk]) h = some (.exit 0, [.val (.string (txt (l.dropWhile aln))), .ptr id 0, .unk, .unk, .unk, .unk, .unk, .unk, .unk, .unk, .unk, .unk, .unk, .unk, .unk, .unk], h)
  | [] => tl_end0 hr
  | c :: r => by
    cases hc : aln c with
    | true => rw [tl_round hr c r hc, tl_loop hr r, List.dropWhile_cons, if_pos hc]
    | false => rw [tl_end1 hr c r hc, List.dropWhile_cons, if_neg (by rw [hc]; simp)]
theorem trimLeft_c (hr : hget h id = .vars setL) (l : List UInt8) : doCall md (aval Tryd.prog md fg) 68 [.val (.string (txt l)), .ptr id 0] h = some (.val (.string (txt (l.dropWhile aln))), h) := by
  refine doCall_len (by decide) ?_ rfl
  rw [aval_of Tryd.func68 body68 Tryd.results68 Tryd.ntmps68 ok68]
  simp (implicitDefEqProofs := false) (disch := omega) only [go_sem, Nat.reduceAdd, Nat.reduceSub, Nat.reduceMul, Nat.reduceLT, Nat.reduceLeDiff, Nat.reduceEqDiff, List.drop_zero, List.take_succ_cons, List.take_zero, List.drop_succ_cons, Bool.and_true, Bool.true_and, Bool.and_false, Bool.false_and, BitVec.reduceOfInt, Nat.zero_add, Nat.mul_one, Nat.add_zero, Int.zero_add, Int.reduceToNat, Nat.reducePow, ↓reduceIte, reduceCtorEq, Int.reduceLE, Int.reduceLT, Int.reduceEq, Int.reduceNe, Int.reduceAdd, Int.reduceSub, Int.reduceMul, Int.reduceNeg, Nat.reduceBEq, show regOf Tryd.f68 0 = Code.region _ _ _ from rfl, show regOf Tryd.f68 4 = Code.region _ _ _ from rfl, tl_loop hr l]
theorem tr_round (hr : hget h id = .vars setL) (c : UInt8) (r : List UInt8) (hl : r.length < 9223372036854775808) (hc : aln c = true) :
    lrun Tryd.prog md fg (fg 69) (loopOf Tryd.f69 0) (fg 69 1) ([.val (.string (txt (r ++ [c]))), .ptr id 0, .unk, .unk, .unk, .unk, .unk, .unk, .unk, .unk, .unk, .unk, .unk, .unk, .unk, .unk, .unk, .unk, .unk, .unk, .unk, .unk]) h = lrun Tryd.prog md fg (fg 69) (loopOf Tryd.f69 0) (fg 69 1) ([.val (.string (txt r)), .ptr id 0, .unk, .unk, .unk, .unk, .unk, .unk, .unk, .unk, .unk, .unk, .unk, .unk, .unk, .unk, .unk, .unk, .unk, .unk, .unk, .unk]) h := by
  rw [lrun_atC loop69_0]
  have hs : (txt (r ++ [c])).size = r.length + 1 := by rw [txt_size]; simp
  have hx : (txt (r ++ [c])).extract 0 r.length = txt r := by rw [txt_extract]; simp
  have hi : (r ++ [c])[r.length]? = some c := by simp
  have ht : (((r.length + 1 : Nat) : Int) - 1).toNat = r.length := by omega
  simp (implicitDefEqProofs := false) (disch := omega) only [go_sem, Nat.reduceAdd, Nat.reduceSub, Nat.reduceMul, Nat.reduceLT, Nat.reduceLeDiff, Nat.reduceEqDiff, List.drop_zero, List.take_succ_cons, List.take_zero, List.drop_succ_cons, Bool.and_true, Bool.true_and, Bool.and_false, Bool.false_and, BitVec.reduceOfInt, Nat.zero_add, Nat.mul_one, Nat.add_zero, Int.zero_add, Int.reduceToNat, Nat.reducePow, ↓reduceIte, reduceCtorEq, Int.reduceLE, Int.reduceLT, Int.reduceEq, Int.reduceNe, Int.reduceAdd, Int.reduceSub, Int.reduceMul, Int.reduceNeg, Nat.reduceBEq, show regOf Tryd.f69 1 = Code.region _ _ _ from rfl, show regOf Tryd.f69 2 = Code.region _ _ _ from rfl, show regOf Tryd.f69 3 = Code.region _ _ _ from rfl, hs, txt_list, wrap_i64, ht, hi, contains_d hr, hc, hx]
theorem tr_end0 (hr : hget h id = .vars setL) :
    lrun Tryd.prog md fg (fg 69) (loopOf Tryd.f69 0) (fg 69 1) ([.val (.string (txt [])), .ptr id 0, .unk, .unk, .unk, .unk, .unk, .unk, .unk, .unk, .unk, .unk, .unk, .unk, .unk, .unk, .unk, .unk, .unk, .unk, .unk, .unk]) h = some (.exit 0, [.val (.string (txt [])), .ptr id 0, .unk, .unk, .unk, .unk, .unk, .unk, .unk, .unk, .unk, .unk, .unk, .unk, .unk, .unk, .unk, .unk, .unk, .unk, .unk, .unk], h) := by
  rw [lrun_atC loop69_0]
  have hs : (txt []).size = 0 := by rw [txt_size]; rfl
  simp (implicitDefEqProofs := false) (disch := omega) only [go_sem, Nat.reduceAdd, Nat.reduceSub, Nat.reduceMul, Nat.reduceLT, Nat.reduceLeDiff, Nat.reduceEqDiff, List.drop_zero, List.take_succ_cons, List.take_zero, List.drop_succ_cons, Bool.and_true, Bool.true_and, Bool.and_false, Bool.false_and, BitVec.reduceOfInt, Nat.zero_add, Nat.mul_one, Nat.add_zero, Int.zero_add, Int.reduceToNat, Nat.reducePow, ↓reduceIte, reduceCtorEq, Int.reduceLE, Int.reduceLT, Int.reduceEq, Int.reduceNe, Int.reduceAdd, Int.reduceSub, Int.reduceMul, Int.reduceNeg, Nat.reduceBEq, show regOf Tryd.f69 1 = Code.region _ _ _ from rfl, show regOf Tryd.f69 2 = Code.region _ _ _ from rfl, show regOf Tryd.f69 3 = Code.region _ _ _ from rfl, hs]
theorem tr_end1 (hr : hget h id = .vars setL) (c : UInt8) (r : List UInt8) (hl : r.length < 9223372036854775808) (hc : aln c = false) :
    lrun Tryd.prog md fg (fg 69) (loopOf Tryd.f69 0) (fg 69 1) ([.val (.string (txt (r ++ [c]))), .ptr id 0, .unk, .unk, .unk, .unk, .unk, .unk, .unk, .unk, .unk, .unk, .unk, .unk, .unk, .unk, .unk, .unk, .unk, .unk, .unk, .unk]) h = some (.exit 0, [.val (.string (txt (r ++ [c]))), .ptr id 0, .unk, .unk, .unk, .unk, .unk, .unk, .unk, .unk, .unk, .unk, .unk, .unk, .unk, .unk, .unk, .unk, .unk, .unk, .unk, .unk], h) := by
  rw [lrun_atC loop69_0]
  have hs : (txt (r ++ [c])).size = r.length + 1 := by rw [txt_size]; simp
  have hi : (r ++ [c])[r.length]? = some c := by simp
  have ht : (((r.length + 1 : Nat) : Int) - 1).toNat = r.length := by omega
  simp (implicitDefEqProofs := false) (disch := omega) only [go_sem, Nat.reduceAdd, Nat.reduceSub, Nat.reduceMul, Nat.reduceLT, Nat.reduceLeDiff, Nat.reduceEqDiff, List.drop_zero, List.take_succ_cons, List.take_zero, List.drop_succ_cons, Bool.and_true, Bool.true_and, Bool.and_false, Bool.false_and, BitVec.reduceOfInt, Nat.zero_add, Nat.mul_one, Nat.add_zero, Int.zero_add, Int.reduceToNat, Nat.reducePow, ↓reduceIte, reduceCtorEq, Int.reduceLE, Int.reduceLT, Int.reduceEq, Int.reduceNe, Int.reduceAdd, Int.reduceSub, Int.reduceMul, Int.reduceNeg, Nat.reduceBEq, show regOf Tryd.f69 1 = Code.region _ _ _ from rfl, show regOf Tryd.f69 2 = Code.region _ _ _ from rfl, show regOf Tryd.f69 3 = Code.region _ _ _ from rfl, hs, txt_list, wrap_i64, ht, hi, contains_d hr, hc]
/-- Without what stands at its end. -/
def trimR (l : List UInt8) : List UInt8 := (l.reverse.dropWhile aln).reverse
theorem tr_loop (hr : hget h id = .vars setL) : ∀ l : List UInt8, l.length < 9223372036854775808 →
    lrun Tryd.prog md fg (fg 69) (loopOf Tryd.f69 0) (fg 69 1) ([.val (.string (txt l.reverse)), .ptr id 0, .unk, .unk, .unk, .unk, .unk, .unk, .unk, .unk, .unk, .unk, .unk, .unk, .unk, .unk, .unk, .unk, .unk, .unk, .unk, .unk]) h = some (.exit 0, [.val (.string (txt (l.dropWhile aln).reverse)), .ptr id 0, .unk, .unk, .unk, .unk, .unk, .unk, .unk, .unk, .unk, .unk, .unk, .unk, .unk, .unk, .unk, .unk, .unk, .unk, .unk, .unk], h)
  | [], _ => tr_end0 hr
  | c :: r, hl => by
    have hl' : r.reverse.length < 9223372036854775808 := by simp only [List.length_cons, List.length_reverse] at hl ⊢; omega
    rw [List.reverse_cons]
    cases hc : aln c with
    | true => rw [tr_round hr c r.reverse hl' hc, tr_loop hr r (by simpa using hl'), List.dropWhile_cons, if_pos hc]
    | false => rw [tr_end1 hr c r.reverse hl' hc, List.dropWhile_cons, if_neg (by rw [hc]; simp), List.reverse_cons]
theorem trimRight_c (hr : hget h id = .vars setL) (l : List UInt8) (hl : l.length < 9223372036854775808) : doCall md (aval Tryd.prog md fg) 69 [.val (.string (txt l)), .ptr id 0] h = some (.val (.string (txt (trimR l))), h) := by
  refine doCall_len (by decide) ?_ rfl
  have e := tr_loop hr l.reverse (by simpa using hl)
  rw [List.reverse_reverse] at e
  rw [aval_of Tryd.func69 body69 Tryd.results69 Tryd.ntmps69 ok69]
  simp (implicitDefEqProofs := false) (disch := omega) only [go_sem, Nat.reduceAdd, Nat.reduceSub, Nat.reduceMul, Nat.reduceLT, Nat.reduceLeDiff, Nat.reduceEqDiff, List.drop_zero, List.take_succ_cons, List.take_zero, List.drop_succ_cons, Bool.and_true, Bool.true_and, Bool.and_false, Bool.false_and, BitVec.reduceOfInt, Nat.zero_add, Nat.mul_one, Nat.add_zero, Int.zero_add, Int.reduceToNat, Nat.reducePow, ↓reduceIte, reduceCtorEq, Int.reduceLE, Int.reduceLT, Int.reduceEq, Int.reduceNe, Int.reduceAdd, Int.reduceSub, Int.reduceMul, Int.reduceNeg, Nat.reduceBEq, show regOf Tryd.f69 0 = Code.region _ _ _ from rfl, show regOf Tryd.f69 4 = Code.region _ _ _ from rfl, e]
  rfl
end
end Go.Proofs.YtfloombnadnmaaaDoor
namespace Go.Proofs.YtfloombnadnmaaaDoor
open Go Go.Ab Go.Proofs
set_option maxRecDepth 100000
set_option linter.unusedSimpArgs false
set_option linter.unusedVariables false
theorem setL_len : setL.length = 256 := by unfold setL; simp
def zerosB : List AV := List.replicate 256 (.bool false)
theorem tzero_108' : tzero Tryd.prog 108 = some (.agg zerosB) := by kernel_rfl
theorem set_store : svars (decide (setL.length = 256)) setL 0 [.vars zerosB] 0 (.vars zerosB) = some [.vars setL] := by kernel_rfl
theorem trim_nil : pcall Tryd.prog md fg 62 [.val (.string (txt [])), .val (.string cutset)] = some (.val (.string (txt []))) := by
  have e : aval Tryd.prog md fg 62 [.val (.string (txt [])), .val (.string cutset)] [] = some (.val (.string (txt [])), []) := by
    rw [aval_of Tryd.func62 body62 Tryd.results62 Tryd.ntmps62 ok62]
    have h0 : txt [] = ⟨#[]⟩ := rfl
    simp (implicitDefEqProofs := false) (disch := omega) only [go_sem, Nat.reduceAdd, Nat.reduceSub, Nat.reduceMul, Nat.reduceLT, Nat.reduceLeDiff, Nat.reduceEqDiff, List.drop_zero, List.take_succ_cons, List.take_zero, List.drop_succ_cons, Bool.and_true, Bool.true_and, Bool.and_false, Bool.false_and, BitVec.reduceOfInt, Nat.zero_add, Nat.mul_one, Nat.add_zero, Int.zero_add, Int.reduceToNat, Nat.reducePow, ↓reduceIte, reduceCtorEq, Int.reduceLE, Int.reduceLT, Int.reduceEq, Int.reduceNe, Int.reduceAdd, Int.reduceSub, Int.reduceMul, Int.reduceNeg, Nat.reduceBEq, show regOf Tryd.f62 0 = Code.region _ _ _ from rfl, show regOf Tryd.f62 1 = Code.region _ _ _ from rfl, show regOf Tryd.f62 2 = Code.region _ _ _ from rfl, h0]
  rw [pcall_eq, e, pureRes_solid rfl]
theorem trim_p (l : List UInt8) (hl : l.length < 9223372036854775808) (hn : l ≠ []) : pcall Tryd.prog md fg 62 [.val (.string (txt l)), .val (.string cutset)] = some (.val (.string (txt ((trimR l).dropWhile aln)))) := by
  have e : ∃ h, aval Tryd.prog md fg 62 [.val (.string (txt l)), .val (.string cutset)] [] = some (.val (.string (txt ((trimR l).dropWhile aln))), h) := by
    have c1 : ∀ h : AHeap, doCall md (aval Tryd.prog md fg) 67 [.val (.string cutset)] h = some (.tup [.agg setL, .bool true], h) := fun h => doCall_pure md67 rfl asciiSet_p
    have hne : ¬ txt l = ⟨#[]⟩ := fun e => hn ((txt_nil_iff l).1 e)
    have hnc : ¬ cutset = ⟨#[]⟩ := fun e => by cases e
    have hcs : cutset.size = 36 := rfl
    have hr : hget [.vars setL] 0 = .vars setL := rfl
    have c2 := trimRight_c hr l hl
    have c3 := trimLeft_c hr (trimR l)
    rw [aval_of Tryd.func62 body62 Tryd.results62 Tryd.ntmps62 ok62]
    simp (implicitDefEqProofs := false) (disch := omega) only [go_sem, Nat.reduceAdd, Nat.reduceSub, Nat.reduceMul, Nat.reduceLT, Nat.reduceLeDiff, Nat.reduceEqDiff, List.drop_zero, List.take_succ_cons, List.take_zero, List.drop_succ_cons, Bool.and_true, Bool.true_and, Bool.and_false, Bool.false_and, BitVec.reduceOfInt, Nat.zero_add, Nat.mul_one, Nat.add_zero, Int.zero_add, Int.reduceToNat, Nat.reducePow, ↓reduceIte, reduceCtorEq, Int.reduceLE, Int.reduceLT, Int.reduceEq, Int.reduceNe, Int.reduceAdd, Int.reduceSub, Int.reduceMul, Int.reduceNeg, Nat.reduceBEq, show regOf Tryd.f62 0 = Code.region _ _ _ from rfl, show regOf Tryd.f62 1 = Code.region _ _ _ from rfl, show regOf Tryd.f62 3 = Code.region _ _ _ from rfl, show regOf Tryd.f62 5 = Code.region _ _ _ from rfl, show regOf Tryd.f62 6 = Code.region _ _ _ from rfl, show regOf Tryd.f62 7 = Code.region _ _ _ from rfl, c1, c2, c3, hne, hnc, hcs, -tzero_108, tzero_108', set_store]
    exact ⟨_, rfl⟩
  obtain ⟨h, e⟩ := e
  rw [pcall_eq, e, pureRes_solid rfl]
/-- Is it a package's name? -/
def pkgB (l : List UInt8) : Bool := match l with | [] => false | c :: r => decide (r.length + 1 ≤ 20) && (lowc c && r.all aln)
theorem dropWhile_nil {p : UInt8 → Bool} : ∀ {l : List UInt8}, l.dropWhile p = [] ↔ l.all p = true
  | [] => by simp
  | c :: r => by
    rw [List.dropWhile_cons, List.all_cons]
    cases hc : p c with
    | true => simp only [if_true, Bool.true_and]; exact dropWhile_nil
    | false => simp
theorem trimR_all (l : List UInt8) : (trimR l).all aln = l.all aln := by
  unfold trimR
  have key : ∀ l : List UInt8, (l.dropWhile aln).all aln = l.all aln := by
    intro l
    induction l with
    | nil => rfl
    | cons c r ih =>
      rw [List.dropWhile_cons]
      cases hc : aln c with
      | true => simp only [if_true, List.all_cons, hc, Bool.true_and]; exact ih
      | false => simp
  rw [List.all_reverse, key, List.all_reverse]
theorem trim_empty (l : List UInt8) : (trimR l).dropWhile aln = [] ↔ l.all aln = true := by
  rw [dropWhile_nil, trimR_all]
theorem low_aln {c : UInt8} (h : lowc c = true) : aln c = true := by
  unfold lowc at h
  unfold aln alnN
  rw [h]; rfl
theorem isPkg_p (l : List UInt8) (hl : l.length < 9223372036854775808) : pcall Tryd.prog md fg 51 [.val (.string (txt l))] = some (.val (.bool (pkgB l))) := by
  have e : ∃ h, aval Tryd.prog md fg 51 [.val (.string (txt l))] [] = some (.val (.bool (pkgB l)), h) := by
    cases l with
    | nil =>
      have h0 : txt [] = ⟨#[]⟩ := rfl
      rw [aval_of Tryd.func51 body51 Tryd.results51 Tryd.ntmps51 ok51]
      simp (implicitDefEqProofs := false) (disch := omega) only [go_sem, Nat.reduceAdd, Nat.reduceSub, Nat.reduceMul, Nat.reduceLT, Nat.reduceLeDiff, Nat.reduceEqDiff, List.drop_zero, List.take_succ_cons, List.take_zero, List.drop_succ_cons, Bool.and_true, Bool.true_and, Bool.and_false, Bool.false_and, BitVec.reduceOfInt, Nat.zero_add, Nat.mul_one, Nat.add_zero, Int.zero_add, Int.reduceToNat, Nat.reducePow, ↓reduceIte, reduceCtorEq, Int.reduceLE, Int.reduceLT, Int.reduceEq, Int.reduceNe, Int.reduceAdd, Int.reduceSub, Int.reduceMul, Int.reduceNeg, Nat.reduceBEq, show regOf Tryd.f51 0 = Code.region _ _ _ from rfl, show regOf Tryd.f51 1 = Code.region _ _ _ from rfl, h0]
      exact ⟨_, rfl⟩
    | cons c r =>
      have hne : ¬ txt (c :: r) = ⟨#[]⟩ := fun e => by have := (txt_nil_iff _).1 e; cases this
      have hs : (txt (c :: r)).size = r.length + 1 := by rw [txt_size]; rfl
      have ct : ∀ h : AHeap, doCall md (aval Tryd.prog md fg) 62 [.val (.string (txt (c :: r))), .val (.string cutset)] h = some (.val (.string (txt ((trimR (c :: r)).dropWhile aln))), h) := fun h => doCall_pure md62 rfl (trim_p (c :: r) hl (by simp))
      unfold cutset at ct
      rw [aval_of Tryd.func51 body51 Tryd.results51 Tryd.ntmps51 ok51]
      unfold pkgB
      dsimp only
      by_cases h1 : r.length + 1 ≤ 20
      · rw [decide_eq_true h1]
        by_cases h2 : 97 ≤ c.toNat
        · by_cases h3 : c.toNat ≤ 122
          · have hlow : lowc c = true := by unfold lowc; simp [h2, h3]
            have hx : (txt ((trimR (c :: r)).dropWhile aln) = ⟨#[]⟩) ↔ r.all aln = true := by
              rw [txt_nil_iff, trim_empty, List.all_cons, low_aln hlow, Bool.true_and]
            rw [hlow]
            have h2' : (97 : Int) ≤ (c.toBitVec.toNat : Int) := by show (97 : Int) ≤ (c.toNat : Int); omega
            have h3' : (c.toBitVec.toNat : Int) ≤ 122 := by show (c.toNat : Int) ≤ 122; omega
            simp (implicitDefEqProofs := false) (disch := omega) only [go_sem, Nat.reduceAdd, Nat.reduceSub, Nat.reduceMul, Nat.reduceLT, Nat.reduceLeDiff, Nat.reduceEqDiff, List.drop_zero, List.take_succ_cons, List.take_zero, List.drop_succ_cons, Bool.and_true, Bool.true_and, Bool.and_false, Bool.false_and, BitVec.reduceOfInt, Nat.zero_add, Nat.mul_one, Nat.add_zero, Int.zero_add, Int.reduceToNat, Nat.reducePow, ↓reduceIte, reduceCtorEq, Int.reduceLE, Int.reduceLT, Int.reduceEq, Int.reduceNe, Int.reduceAdd, Int.reduceSub, Int.reduceMul, Int.reduceNeg, Nat.reduceBEq, show regOf Tryd.f51 0 = Code.region _ _ _ from rfl, show regOf Tryd.f51 1 = Code.region _ _ _ from rfl, hne, hs, txt_list, List.getElem?_cons_zero, h2', h3', ct, hx]
            exact ⟨[], by rw [Bool.decide_eq_true]⟩
          · have hlow : lowc c = false := by unfold lowc; simp [h3]
            have h2' : (97 : Int) ≤ (c.toBitVec.toNat : Int) := by show (97 : Int) ≤ (c.toNat : Int); omega
            have h3' : ¬ (c.toBitVec.toNat : Int) ≤ 122 := by show ¬ (c.toNat : Int) ≤ 122; omega
            rw [hlow]
            simp (implicitDefEqProofs := false) (disch := omega) only [go_sem, Nat.reduceAdd, Nat.reduceSub, Nat.reduceMul, Nat.reduceLT, Nat.reduceLeDiff, Nat.reduceEqDiff, List.drop_zero, List.take_succ_cons, List.take_zero, List.drop_succ_cons, Bool.and_true, Bool.true_and, Bool.and_false, Bool.false_and, BitVec.reduceOfInt, Nat.zero_add, Nat.mul_one, Nat.add_zero, Int.zero_add, Int.reduceToNat, Nat.reducePow, ↓reduceIte, reduceCtorEq, Int.reduceLE, Int.reduceLT, Int.reduceEq, Int.reduceNe, Int.reduceAdd, Int.reduceSub, Int.reduceMul, Int.reduceNeg, Nat.reduceBEq, show regOf Tryd.f51 0 = Code.region _ _ _ from rfl, show regOf Tryd.f51 1 = Code.region _ _ _ from rfl, hne, hs, txt_list, List.getElem?_cons_zero, h2', h3']
            exact ⟨_, rfl⟩
        · have hlow : lowc c = false := by unfold lowc; simp [h2]
          have h2' : ¬ (97 : Int) ≤ (c.toBitVec.toNat : Int) := by show ¬ (97 : Int) ≤ (c.toNat : Int); omega
          rw [hlow]
          simp (implicitDefEqProofs := false) (disch := omega) only [go_sem, Nat.reduceAdd, Nat.reduceSub, Nat.reduceMul, Nat.reduceLT, Nat.reduceLeDiff, Nat.reduceEqDiff, List.drop_zero, List.take_succ_cons, List.take_zero, List.drop_succ_cons, Bool.and_true, Bool.true_and, Bool.and_false, Bool.false_and, BitVec.reduceOfInt, Nat.zero_add, Nat.mul_one, Nat.add_zero, Int.zero_add, Int.reduceToNat, Nat.reducePow, ↓reduceIte, reduceCtorEq, Int.reduceLE, Int.reduceLT, Int.reduceEq, Int.reduceNe, Int.reduceAdd, Int.reduceSub, Int.reduceMul, Int.reduceNeg, Nat.reduceBEq, show regOf Tryd.f51 0 = Code.region _ _ _ from rfl, show regOf Tryd.f51 1 = Code.region _ _ _ from rfl, hne, hs, txt_list, List.getElem?_cons_zero, h2']
          exact ⟨_, rfl⟩
      · rw [decide_eq_false h1]
        simp (implicitDefEqProofs := false) (disch := omega) only [go_sem, Nat.reduceAdd, Nat.reduceSub, Nat.reduceMul, Nat.reduceLT, Nat.reduceLeDiff, Nat.reduceEqDiff, List.drop_zero, List.take_succ_cons, List.take_zero, List.drop_succ_cons, Bool.and_true, Bool.true_and, Bool.and_false, Bool.false_and, BitVec.reduceOfInt, Nat.zero_add, Nat.mul_one, Nat.add_zero, Int.zero_add, Int.reduceToNat, Nat.reducePow, ↓reduceIte, reduceCtorEq, Int.reduceLE, Int.reduceLT, Int.reduceEq, Int.reduceNe, Int.reduceAdd, Int.reduceSub, Int.reduceMul, Int.reduceNeg, Nat.reduceBEq, show regOf Tryd.f51 0 = Code.region _ _ _ from rfl, show regOf Tryd.f51 1 = Code.region _ _ _ from rfl, hne, hs, txt_list, List.getElem?_cons_zero]
        exact ⟨_, rfl⟩
  obtain ⟨h, e⟩ := e
  rw [pcall_eq, e, pureRes_solid rfl]
end Go.Proofs.YtfloombnadnmaaaDoor
namespace Go.Proofs.YtfloombnadnmaaaDoor
open Go Go.Ab Go.Proofs
set_option maxRecDepth 100000
set_option linter.unusedSimpArgs false
set_option linter.unusedVariables false
def digc (c : UInt8) : Bool := decide (48 ≤ c.toNat) && decide (c.toNat ≤ 57)
def okAt (i : Nat) (c : UInt8) : Bool := lowc c || (decide (0 < i) && digc c)
theorem rp_round (l : List UInt8) (i : Nat) (c : UInt8) (hi : l[i]? = some c) (hl : l.length < 9223372036854775808) (hc : okAt i c = true) :
    lrun Tryd.prog md fg (fg 53) (loopOf Tryd.f53 0) (fg 53 1) ([.val (.string (txt l)), .unk, .bool false, .int i, .unk, .unk, .unk, .unk, .unk, .unk, .unk, .unk, .unk, .unk, .unk, .unk, .unk, .unk, .unk, .unk, .unk, .unk, .unk, .unk, .unk, .unk, .unk, .unk, .unk, .unk, .unk, .unk, .unk, .unk, .unk, .unk, .unk, .unk, .unk, .unk, .unk, .unk, .unk, .unk, .unk, .unk, .unk, .unk]) [] = lrun Tryd.prog md fg (fg 53) (loopOf Tryd.f53 0) (fg 53 1) ([.val (.string (txt l)), .unk, .bool false, .int ((i + 1 : Nat) : Int), .unk, .unk, .unk, .unk, .unk, .unk, .unk, .unk, .unk, .unk, .unk, .unk, .unk, .unk, .unk, .unk, .unk, .unk, .unk, .unk, .unk, .unk, .unk, .unk, .unk, .unk, .unk, .unk, .unk, .unk, .unk, .unk, .unk, .unk, .unk, .unk, .unk, .unk, .unk, .unk, .unk, .unk, .unk, .unk]) [] := by
  have hlt : i < l.length := (List.getElem?_eq_some_iff.1 hi).1
  have hs := txt_size l
  rw [lrun_atC loop53_0]
  have ht : ((i : Int)).toNat = i := by omega
  unfold okAt lowc digc at hc
  simp only [Bool.or_eq_true, Bool.and_eq_true, decide_eq_true_eq] at hc
  by_cases a1 : (97 : Int) ≤ (c.toBitVec.toNat : Int)
  · by_cases a2 : (c.toBitVec.toNat : Int) ≤ 122
    · simp (implicitDefEqProofs := false) (disch := omega) only [go_sem, Nat.reduceAdd, Nat.reduceSub, Nat.reduceMul, Nat.reduceLT, Nat.reduceLeDiff, Nat.reduceEqDiff, List.drop_zero, List.take_succ_cons, List.take_zero, List.drop_succ_cons, Bool.and_true, Bool.true_and, Bool.and_false, Bool.false_and, BitVec.reduceOfInt, Nat.zero_add, Nat.mul_one, Nat.add_zero, Int.zero_add, Int.reduceToNat, Nat.reducePow, ↓reduceIte, reduceCtorEq, Int.reduceLE, Int.reduceLT, Int.reduceEq, Int.reduceNe, Int.reduceAdd, Int.reduceSub, Int.reduceMul, Int.reduceNeg, Nat.reduceBEq, show regOf Tryd.f53 2 = Code.region _ _ _ from rfl, show regOf Tryd.f53 3 = Code.region _ _ _ from rfl, show regOf Tryd.f53 4 = Code.region _ _ _ from rfl, show regOf Tryd.f53 5 = Code.region _ _ _ from rfl, hs, txt_list, ht, hi, a1, a2]
      all_goals (congr 1 <;> simp only [List.cons.injEq, AV.val.injEq, Value.int.injEq, Value.bool.injEq, true_and, and_true] <;> omega)
    · have a3 : (48 : Int) ≤ (c.toBitVec.toNat : Int) := by omega
      exfalso
      rcases hc with h | h
      · exact a2 (by show (c.toNat : Int) ≤ 122; omega)
      · have : ¬ (c.toNat : Int) ≤ 122 := a2
        omega
  · have b1 : ¬ (97 : Int) ≤ (c.toNat : Int) := a1
    rcases hc with h | h
    · omega
    · obtain ⟨h0, h1, h2⟩ := h
      have a3 : (48 : Int) ≤ (c.toBitVec.toNat : Int) := by show (48 : Int) ≤ (c.toNat : Int); omega
      have a4 : (c.toBitVec.toNat : Int) ≤ 57 := by show (c.toNat : Int) ≤ 57; omega
      simp (implicitDefEqProofs := false) (disch := omega) only [go_sem, Nat.reduceAdd, Nat.reduceSub, Nat.reduceMul, Nat.reduceLT, Nat.reduceLeDiff, Nat.reduceEqDiff, List.drop_zero, List.take_succ_cons, List.take_zero, List.drop_succ_cons, Bool.and_true, Bool.true_and, Bool.and_false, Bool.false_and, BitVec.reduceOfInt, Nat.zero_add, Nat.mul_one, Nat.add_zero, Int.zero_add, Int.reduceToNat, Nat.reducePow, ↓reduceIte, reduceCtorEq, Int.reduceLE, Int.reduceLT, Int.reduceEq, Int.reduceNe, Int.reduceAdd, Int.reduceSub, Int.reduceMul, Int.reduceNeg, Nat.reduceBEq, show regOf Tryd.f53 2 = Code.region _ _ _ from rfl, show regOf Tryd.f53 3 = Code.region _ _ _ from rfl, show regOf Tryd.f53 4 = Code.region _ _ _ from rfl, show regOf Tryd.f53 5 = Code.region _ _ _ from rfl, hs, txt_list, ht, hi, a1, a3, a4]
      all_goals (congr 1 <;> simp only [List.cons.injEq, AV.val.injEq, Value.int.injEq, Value.bool.injEq, true_and, and_true] <;> omega)
theorem rp_bad (l : List UInt8) (i : Nat) (c : UInt8) (hi : l[i]? = some c) (hl : l.length < 9223372036854775808) (hc : okAt i c = false) :
    lrun Tryd.prog md fg (fg 53) (loopOf Tryd.f53 0) (fg 53 1) ([.val (.string (txt l)), .unk, .bool false, .int i, .unk, .unk, .unk, .unk, .unk, .unk, .unk, .unk, .unk, .unk, .unk, .unk, .unk, .unk, .unk, .unk, .unk, .unk, .unk, .unk, .unk, .unk, .unk, .unk, .unk, .unk, .unk, .unk, .unk, .unk, .unk, .unk, .unk, .unk, .unk, .unk, .unk, .unk, .unk, .unk, .unk, .unk, .unk, .unk]) [] = some (.ret, [.val (.string (txt l)), .unk, .bool false, .int i, .unk, .unk, .unk, .unk, .unk, .unk, .unk, .unk, .unk, .unk, .unk, .unk, .unk, .unk, .unk, .unk, .unk, .unk, .unk, .unk, .unk, .unk, .unk, .unk, .unk, .unk, .unk, .unk, .unk, .unk, .unk, .unk, .unk, .unk, .unk, .unk, .unk, .unk, .unk, .unk, .unk, .unk, .unk, .unk], []) := by
  have hlt : i < l.length := (List.getElem?_eq_some_iff.1 hi).1
  have hs := txt_size l
  rw [lrun_atC loop53_0]
  have ht : ((i : Int)).toNat = i := by omega
  unfold okAt lowc digc at hc
  simp only [Bool.or_eq_false_iff, Bool.and_eq_false_iff, decide_eq_false_iff_not] at hc
  obtain ⟨k1, k2⟩ := hc
  have cc : (c.toBitVec.toNat : Int) = (c.toNat : Int) := rfl
  by_cases a1 : (97 : Int) ≤ (c.toBitVec.toNat : Int)
  · have a2 : ¬ (c.toBitVec.toNat : Int) ≤ 122 := by omega
    have a3 : (48 : Int) ≤ (c.toBitVec.toNat : Int) := by omega
    have a4 : ¬ (c.toBitVec.toNat : Int) ≤ 57 := by omega
    by_cases h0 : 0 < i
    · simp (implicitDefEqProofs := false) (disch := omega) only [go_sem, Nat.reduceAdd, Nat.reduceSub, Nat.reduceMul, Nat.reduceLT, Nat.reduceLeDiff, Nat.reduceEqDiff, List.drop_zero, List.take_succ_cons, List.take_zero, List.drop_succ_cons, Bool.and_true, Bool.true_and, Bool.and_false, Bool.false_and, BitVec.reduceOfInt, Nat.zero_add, Nat.mul_one, Nat.add_zero, Int.zero_add, Int.reduceToNat, Nat.reducePow, ↓reduceIte, reduceCtorEq, Int.reduceLE, Int.reduceLT, Int.reduceEq, Int.reduceNe, Int.reduceAdd, Int.reduceSub, Int.reduceMul, Int.reduceNeg, Nat.reduceBEq, show regOf Tryd.f53 2 = Code.region _ _ _ from rfl, show regOf Tryd.f53 3 = Code.region _ _ _ from rfl, show regOf Tryd.f53 4 = Code.region _ _ _ from rfl, show regOf Tryd.f53 5 = Code.region _ _ _ from rfl, show regOf Tryd.f53 6 = Code.region _ _ _ from rfl, hs, txt_list, ht, hi, a1, a2, a3, a4]
    · simp (implicitDefEqProofs := false) (disch := omega) only [go_sem, Nat.reduceAdd, Nat.reduceSub, Nat.reduceMul, Nat.reduceLT, Nat.reduceLeDiff, Nat.reduceEqDiff, List.drop_zero, List.take_succ_cons, List.take_zero, List.drop_succ_cons, Bool.and_true, Bool.true_and, Bool.and_false, Bool.false_and, BitVec.reduceOfInt, Nat.zero_add, Nat.mul_one, Nat.add_zero, Int.zero_add, Int.reduceToNat, Nat.reducePow, ↓reduceIte, reduceCtorEq, Int.reduceLE, Int.reduceLT, Int.reduceEq, Int.reduceNe, Int.reduceAdd, Int.reduceSub, Int.reduceMul, Int.reduceNeg, Nat.reduceBEq, show regOf Tryd.f53 2 = Code.region _ _ _ from rfl, show regOf Tryd.f53 3 = Code.region _ _ _ from rfl, show regOf Tryd.f53 4 = Code.region _ _ _ from rfl, show regOf Tryd.f53 5 = Code.region _ _ _ from rfl, show regOf Tryd.f53 6 = Code.region _ _ _ from rfl, hs, txt_list, ht, hi, a1, a2, a3, a4]
  · by_cases h0 : 0 < i
    · by_cases a3 : (48 : Int) ≤ (c.toBitVec.toNat : Int)
      · have a4 : ¬ (c.toBitVec.toNat : Int) ≤ 57 := by omega
        simp (implicitDefEqProofs := false) (disch := omega) only [go_sem, Nat.reduceAdd, Nat.reduceSub, Nat.reduceMul, Nat.reduceLT, Nat.reduceLeDiff, Nat.reduceEqDiff, List.drop_zero, List.take_succ_cons, List.take_zero, List.drop_succ_cons, Bool.and_true, Bool.true_and, Bool.and_false, Bool.false_and, BitVec.reduceOfInt, Nat.zero_add, Nat.mul_one, Nat.add_zero, Int.zero_add, Int.reduceToNat, Nat.reducePow, ↓reduceIte, reduceCtorEq, Int.reduceLE, Int.reduceLT, Int.reduceEq, Int.reduceNe, Int.reduceAdd, Int.reduceSub, Int.reduceMul, Int.reduceNeg, Nat.reduceBEq, show regOf Tryd.f53 2 = Code.region _ _ _ from rfl, show regOf Tryd.f53 3 = Code.region _ _ _ from rfl, show regOf Tryd.f53 4 = Code.region _ _ _ from rfl, show regOf Tryd.f53 5 = Code.region _ _ _ from rfl, show regOf Tryd.f53 6 = Code.region _ _ _ from rfl, hs, txt_list, ht, hi, a1, a3, a4]
      · simp (implicitDefEqProofs := false) (disch := omega) only [go_sem, Nat.reduceAdd, Nat.reduceSub, Nat.reduceMul, Nat.reduceLT, Nat.reduceLeDiff, Nat.reduceEqDiff, List.drop_zero, List.take_succ_cons, List.take_zero, List.drop_succ_cons, Bool.and_true, Bool.true_and, Bool.and_false, Bool.false_and, BitVec.reduceOfInt, Nat.zero_add, Nat.mul_one, Nat.add_zero, Int.zero_add, Int.reduceToNat, Nat.reducePow, ↓reduceIte, reduceCtorEq, Int.reduceLE, Int.reduceLT, Int.reduceEq, Int.reduceNe, Int.reduceAdd, Int.reduceSub, Int.reduceMul, Int.reduceNeg, Nat.reduceBEq, show regOf Tryd.f53 2 = Code.region _ _ _ from rfl, show regOf Tryd.f53 3 = Code.region _ _ _ from rfl, show regOf Tryd.f53 4 = Code.region _ _ _ from rfl, show regOf Tryd.f53 5 = Code.region _ _ _ from rfl, show regOf Tryd.f53 6 = Code.region _ _ _ from rfl, hs, txt_list, ht, hi, a1, a3]
    · simp (implicitDefEqProofs := false) (disch := omega) only [go_sem, Nat.reduceAdd, Nat.reduceSub, Nat.reduceMul, Nat.reduceLT, Nat.reduceLeDiff, Nat.reduceEqDiff, List.drop_zero, List.take_succ_cons, List.take_zero, List.drop_succ_cons, Bool.and_true, Bool.true_and, Bool.and_false, Bool.false_and, BitVec.reduceOfInt, Nat.zero_add, Nat.mul_one, Nat.add_zero, Int.zero_add, Int.reduceToNat, Nat.reducePow, ↓reduceIte, reduceCtorEq, Int.reduceLE, Int.reduceLT, Int.reduceEq, Int.reduceNe, Int.reduceAdd, Int.reduceSub, Int.reduceMul, Int.reduceNeg, Nat.reduceBEq, show regOf Tryd.f53 2 = Code.region _ _ _ from rfl, show regOf Tryd.f53 3 = Code.region _ _ _ from rfl, show regOf Tryd.f53 4 = Code.region _ _ _ from rfl, show regOf Tryd.f53 5 = Code.region _ _ _ from rfl, show regOf Tryd.f53 6 = Code.region _ _ _ from rfl, hs, txt_list, ht, hi, a1]
theorem rp_end (l : List UInt8) : lrun Tryd.prog md fg (fg 53) (loopOf Tryd.f53 0) (fg 53 1) ([.val (.string (txt l)), .unk, .bool false, .int l.length, .unk, .unk, .unk, .unk, .unk, .unk, .unk, .unk, .unk, .unk, .unk, .unk, .unk, .unk, .unk, .unk, .unk, .unk, .unk, .unk, .unk, .unk, .unk, .unk, .unk, .unk, .unk, .unk, .unk, .unk, .unk, .unk, .unk, .unk, .unk, .unk, .unk, .unk, .unk, .unk, .unk, .unk, .unk, .unk]) [] = some (.exit 0, [.val (.string (txt l)), .unk, .bool false, .int l.length, .unk, .unk, .unk, .unk, .unk, .unk, .unk, .unk, .unk, .unk, .unk, .unk, .unk, .unk, .unk, .unk, .unk, .unk, .unk, .unk, .unk, .unk, .unk, .unk, .unk, .unk, .unk, .unk, .unk, .unk, .unk, .unk, .unk, .unk, .unk, .unk, .unk, .unk, .unk, .unk, .unk, .unk, .unk, .unk], []) := by
  have hs := txt_size l
  rw [lrun_atC loop53_0]
  simp (implicitDefEqProofs := false) (disch := omega) only [go_sem, Nat.reduceAdd, Nat.reduceSub, Nat.reduceMul, Nat.reduceLT, Nat.reduceLeDiff, Nat.reduceEqDiff, List.drop_zero, List.take_succ_cons, List.take_zero, List.drop_succ_cons, Bool.and_true, Bool.true_and, Bool.and_false, Bool.false_and, BitVec.reduceOfInt, Nat.zero_add, Nat.mul_one, Nat.add_zero, Int.zero_add, Int.reduceToNat, Nat.reducePow, ↓reduceIte, reduceCtorEq, Int.reduceLE, Int.reduceLT, Int.reduceEq, Int.reduceNe, Int.reduceAdd, Int.reduceSub, Int.reduceMul, Int.reduceNeg, Nat.reduceBEq, show regOf Tryd.f53 2 = Code.region _ _ _ from rfl, show regOf Tryd.f53 3 = Code.region _ _ _ from rfl, show regOf Tryd.f53 4 = Code.region _ _ _ from rfl, show regOf Tryd.f53 5 = Code.region _ _ _ from rfl, show regOf Tryd.f53 6 = Code.region _ _ _ from rfl, hs]
/-- All that stand from a place on. -/
def okFrom : Nat → List UInt8 → Bool
  | _, [] => true
  | i, c :: r => okAt i c && okFrom (i + 1) r
theorem rp_loop (l : List UInt8) (hl : l.length < 9223372036854775808) : ∀ (r : List UInt8) (i : Nat), l.drop i = r → i ≤ l.length → ∃ j : Nat,
    lrun Tryd.prog md fg (fg 53) (loopOf Tryd.f53 0) (fg 53 1) ([.val (.string (txt l)), .unk, .bool false, .int i, .unk, .unk, .unk, .unk, .unk, .unk, .unk, .unk, .unk, .unk, .unk, .unk, .unk, .unk, .unk, .unk, .unk, .unk, .unk, .unk, .unk, .unk, .unk, .unk, .unk, .unk, .unk, .unk, .unk, .unk, .unk, .unk, .unk, .unk, .unk, .unk, .unk, .unk, .unk, .unk, .unk, .unk, .unk, .unk]) [] = some (if okFrom i r then .exit 0 else .ret, [.val (.string (txt l)), .unk, .bool false, .int j, .unk, .unk, .unk, .unk, .unk, .unk, .unk, .unk, .unk, .unk, .unk, .unk, .unk, .unk, .unk, .unk, .unk, .unk, .unk, .unk, .unk, .unk, .unk, .unk, .unk, .unk, .unk, .unk, .unk, .unk, .unk, .unk, .unk, .unk, .unk, .unk, .unk, .unk, .unk, .unk, .unk, .unk, .unk, .unk], [])
  | [], i, hd, hi => by
    have : i = l.length := by have := congrArg List.length hd; simp at this; omega
    subst this
    exact ⟨_, rp_end l⟩
  | c :: r, i, hd, hi => by
    have hc : l[i]? = some c := by have := congrArg (·[0]?) hd; simpa using this
    have hlt : i < l.length := (List.getElem?_eq_some_iff.1 hc).1
    have hd' : l.drop (i + 1) = r := by rw [← List.tail_drop, hd]; rfl
    cases ho : okAt i c with
    | true =>
      obtain ⟨j, e⟩ := rp_loop l hl r (i + 1) hd' (by omega)
      exact ⟨j, by rw [rp_round l i c hc hl ho, e]; simp only [okFrom, ho, Bool.true_and]⟩
    | false => exact ⟨i, by rw [rp_bad l i c hc hl ho]; simp [okFrom, ho]⟩
theorem okFrom_pos : ∀ (r : List UInt8) (i : Nat), 0 < i → okFrom i r = r.all aln
  | [], _, _ => rfl
  | c :: r, i, h => by
    rw [okFrom, okFrom_pos r (i + 1) (by omega), List.all_cons]
    congr 1
    unfold okAt aln alnN lowc digc
    simp [h]
theorem rIsPkg_p (l : List UInt8) (hl : l.length < 9223372036854775808) : pcall Tryd.prog md fg 53 [.val (.string (txt l))] = some (.val (.bool (pkgB l))) := by
  have e : ∃ h, aval Tryd.prog md fg 53 [.val (.string (txt l))] [] = some (.val (.bool (pkgB l)), h) := by
    obtain ⟨j, e⟩ := rp_loop l hl l 0 (by simp) (by omega)
    have hs := txt_size l
    rw [aval_of Tryd.func53 body53 Tryd.results53 Tryd.ntmps53 ok53]
    simp only [Int.natCast_zero] at e
    cases l with
    | nil =>
      simp only [okFrom, if_true] at e
      have hs : (txt []).size = 0 := hs
      simp (implicitDefEqProofs := false) (disch := omega) only [go_sem, Nat.reduceAdd, Nat.reduceSub, Nat.reduceMul, Nat.reduceLT, Nat.reduceLeDiff, Nat.reduceEqDiff, List.drop_zero, List.take_succ_cons, List.take_zero, List.drop_succ_cons, Bool.and_true, Bool.true_and, Bool.and_false, Bool.false_and, BitVec.reduceOfInt, Nat.zero_add, Nat.mul_one, Nat.add_zero, Int.zero_add, Int.reduceToNat, Nat.reducePow, ↓reduceIte, reduceCtorEq, Int.reduceLE, Int.reduceLT, Int.reduceEq, Int.reduceNe, Int.reduceAdd, Int.reduceSub, Int.reduceMul, Int.reduceNeg, Nat.reduceBEq, show regOf Tryd.f53 0 = Code.region _ _ _ from rfl, show regOf Tryd.f53 1 = Code.region _ _ _ from rfl, show regOf Tryd.f53 7 = Code.region _ _ _ from rfl, e, hs]
      exact ⟨_, rfl⟩
    | cons c r =>
      have hp : pkgB (c :: r) = (decide (r.length + 1 ≤ 20) && okFrom 0 (c :: r)) := by
        unfold pkgB
        dsimp only
        rw [okFrom, okFrom_pos r 1 (by omega)]
        congr 2
        unfold okAt; simp
      rw [hp]
      cases ho : okFrom 0 (c :: r) with
      | true =>
        rw [ho] at e
        simp only [if_true] at e
        have hs : (txt (c :: r)).size = r.length + 1 := hs
        by_cases h1 : r.length + 1 ≤ 20
        · rw [decide_eq_true h1]
          simp (implicitDefEqProofs := false) (disch := omega) only [go_sem, Nat.reduceAdd, Nat.reduceSub, Nat.reduceMul, Nat.reduceLT, Nat.reduceLeDiff, Nat.reduceEqDiff, List.drop_zero, List.take_succ_cons, List.take_zero, List.drop_succ_cons, Bool.and_true, Bool.true_and, Bool.and_false, Bool.false_and, BitVec.reduceOfInt, Nat.zero_add, Nat.mul_one, Nat.add_zero, Int.zero_add, Int.reduceToNat, Nat.reducePow, ↓reduceIte, reduceCtorEq, Int.reduceLE, Int.reduceLT, Int.reduceEq, Int.reduceNe, Int.reduceAdd, Int.reduceSub, Int.reduceMul, Int.reduceNeg, Nat.reduceBEq, show regOf Tryd.f53 0 = Code.region _ _ _ from rfl, show regOf Tryd.f53 1 = Code.region _ _ _ from rfl, show regOf Tryd.f53 7 = Code.region _ _ _ from rfl, e, hs]
          exact ⟨_, rfl⟩
        · rw [decide_eq_false h1]
          simp (implicitDefEqProofs := false) (disch := omega) only [go_sem, Nat.reduceAdd, Nat.reduceSub, Nat.reduceMul, Nat.reduceLT, Nat.reduceLeDiff, Nat.reduceEqDiff, List.drop_zero, List.take_succ_cons, List.take_zero, List.drop_succ_cons, Bool.and_true, Bool.true_and, Bool.and_false, Bool.false_and, BitVec.reduceOfInt, Nat.zero_add, Nat.mul_one, Nat.add_zero, Int.zero_add, Int.reduceToNat, Nat.reducePow, ↓reduceIte, reduceCtorEq, Int.reduceLE, Int.reduceLT, Int.reduceEq, Int.reduceNe, Int.reduceAdd, Int.reduceSub, Int.reduceMul, Int.reduceNeg, Nat.reduceBEq, show regOf Tryd.f53 0 = Code.region _ _ _ from rfl, show regOf Tryd.f53 1 = Code.region _ _ _ from rfl, show regOf Tryd.f53 7 = Code.region _ _ _ from rfl, e, hs]
          exact ⟨_, rfl⟩
      | false =>
        rw [ho] at e
        simp only [Bool.false_eq_true, if_false] at e
        rw [Bool.and_false]
        simp (implicitDefEqProofs := false) (disch := omega) only [go_sem, Nat.reduceAdd, Nat.reduceSub, Nat.reduceMul, Nat.reduceLT, Nat.reduceLeDiff, Nat.reduceEqDiff, List.drop_zero, List.take_succ_cons, List.take_zero, List.drop_succ_cons, Bool.and_true, Bool.true_and, Bool.and_false, Bool.false_and, BitVec.reduceOfInt, Nat.zero_add, Nat.mul_one, Nat.add_zero, Int.zero_add, Int.reduceToNat, Nat.reducePow, ↓reduceIte, reduceCtorEq, Int.reduceLE, Int.reduceLT, Int.reduceEq, Int.reduceNe, Int.reduceAdd, Int.reduceSub, Int.reduceMul, Int.reduceNeg, Nat.reduceBEq, show regOf Tryd.f53 0 = Code.region _ _ _ from rfl, show regOf Tryd.f53 1 = Code.region _ _ _ from rfl, show regOf Tryd.f53 7 = Code.region _ _ _ from rfl, e]
        exact ⟨_, rfl⟩
  obtain ⟨h, e⟩ := e
  rw [pcall_eq, e, pureRes_solid rfl]
end Go.Proofs.YtfloombnadnmaaaDoor
namespace Go.Proofs.YtfloombnadnmaaaDoor
open Go Go.Ab Go.Proofs
set_option maxRecDepth 100000
set_option linter.unusedSimpArgs false
set_option linter.unusedVariables false
theorem abin_agg {P : Program} (op : BinOp) (t : TypeId) (cs ds : List AV) : abin P op t (.agg cs) (.agg ds) = (aeqS P t (.agg cs) (.agg ds)).bind (aeqb op) := rfl
abbrev pinV (p : List UInt8) (a b c : Int) : AV := .agg [.str (txt p), .int a, .int b, .int c]
def verZ (a b c : Int) : Bool := decide (a = 0 ∧ b = 0 ∧ c = 0)
def pinZ (p : List UInt8) (a b c : Int) : Bool := decide (p = []) && verZ a b c
theorem eq25 (s t : ByteArray) (a b c a' b' c' : Int) : aeqS Tryd.prog 25 (.agg [.str s, .int a, .int b, .int c]) (.agg [.str t, .int a', .int b', .int c']) = some ((s.data.toList == t.data.toList) && (((a == a') && ((b == b') && ((c == c') && true))) && true)) := by kernel_rfl
theorem eq23 (a b c a' b' c' : Int) : aeqS Tryd.prog 23 (.agg [.int a, .int b, .int c]) (.agg [.int a', .int b', .int c']) = some ((a == a') && ((b == b') && ((c == c') && true))) := by kernel_rfl
theorem eq23z (a b c : Int) : aeqS Tryd.prog 23 (.agg [.int a, .int b, .int c]) (.agg [.int 0, .int 0, .int 0]) = some (verZ a b c) := by
  rw [eq23]
  congr 1
  unfold verZ
  by_cases h1 : a = 0 <;> by_cases h2 : b = 0 <;> by_cases h3 : c = 0 <;> simp [h1, h2, h3]
theorem eq25z (p : List UInt8) (a b c : Int) : aeqS Tryd.prog 25 (.agg [.str (txt p), .int a, .int b, .int c]) (.agg [.str ⟨#[]⟩, .int 0, .int 0, .int 0]) = some (pinZ p a b c) := by
  rw [eq25]
  congr 1
  unfold pinZ verZ
  rw [txt_list]
  have h0 : (p == ([] : List UInt8)) = decide (p = []) := by by_cases h : p = [] <;> simp [h]
  show ((p == []) && _) = _
  rw [h0]
  by_cases h1 : a = 0 <;> by_cases h2 : b = 0 <;> by_cases h3 : c = 0 <;> simp [h1, h2, h3]
/-- A pin, as command tells it: right, or zero. -/
def cpinB (p : List UInt8) (a b c : Int) (there bare : Bool) : Bool := if there then pkgB p && verB a b c && (!bare || verZ a b c) else pinZ p a b c
theorem bind_some {α β : Type} (x : α) (f : α → Option β) : (some x).bind f = f x := rfl
theorem aeqb_eql (b : Bool) : aeqb .eql b = some (.val (.bool b)) := rfl
theorem aeqb_neq (b : Bool) : aeqb .neq b = some (.val (.bool (!b))) := rfl
theorem cpin_p (p : List UInt8) (hp : p.length < 9223372036854775808) (a b c : Int) (there bare : Bool) : pcall Tryd.prog md fg 32 [pinV p a b c, .bool there, .bool bare] = some (.val (.bool (cpinB p a b c there bare))) := by
  have c1 : ∀ h : AHeap, doCall md (aval Tryd.prog md fg) 51 [.val (.string (txt p))] h = some (.val (.bool (pkgB p)), h) := fun h => doCall_pure md51 rfl (isPkg_p p hp)
  have c2 : ∀ h : AHeap, doCall md (aval Tryd.prog md fg) 52 [verV a b c] h = some (.val (.bool (verB a b c)), h) := fun h => doCall_pure md52 rfl (right_p a b c)
  have e : ∃ h, aval Tryd.prog md fg 32 [pinV p a b c, .bool there, .bool bare] [] = some (.val (.bool (cpinB p a b c there bare)), h) := by
    unfold cpinB
    rw [aval_of Tryd.func32 body32 Tryd.results32 Tryd.ntmps32 ok32]
    cases there with
    | false =>
      simp (implicitDefEqProofs := false) (disch := omega) only [go_sem, Nat.reduceAdd, Nat.reduceSub, Nat.reduceMul, Nat.reduceLT, Nat.reduceLeDiff, Nat.reduceEqDiff, List.drop_zero, List.take_succ_cons, List.take_zero, List.drop_succ_cons, Bool.and_true, Bool.true_and, Bool.and_false, Bool.false_and, BitVec.reduceOfInt, Nat.zero_add, Nat.mul_one, Nat.add_zero, Int.zero_add, Int.reduceToNat, Nat.reducePow, ↓reduceIte, reduceCtorEq, Int.reduceLE, Int.reduceLT, Int.reduceEq, Int.reduceNe, Int.reduceAdd, Int.reduceSub, Int.reduceMul, Int.reduceNeg, Nat.reduceBEq, show regOf Tryd.f32 0 = Code.region _ _ _ from rfl, show regOf Tryd.f32 1 = Code.region _ _ _ from rfl, show regOf Tryd.f32 2 = Code.region _ _ _ from rfl, abin_agg, eq25z, bind_some, aeqb_eql]
      exact ⟨_, rfl⟩
    | true =>
      cases h1 : pkgB p with
      | false => simp (implicitDefEqProofs := false) (disch := omega) only [go_sem, Nat.reduceAdd, Nat.reduceSub, Nat.reduceMul, Nat.reduceLT, Nat.reduceLeDiff, Nat.reduceEqDiff, List.drop_zero, List.take_succ_cons, List.take_zero, List.drop_succ_cons, Bool.and_true, Bool.true_and, Bool.and_false, Bool.false_and, BitVec.reduceOfInt, Nat.zero_add, Nat.mul_one, Nat.add_zero, Int.zero_add, Int.reduceToNat, Nat.reducePow, ↓reduceIte, reduceCtorEq, Int.reduceLE, Int.reduceLT, Int.reduceEq, Int.reduceNe, Int.reduceAdd, Int.reduceSub, Int.reduceMul, Int.reduceNeg, Nat.reduceBEq, show regOf Tryd.f32 0 = Code.region _ _ _ from rfl, show regOf Tryd.f32 1 = Code.region _ _ _ from rfl, show regOf Tryd.f32 3 = Code.region _ _ _ from rfl, c1, h1]; exact ⟨_, rfl⟩
      | true =>
        cases h2 : verB a b c with
        | false => simp (implicitDefEqProofs := false) (disch := omega) only [go_sem, Nat.reduceAdd, Nat.reduceSub, Nat.reduceMul, Nat.reduceLT, Nat.reduceLeDiff, Nat.reduceEqDiff, List.drop_zero, List.take_succ_cons, List.take_zero, List.drop_succ_cons, Bool.and_true, Bool.true_and, Bool.and_false, Bool.false_and, BitVec.reduceOfInt, Nat.zero_add, Nat.mul_one, Nat.add_zero, Int.zero_add, Int.reduceToNat, Nat.reducePow, ↓reduceIte, reduceCtorEq, Int.reduceLE, Int.reduceLT, Int.reduceEq, Int.reduceNe, Int.reduceAdd, Int.reduceSub, Int.reduceMul, Int.reduceNeg, Nat.reduceBEq, show regOf Tryd.f32 0 = Code.region _ _ _ from rfl, show regOf Tryd.f32 1 = Code.region _ _ _ from rfl, show regOf Tryd.f32 3 = Code.region _ _ _ from rfl, c1, c2, h1, h2]; exact ⟨_, rfl⟩
        | true =>
          cases bare with
          | false => simp (implicitDefEqProofs := false) (disch := omega) only [go_sem, Nat.reduceAdd, Nat.reduceSub, Nat.reduceMul, Nat.reduceLT, Nat.reduceLeDiff, Nat.reduceEqDiff, List.drop_zero, List.take_succ_cons, List.take_zero, List.drop_succ_cons, Bool.and_true, Bool.true_and, Bool.and_false, Bool.false_and, BitVec.reduceOfInt, Nat.zero_add, Nat.mul_one, Nat.add_zero, Int.zero_add, Int.reduceToNat, Nat.reducePow, ↓reduceIte, reduceCtorEq, Int.reduceLE, Int.reduceLT, Int.reduceEq, Int.reduceNe, Int.reduceAdd, Int.reduceSub, Int.reduceMul, Int.reduceNeg, Nat.reduceBEq, show regOf Tryd.f32 0 = Code.region _ _ _ from rfl, show regOf Tryd.f32 1 = Code.region _ _ _ from rfl, show regOf Tryd.f32 3 = Code.region _ _ _ from rfl, c1, c2, h1, h2]; exact ⟨_, rfl⟩
          | true => simp (implicitDefEqProofs := false) (disch := omega) only [go_sem, Nat.reduceAdd, Nat.reduceSub, Nat.reduceMul, Nat.reduceLT, Nat.reduceLeDiff, Nat.reduceEqDiff, List.drop_zero, List.take_succ_cons, List.take_zero, List.drop_succ_cons, Bool.and_true, Bool.true_and, Bool.and_false, Bool.false_and, BitVec.reduceOfInt, Nat.zero_add, Nat.mul_one, Nat.add_zero, Int.zero_add, Int.reduceToNat, Nat.reducePow, ↓reduceIte, reduceCtorEq, Int.reduceLE, Int.reduceLT, Int.reduceEq, Int.reduceNe, Int.reduceAdd, Int.reduceSub, Int.reduceMul, Int.reduceNeg, Nat.reduceBEq, show regOf Tryd.f32 0 = Code.region _ _ _ from rfl, show regOf Tryd.f32 1 = Code.region _ _ _ from rfl, show regOf Tryd.f32 3 = Code.region _ _ _ from rfl, c1, c2, h1, h2, abin_agg, eq23z, bind_some, aeqb_eql]; exact ⟨_, rfl⟩
  obtain ⟨h, e⟩ := e
  rw [pcall_eq, e, pureRes_solid rfl]
def rpinB (p : List UInt8) (a b c : Int) : Bool := pkgB p && verB a b c
theorem rpin_p (p : List UInt8) (hp : p.length < 9223372036854775808) (a b c : Int) : pcall Tryd.prog md fg 33 [pinV p a b c] = some (.val (.bool (rpinB p a b c))) := by
  have c1 : ∀ h : AHeap, doCall md (aval Tryd.prog md fg) 53 [.val (.string (txt p))] h = some (.val (.bool (pkgB p)), h) := fun h => doCall_pure md53 rfl (rIsPkg_p p hp)
  have c2 : ∀ h : AHeap, doCall md (aval Tryd.prog md fg) 54 [verV a b c] h = some (.val (.bool (verB a b c)), h) := fun h => doCall_pure md54 rfl (rright_p a b c)
  have e : ∃ h, aval Tryd.prog md fg 33 [pinV p a b c] [] = some (.val (.bool (rpinB p a b c)), h) := by
    unfold rpinB
    rw [aval_of Tryd.func33 body33 Tryd.results33 Tryd.ntmps33 ok33]
    cases h1 : pkgB p with
    | false => simp (implicitDefEqProofs := false) (disch := omega) only [go_sem, Nat.reduceAdd, Nat.reduceSub, Nat.reduceMul, Nat.reduceLT, Nat.reduceLeDiff, Nat.reduceEqDiff, List.drop_zero, List.take_succ_cons, List.take_zero, List.drop_succ_cons, Bool.and_true, Bool.true_and, Bool.and_false, Bool.false_and, BitVec.reduceOfInt, Nat.zero_add, Nat.mul_one, Nat.add_zero, Int.zero_add, Int.reduceToNat, Nat.reducePow, ↓reduceIte, reduceCtorEq, Int.reduceLE, Int.reduceLT, Int.reduceEq, Int.reduceNe, Int.reduceAdd, Int.reduceSub, Int.reduceMul, Int.reduceNeg, Nat.reduceBEq, show regOf Tryd.f33 0 = Code.region _ _ _ from rfl, show regOf Tryd.f33 1 = Code.region _ _ _ from rfl, c1, h1]; exact ⟨_, rfl⟩
    | true => cases h2 : verB a b c <;> simp (implicitDefEqProofs := false) (disch := omega) only [go_sem, Nat.reduceAdd, Nat.reduceSub, Nat.reduceMul, Nat.reduceLT, Nat.reduceLeDiff, Nat.reduceEqDiff, List.drop_zero, List.take_succ_cons, List.take_zero, List.drop_succ_cons, Bool.and_true, Bool.true_and, Bool.and_false, Bool.false_and, BitVec.reduceOfInt, Nat.zero_add, Nat.mul_one, Nat.add_zero, Int.zero_add, Int.reduceToNat, Nat.reducePow, ↓reduceIte, reduceCtorEq, Int.reduceLE, Int.reduceLT, Int.reduceEq, Int.reduceNe, Int.reduceAdd, Int.reduceSub, Int.reduceMul, Int.reduceNeg, Nat.reduceBEq, show regOf Tryd.f33 0 = Code.region _ _ _ from rfl, show regOf Tryd.f33 1 = Code.region _ _ _ from rfl, c1, c2, h1, h2] <;> exact ⟨_, rfl⟩
  obtain ⟨h, e⟩ := e
  rw [pcall_eq, e, pureRes_solid rfl]
end Go.Proofs.YtfloombnadnmaaaDoor
namespace Go.Proofs.YtfloombnadnmaaaDoor
open Go Go.Ab Go.Proofs
set_option maxRecDepth 100000
set_option linter.unusedSimpArgs false
set_option linter.unusedVariables false
/-- A command. -/
structure Cmd where
  k : Int
  p : List UInt8
  a : Int
  b : Int
  c : Int
  o : List UInt8
  d : Int
  e : Int
  f : Int
  s : List UInt8
abbrev cmdV (m : Cmd) : AV := .agg [.int m.k, .str (txt m.p), .int m.a, .int m.b, .int m.c, .str (txt m.o), .int m.d, .int m.e, .int m.f, .str (txt m.s)]
def Cmd.small (m : Cmd) : Prop := m.p.length < 9223372036854775808 ∧ m.o.length < 9223372036854775808 ∧ m.s.length < 9223372036854775808
def Cmd.right (m : Cmd) : Bool := kindB m.k && cpinB m.p m.a m.b m.c (pinB m.k) (decide (m.k = 5)) && cpinB m.o m.d m.e m.f (decide (m.k = 6)) false && decide (m.s.length ≤ 20000) && (srcB m.k || decide (m.s = []))
theorem txt_eq_nil (s : List UInt8) : (txt s = ⟨#[]⟩) = (s = []) := propext (txt_nil_iff s)
theorem cright_p (m : Cmd) (hm : m.small) : pcall Tryd.prog md fg 11 [cmdV m] = some (.val (.bool m.right)) := by
  obtain ⟨k, p, a, b, c, o, d, e, f, s⟩ := m
  obtain ⟨hp, ho, hs⟩ := hm
  dsimp only at hp ho hs
  have c1 : ∀ h : AHeap, doCall md (aval Tryd.prog md fg) 23 [.int k] h = some (partsV k, h) := fun h => doCall_pure md23 rfl (partsOf_p k)
  have c2 : ∀ (h : AHeap) (t u : Bool), doCall md (aval Tryd.prog md fg) 32 [pinV p a b c, .bool t, .bool u] h = some (.val (.bool (cpinB p a b c t u)), h) := fun h t u => doCall_pure md32 rfl (cpin_p p hp a b c t u)
  have c3 : ∀ (h : AHeap) (t u : Bool), doCall md (aval Tryd.prog md fg) 32 [pinV o d e f, .bool t, .bool u] h = some (.val (.bool (cpinB o d e f t u)), h) := fun h t u => doCall_pure md32 rfl (cpin_p o ho d e f t u)
  unfold partsV at c1
  have hk5 : (k == 5) = decide (k = 5) := rfl
  have hsz := txt_size s
  have e : ∃ h, aval Tryd.prog md fg 11 [cmdV ⟨k, p, a, b, c, o, d, e, f, s⟩] [] = some (.val (.bool (Cmd.right ⟨k, p, a, b, c, o, d, e, f, s⟩)), h) := by
    unfold Cmd.right
    dsimp only
    rw [aval_of Tryd.func11 body11 Tryd.results11 Tryd.ntmps11 ok11]
    cases h1 : kindB k with
    | false => simp (implicitDefEqProofs := false) (disch := omega) only [go_sem, Nat.reduceAdd, Nat.reduceSub, Nat.reduceMul, Nat.reduceLT, Nat.reduceLeDiff, Nat.reduceEqDiff, List.drop_zero, List.take_succ_cons, List.take_zero, List.drop_succ_cons, Bool.and_true, Bool.true_and, Bool.and_false, Bool.false_and, BitVec.reduceOfInt, Nat.zero_add, Nat.mul_one, Nat.add_zero, Int.zero_add, Int.reduceToNat, Nat.reducePow, ↓reduceIte, reduceCtorEq, Int.reduceLE, Int.reduceLT, Int.reduceEq, Int.reduceNe, Int.reduceAdd, Int.reduceSub, Int.reduceMul, Int.reduceNeg, Nat.reduceBEq, show regOf Tryd.f11 0 = Code.region _ _ _ from rfl, show regOf Tryd.f11 1 = Code.region _ _ _ from rfl, show regOf Tryd.f11 2 = Code.region _ _ _ from rfl, show regOf Tryd.f11 3 = Code.region _ _ _ from rfl, c1, h1]; exact ⟨_, rfl⟩
    | true =>
      cases h2 : cpinB p a b c (pinB k) (decide (k = 5)) with
      | false => simp (implicitDefEqProofs := false) (disch := omega) only [go_sem, Nat.reduceAdd, Nat.reduceSub, Nat.reduceMul, Nat.reduceLT, Nat.reduceLeDiff, Nat.reduceEqDiff, List.drop_zero, List.take_succ_cons, List.take_zero, List.drop_succ_cons, Bool.and_true, Bool.true_and, Bool.and_false, Bool.false_and, BitVec.reduceOfInt, Nat.zero_add, Nat.mul_one, Nat.add_zero, Int.zero_add, Int.reduceToNat, Nat.reducePow, ↓reduceIte, reduceCtorEq, Int.reduceLE, Int.reduceLT, Int.reduceEq, Int.reduceNe, Int.reduceAdd, Int.reduceSub, Int.reduceMul, Int.reduceNeg, Nat.reduceBEq, show regOf Tryd.f11 0 = Code.region _ _ _ from rfl, show regOf Tryd.f11 1 = Code.region _ _ _ from rfl, show regOf Tryd.f11 2 = Code.region _ _ _ from rfl, show regOf Tryd.f11 3 = Code.region _ _ _ from rfl, c1, hk5, c2, h1, h2]; exact ⟨_, rfl⟩
      | true =>
        cases h3 : cpinB o d e f (decide (k = 6)) false with
        | false => simp (implicitDefEqProofs := false) (disch := omega) only [go_sem, Nat.reduceAdd, Nat.reduceSub, Nat.reduceMul, Nat.reduceLT, Nat.reduceLeDiff, Nat.reduceEqDiff, List.drop_zero, List.take_succ_cons, List.take_zero, List.drop_succ_cons, Bool.and_true, Bool.true_and, Bool.and_false, Bool.false_and, BitVec.reduceOfInt, Nat.zero_add, Nat.mul_one, Nat.add_zero, Int.zero_add, Int.reduceToNat, Nat.reducePow, ↓reduceIte, reduceCtorEq, Int.reduceLE, Int.reduceLT, Int.reduceEq, Int.reduceNe, Int.reduceAdd, Int.reduceSub, Int.reduceMul, Int.reduceNeg, Nat.reduceBEq, show regOf Tryd.f11 0 = Code.region _ _ _ from rfl, show regOf Tryd.f11 1 = Code.region _ _ _ from rfl, show regOf Tryd.f11 2 = Code.region _ _ _ from rfl, show regOf Tryd.f11 3 = Code.region _ _ _ from rfl, c1, hk5, c2, c3, h1, h2, h3]; exact ⟨_, rfl⟩
        | true =>
          by_cases h4 : s.length ≤ 20000
          · rw [decide_eq_true h4]
            cases h5 : srcB k with
            | true => simp (implicitDefEqProofs := false) (disch := omega) only [go_sem, Nat.reduceAdd, Nat.reduceSub, Nat.reduceMul, Nat.reduceLT, Nat.reduceLeDiff, Nat.reduceEqDiff, List.drop_zero, List.take_succ_cons, List.take_zero, List.drop_succ_cons, Bool.and_true, Bool.true_and, Bool.and_false, Bool.false_and, BitVec.reduceOfInt, Nat.zero_add, Nat.mul_one, Nat.add_zero, Int.zero_add, Int.reduceToNat, Nat.reducePow, ↓reduceIte, reduceCtorEq, Int.reduceLE, Int.reduceLT, Int.reduceEq, Int.reduceNe, Int.reduceAdd, Int.reduceSub, Int.reduceMul, Int.reduceNeg, Nat.reduceBEq, show regOf Tryd.f11 0 = Code.region _ _ _ from rfl, show regOf Tryd.f11 1 = Code.region _ _ _ from rfl, show regOf Tryd.f11 2 = Code.region _ _ _ from rfl, show regOf Tryd.f11 4 = Code.region _ _ _ from rfl, c1, hk5, c2, c3, h1, h2, h3, h5, hsz]; exact ⟨_, rfl⟩
            | false => simp (implicitDefEqProofs := false) (disch := omega) only [go_sem, Nat.reduceAdd, Nat.reduceSub, Nat.reduceMul, Nat.reduceLT, Nat.reduceLeDiff, Nat.reduceEqDiff, List.drop_zero, List.take_succ_cons, List.take_zero, List.drop_succ_cons, Bool.and_true, Bool.true_and, Bool.and_false, Bool.false_and, BitVec.reduceOfInt, Nat.zero_add, Nat.mul_one, Nat.add_zero, Int.zero_add, Int.reduceToNat, Nat.reducePow, ↓reduceIte, reduceCtorEq, Int.reduceLE, Int.reduceLT, Int.reduceEq, Int.reduceNe, Int.reduceAdd, Int.reduceSub, Int.reduceMul, Int.reduceNeg, Nat.reduceBEq, show regOf Tryd.f11 0 = Code.region _ _ _ from rfl, show regOf Tryd.f11 1 = Code.region _ _ _ from rfl, show regOf Tryd.f11 2 = Code.region _ _ _ from rfl, show regOf Tryd.f11 4 = Code.region _ _ _ from rfl, c1, hk5, c2, c3, h1, h2, h3, h5, hsz, txt_eq_nil]; exact ⟨_, rfl⟩
          · rw [decide_eq_false h4]
            simp (implicitDefEqProofs := false) (disch := omega) only [go_sem, Nat.reduceAdd, Nat.reduceSub, Nat.reduceMul, Nat.reduceLT, Nat.reduceLeDiff, Nat.reduceEqDiff, List.drop_zero, List.take_succ_cons, List.take_zero, List.drop_succ_cons, Bool.and_true, Bool.true_and, Bool.and_false, Bool.false_and, BitVec.reduceOfInt, Nat.zero_add, Nat.mul_one, Nat.add_zero, Int.zero_add, Int.reduceToNat, Nat.reducePow, ↓reduceIte, reduceCtorEq, Int.reduceLE, Int.reduceLT, Int.reduceEq, Int.reduceNe, Int.reduceAdd, Int.reduceSub, Int.reduceMul, Int.reduceNeg, Nat.reduceBEq, show regOf Tryd.f11 0 = Code.region _ _ _ from rfl, show regOf Tryd.f11 1 = Code.region _ _ _ from rfl, show regOf Tryd.f11 2 = Code.region _ _ _ from rfl, show regOf Tryd.f11 4 = Code.region _ _ _ from rfl, c1, hk5, c2, c3, h1, h2, h3, hsz]; exact ⟨_, rfl⟩
  obtain ⟨h, e⟩ := e
  rw [pcall_eq, e, pureRes_solid rfl]
end Go.Proofs.YtfloombnadnmaaaDoor
