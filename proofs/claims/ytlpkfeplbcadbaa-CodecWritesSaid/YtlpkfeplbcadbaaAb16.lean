/-
  What the abstract machine answers, the model answers.
-/
import Derived.Test.YtlpkfeplbcadbaaAb15
import Derived.LoopN
namespace Go.Ab
section
variable {P : Program} {md : FuncId → Nat} {fg : FuncId → Nat → List Bool} {M : Nat → List Bool} {X O : Nat → Prop} {h h' : AHeap} {γ γ' : Ghost} {w w' : World}

def vBool : Value → Option Bool
  | .bool b => some b
  | _ => none
theorem yielded_eq (ops : Array Oper) (tmps : Array Value) (j : Nat) : yielded ops tmps j = ((ops[j]?).bind (·.dst)).bind fun d => vBool (tmps.getD d undef) := by
  unfold yielded
  cases hd : (ops[j]?).bind (·.dst) with
  | none => rfl
  | some d =>
    simp only [Option.bind_some]
    by_cases hl : d < tmps.size
    · have e1 : tmps[d]? = some (tmps.getD d undef) := by simp [hl]
      rw [e1]
      cases tmps.getD d undef <;> rfl
    · have e1 : tmps[d]? = none := Array.getElem?_eq_none (Nat.le_of_not_lt hl)
      have e2 : tmps.getD d undef = undef := by simp [Array.getD, hl]
      rw [e1, e2]; rfl
theorem guard_eq {ops : Array Oper} {env : Env} {a : Act} (he : VA w O γ env a.tmps) {o : Oper} {b : Bool} (h : aguard ops env o = some b) : Region.wanted o (yielded ops a.tmps) = b := by
  unfold aguard at h
  unfold Region.wanted
  cases hg : o.guard with
  | none => rw [hg] at h; cases h; rfl
  | some p =>
    obtain ⟨j, want⟩ := p
    rw [hg] at h
    dsimp only at h ⊢
    rw [yielded_eq]
    cases hd : (ops[j]?).bind (·.dst) with
    | none => rw [hd] at h; cases h; rfl
    | some d =>
      rw [hd] at h
      dsimp only [Option.bind_some] at h ⊢
      have hv := he.get d
      generalize env.getD d .und = av at h hv
      generalize a.tmps.getD d undef = u at hv
      cases hv with
      | unk v => cases h
      | val _ => cases u <;> cases h <;> rfl
      | _ => cases h; rfl
theorem VA.put {env : Env} {a : Act} (he : VA w O γ env a.tmps) {v : AV} {u : Value} (hv : V w O γ v u) (d : Option Tmp) : VA w O γ (aput env d v) (a.put d u).tmps := by
  cases d with
  | none => exact he
  | some d => exact he.set hv d
theorem put_defers (a : Act) (d : Option Tmp) (u : Value) : (a.put d u).defers = a.defers := by cases d <;> rfl
/-- One operation, and what follows. -/
theorem step_sound {call : CallF} (hc : CallOk P call) (r : R X h γ w) {env : Env} {a : Act} (he : VA w (Ow X h γ) γ env a.tmps) {o : Oper} {v : AV} (e : astep P md call env h o = some (v, h')) {K : Act → World → Prop} {Q : Exit → Act → World → Prop}
    (hK : ∀ u w' γ', Goes X h γ w h' γ' w' → V w' (Ow X h' γ') γ' v u → K (a.put o.dst u) w') : o.wp P a w K Q := by
  unfold astep at e
  split at e
  · rename_i v' h1 hop
    cases e
    obtain ⟨u, w', γ', h1, h2, h3⟩ := op_value r he hop
    unfold Oper.wp
    rcases h1 with h1 | ⟨h1, rfl⟩
    · rw [h1, Oper.upon_value]; exact hK u w' γ' h2 h3
    · rw [h1, Oper.upon_skip]; exact hK undef w' γ' h2 h3
  · rename_i f args h1 hop
    obtain ⟨rfl, _, vs, hrun, hva⟩ := op_call he hop
    unfold Oper.wp
    rw [hrun, Oper.upon_enter]
    refine (doCall_sound hc e r hva).mono ?_
    rintro e w' ⟨u, γ', rfl, h2, h3⟩
    exact hK u w' γ' h2 h3
  · cases e
theorem runOps_sound {call : CallF} (hc : CallOk P call) (ops : Array Oper) : ∀ (l : List Oper) {env env' : Env} {h h' : AHeap} {γ : Ghost} {w : World} {a : Act} {Q : Exit → Act → World → Prop},
    runOps P md call ops l env h = some (env', h') → R X h γ w → VA w (Ow X h γ) γ env a.tmps →
    (∀ a' w' γ', VA w' (Ow X h' γ') γ' env' a'.tmps → Goes X h γ w h' γ' w' → a'.defers = a.defers → Q .normal a' w') → wpList P ops Q l a w := by
  intro l
  induction l with
  | nil => intro env env' h h' γ w a Q e r he hQ; cases e; exact hQ a w γ he (Goes.refl r) rfl
  | cons o l ih =>
    intro env env' h h' γ w a Q e r he hQ
    simp only [runOps] at e
    unfold wpList
    split at e
    · rename_i hg0
      rw [if_pos (guard_eq he hg0)]
      split at e
      · rename_i v h1 hs
        refine .inl (step_sound hc r he hs fun u w' γ' hg hv => ?_)
        refine ih e hg.rel ((he.goes hg).put hv o.dst) fun a' w2 γ2 h1 h2 h3 => hQ a' w2 γ2 h1 (hg.trans h2) (by rw [h3, put_defers])
      · cases e
    · rename_i hg0
      rw [if_neg (by rw [guard_eq he hg0]; simp)]
      exact ih e r (he.put (.val _) o.dst) fun a' w2 γ2 h1 h2 h3 => hQ a' w2 γ2 h1 h2 (by rw [h3, put_defers])
    · cases e

def toExit : Ex → Exit
  | .norm => .normal
  | .exit id => .exit id
  | .ret => .ret
/-- Where the code comes to. -/
def Comes1 (X : Nat → Prop) (h : AHeap) (γ : Ghost) (w : World) (a : Act) (x : Ex) (env' : Env) (h' : AHeap) (e : Exit) (a' : Act) (w' : World) : Prop :=
  e = toExit x ∧ ∃ γ', VA w' (Ow X h' γ') γ' env' a'.tmps ∧ Goes X h γ w h' γ' w' ∧ a'.defers = a.defers
def DrawOk (P : Program) (md : FuncId → Nat) : Prop :=
  ∀ (call : CallF), CallOk P call → ∀ (ops : Array Oper) (L : Bool), drawOk1 P md ops L = true → ∀ {env env' : Env} {h h' : AHeap} {γ : Ghost} {w : World} {a : Act} {X : Nat → Prop} {Q : Exit → Act → World → Prop} (id : Nat),
    (if L then runLoose P md call ops ops.toList env h [h] [] else runDraw P md call ops ops.toList env h) = some (env', h') → R X h γ w → VA w (Ow X h γ) γ env a.tmps →
    (∀ a' w' γ', VA w' (Ow X h' γ') γ' env' a'.tmps → Goes X h γ w h' γ' w' → a'.defers = a.defers → Q .normal a' w') → (Code.region id ops true).wp P Q a w
theorem then_norm {K : Act → World → Prop} {Q : Exit → Act → World → Prop} (a : Act) (w : World) : Exit.then K Q .normal a w = K a w := rfl
theorem maskR_inv {m : List Bool} {r : RunR} {x : Ex} {env' : Env} {h' : AHeap} (e : maskR m r = some (x, env', h')) : ∃ env1, r = some (x, env1, h') ∧ env' = mask m env1 := by
  unfold maskR at e
  cases r with
  | none => cases e
  | some p => obtain ⟨a, b, c⟩ := p; cases e; exact ⟨b, rfl, rfl⟩
theorem run_sound (hd : DrawOk P md) {call : CallF} (hc : CallOk P call) (n : Nat) : ∀ (code : Code) {k : List Bool} {env env' : Env} {h h' : AHeap} {γ : Ghost} {w : World} {a : Act} {x : Ex} {X : Nat → Prop},
    run P md M call n code k env h = some (x, env', h') → drawsOk P md M code = true → R X h γ w → VA w (Ow X h γ) γ env a.tmps → code.wp P (Comes1 X h γ w a x env' h') a w := by
  intro code
  induction code with
  | skip => intro k env env' h h' γ w a x X e _ r he; cases e; exact wp_skip ⟨rfl, γ, he, Goes.refl r, rfl⟩
  | region id ops d =>
    intro k env env' h h' γ w a x X e hok r he
    simp only [run] at e
    obtain ⟨env1, e', rfl⟩ := maskR_inv e
    replace e := e'
    cases d with
    | false =>
      simp only [Bool.false_eq_true, if_false] at e
      unfold normK at e
      cases ho : runOps P md call ops ops.toList env h with
      | none => rw [ho] at e; cases e
      | some p => rw [ho] at e; cases e; exact wp_region_list (runOps_sound hc ops _ ho r he fun a' w' γ' h1 h2 h3 => ⟨rfl, γ', h1.mask _, h2, h3⟩)
    | true =>
      simp only [if_true] at e
      unfold normK at e
      cases ho : (if looseAt M id then runLoose P md call ops ops.toList env h [h] [] else runDraw P md call ops ops.toList env h) with
      | none => rw [ho] at e; cases e
      | some p =>
        rw [ho] at e; cases e
        exact hd call hc ops (looseAt M id) (by simpa [drawsOk] using hok) id ho r he fun a' w' γ' h1 h2 h3 => ⟨rfl, γ', h1.mask _, h2, h3⟩
  | seq c1 c2 ih1 ih2 =>
    intro k env env' h h' γ w a x X e hok r he
    simp only [drawsOk, Bool.and_eq_true] at hok
    simp only [run] at e
    unfold seqK at e
    split at e
    · rename_i e1 h1 hr1
      refine wp_seq (wp_mono (ih1 hr1 hok.1 r he) ?_)
      rintro ex a' w' ⟨rfl, γ', k1, k2, k3⟩
      show c2.wp P _ a' w'
      refine wp_mono (ih2 e hok.2 k2.rel k1) ?_
      rintro ex a2 w2 ⟨rfl, γ2, m1, m2, m3⟩
      exact ⟨rfl, γ2, m1, k2.trans m2, by rw [m3, k3]⟩
    · rename_i hn
      refine wp_seq (wp_mono (ih1 e hok.1 r he) ?_)
      rintro ex a' w' ⟨rfl, γ', k1, k2, k3⟩
      cases x with
      | norm => exact absurd e (by intro e; exact hn _ _ e)
      | exit id => exact ⟨rfl, γ', k1, k2, k3⟩
      | ret => exact ⟨rfl, γ', k1, k2, k3⟩
  | cond c c1 c2 ih1 ih2 =>
    intro k env env' h h' γ w a x X e hok r he
    simp only [drawsOk, Bool.and_eq_true] at hok
    simp only [run] at e
    unfold condK at e
    split at e
    · rename_i t ht
      have hv := he.oval c
      rw [ht] at hv
      refine wp_cond (t := t) hv.val_inv ?_
      cases t with
      | true => exact ih1 e hok.1 r he
      | false => exact ih2 e hok.2 r he
    · cases e
  | block id c ih =>
    intro k env env' h h' γ w a x X e hok r he
    simp only [run] at e
    unfold blockK at e
    split at e
    · rename_i i e1 h1 hr1
      refine wp_block (wp_mono (ih hr1 hok r he) ?_)
      rintro ex a' w' ⟨rfl, γ', k1, k2, k3⟩
      show Exit.inBlock id _ (.exit i) a' w'
      simp only [Exit.inBlock]
      split at e
      · rename_i hi; cases e; rw [if_pos hi]; exact ⟨rfl, γ', k1, k2, k3⟩
      · rename_i hi; cases e; rw [if_neg hi]; exact ⟨rfl, γ', k1, k2, k3⟩
    · rename_i hn
      refine wp_block (wp_mono (ih e hok r he) ?_)
      rintro ex a' w' ⟨rfl, γ', k1, k2, k3⟩
      cases x with
      | norm => exact ⟨rfl, γ', k1, k2, k3⟩
      | exit i => exact absurd e (by intro e; exact hn _ _ _ e)
      | ret => exact ⟨rfl, γ', k1, k2, k3⟩
  | loop c ih =>
    intro k env env' h h' γ w a x X e hok r he
    simp only [run] at e
    obtain ⟨env1, e', rfl⟩ := maskR_inv e
    replace e := e'
    refine wp_mono (Q := Comes1 X h γ w a x env1 h') ?_ fun ex a' w' ⟨h1, γ', h2, h3, h4⟩ => ⟨h1, γ', h2.mask _, h3, h4⟩
    refine wp_loop_rounds n ?_
    have key : ∀ (m : Nat) {env : Env} {h1 : AHeap} {γ1 : Ghost} {w1 : World} {a1 : Act}, iter (fun e h => run P md M call n c k (mask k e) h) m env h1 = some (x, env1, h') → VA w1 (Ow X h1 γ1) γ1 env a1.tmps → Goes X h γ w h1 γ1 w1 → a1.defers = a.defers →
        Code.rounds P c (Comes1 X h γ w a x env1 h') m a1 w1 := by
      intro m
      induction m with
      | zero => intro env h1 γ1 w1 a1 e; cases e
      | succ m ihm =>
        intro env h1 γ1 w1 a1 e he1 hg1 hd1
        rw [rounds_succ]
        simp only [iter] at e
        unfold seqK at e
        split at e
        · rename_i e2 h2 hr2
          refine wp_mono (ih hr2 hok hg1.rel (he1.mask k)) ?_
          rintro ex a' w' ⟨rfl, γ', k1, k2, k3⟩
          exact ihm e k1 (hg1.trans k2) (by rw [k3, hd1])
        · rename_i hn
          refine wp_mono (ih e hok hg1.rel (he1.mask k)) ?_
          rintro ex a' w' ⟨rfl, γ', k1, k2, k3⟩
          cases x with
          | norm => exact absurd e (by intro e; exact hn _ _ e)
          | exit id => exact ⟨rfl, γ', k1, hg1.trans k2, by rw [k3, hd1]⟩
          | ret => exact ⟨rfl, γ', k1, hg1.trans k2, by rw [k3, hd1]⟩
    exact key n e he (Goes.refl r) rfl
  | exit id => intro k env env' h h' γ w a x X e _ r he; cases e; exact wp_exit ⟨rfl, γ, he, Goes.refl r, rfl⟩
  | ret => intro k env env' h h' γ w a x X e _ r he; cases e; exact wp_ret ⟨rfl, γ, he, Goes.refl r, rfl⟩
  | rangeFunc _ _ _ _ _ _ => intro k env env' h h' γ w a x X e; cases e
  | scope _ _ => intro k env env' h h' γ w a x X e; cases e
  | label _ => intro k env env' h h' γ w a x X e; cases e
  | goto _ => intro k env env' h h' γ w a x X e; cases e
  | refuse _ => intro k env env' h h' γ w a x X e; cases e

/-! ### Results -/
def resF (tmps : Array Value) : ResultVar → Sem Value
  | .tmp t => pure (tmps.getD t undef)
  | .cell a t => do loadVar t (← asAddr (tmps.getD a undef))
theorem results_resF (fn : Func) (tmps : Array Value) : results fn tmps = (do let vs ← fn.results.mapM (resF tmps); pure (if h : vs.size = 1 then vs[0] else .tuple vs)) := by
  have e : (fun | .tmp t => pure (tmps.getD t undef) | .cell a t => do loadVar t (← asAddr (tmps.getD a undef)) : ResultVar → Sem Value) = resF tmps := by
    funext x; cases x <;> rfl
  rw [← e]; rfl
theorem aresults_sound (r : R X h γ w) {env : Env} {tmps : Array Value} (he : VA w (Ow X h γ) γ env tmps) : ∀ (rs : List ResultVar) {l : List AV}, aresults P rs env h = some l →
    ∃ vs : List Value, (rs.mapM (resF tmps) : Sem (List Value)).run P w = .ok vs w ∧ VA w (Ow X h γ) γ l vs.toArray
  | [], l, e => by cases e; exact ⟨[], rfl, VA.nil⟩
  | .tmp t :: rs, l, e => by
    simp only [aresults] at e
    cases hr : aresults P rs env h with
    | none => rw [hr] at e; cases e
    | some l' =>
      rw [hr] at e; cases e
      obtain ⟨vs, h1, h2⟩ := aresults_sound r he rs hr
      refine ⟨tmps.getD t undef :: vs, ?_, ?_⟩
      · simp only [List.mapM_cons, Sem.run_bind, resF, Sem.run_pure, Result.andThen_ok]
        rw [h1]; rfl
      · refine ⟨by simpa using h2.1, fun i a v ha hv => ?_⟩
        cases i with
        | zero => simp at ha hv; subst ha; subst hv; simpa using he.get t
        | succ n => exact h2.2 n a v (by simpa using ha) (by simpa using hv)
  | .cell c t :: rs, l, e => by
    simp only [aresults] at e
    split at e
    · rename_i v l' hl hr
      cases e
      obtain ⟨vs, h1, h2⟩ := aresults_sound r he rs hr
      obtain ⟨u, h3, h4⟩ := aload_sound r (he.get c) hl
      refine ⟨u :: vs, ?_, ?_⟩
      · have h5 : (resF tmps (.cell c t)).run P w = .ok u w := by
          show (do loadVar t (← asAddr (tmps.getD c undef)) : Sem Value).run P w = .ok u w
          generalize tmps.getD c undef = x at h3 ⊢
          cases x <;> first
            | (simp [Instr.loadAt, Instr.sureAddr] at h3; done)
            | (rename_i o
               cases o with
               | none => simp [Instr.loadAt, Instr.sureAddr] at h3
               | some p => simpa [Instr.loadAt, Instr.sureAddr, asAddr] using h3)
        simp only [List.mapM_cons, Sem.run_bind, h5, Result.andThen_ok, h1, Sem.run_pure]
      · refine ⟨by simpa using h2.1, fun i a v ha hv => ?_⟩
        cases i with
        | zero => simp at ha hv; subst ha; subst hv; exact h4
        | succ n => exact h2.2 n a v (by simpa using ha) (by simpa using hv)
    · cases e
theorem results_sound (r : R X h γ w) {env : Env} {tmps : Array Value} (he : VA w (Ow X h γ) γ env tmps) {fn : Func} {l : List AV} (e : aresults P fn.results.toList env h = some l) :
    ∃ v, (results fn tmps).run P w = .ok v w ∧ V w (Ow X h γ) γ (tupOf l) v := by
  obtain ⟨vs, h1, h2⟩ := aresults_sound (P := P) r he _ e
  have hm : (fn.results.mapM (resF tmps) : Sem (Array Value)).run P w = .ok vs.toArray w := by
    rw [Array.mapM_eq_mapM_toList]
    simp only [Sem.run_map, h1, Result.andThen_ok]
  refine ⟨if hs : vs.toArray.size = 1 then vs.toArray[0] else .tuple vs.toArray, ?_, ?_⟩
  · rw [results_resF]
    simp only [Sem.run_bind, hm, Result.andThen_ok, Sem.run_pure]
  · cases l with
    | nil =>
      have h0 : vs = [] := List.eq_nil_of_length_eq_zero (by simpa using h2.1.symm)
      subst h0
      exact .tup [] #[] rfl fun i c v hi => by simp at hi
    | cons a t =>
      cases t with
      | nil =>
        have hl1 : vs.length = 1 := by simpa using h2.1.symm
        rw [dif_pos (by simpa using hl1)]
        exact h2.2 0 a _ rfl (by simp [hl1])
      | cons b t =>
        have hl1 : vs.length = t.length + 2 := by simpa using h2.1.symm
        rw [dif_neg (by simp [hl1])]
        exact .tup _ _ h2.1 h2.2
theorem acall_ok (hd : DrawOk P md) : ∀ n, CallOk P (acall P md fg n) := by
  intro n
  induction n with
  | zero => intro f args h r h' X γ w vs e; cases e
  | succ n ih =>
    intro f args h r h' X γ w vs e hr hv
    rw [acall] at e
    split at e
    · rename_i hok
      split at e
      · rename_i fn hfn
        split at e
        · rename_i code hb
          have hdr : drawsOk P md (fg f) code = true := by simpa [fnOk, hfn, hb] using hok
          have he : VA w (Ow X h γ) γ (env0 fn.ntmps args) (vs ++ Array.replicate (fn.ntmps - vs.size) undef) := by
            have hl := hv.1
            unfold env0
            rw [hl]
            exact hv.append (VA.unks _ _ (by simp))
          unfold finish at e
          have fin : ∀ (x : Ex) (env1 : Env) (h1 : AHeap), (x = .norm ∨ x = .ret) → run P md (fg f) (acall P md fg n) n code [] (env0 fn.ntmps args) h = some (x, env1, h1) → (aresults P fn.results.toList env1 h1).map (fun l => (tupOf l, h1)) = some (r, h') → Answers P X h γ w f vs r h' := by
            intro x env1 h1 hx hrun hres
            cases ha : aresults P fn.results.toList env1 h1 with
            | none => rw [ha] at hres; cases hres
            | some l =>
              rw [ha] at hres; cases hres
              refine calls_of_wp hfn hb (wp_mono (run_sound (a := { tmps := vs ++ Array.replicate (fn.ntmps - vs.size) undef, defers := [] }) hd ih n code hrun hdr hr he) ?_)
              rintro ex a' w' ⟨rfl, γ', k1, k2, k3⟩
              obtain ⟨v, h3, h4⟩ := results_sound k2.rel k1 ha
              rcases hx with rfl | rfl
              · exact ⟨k3, v, h3, v, γ', rfl, k2, h4⟩
              · exact ⟨k3, v, h3, v, γ', rfl, k2, h4⟩
          split at e
          · rename_i e1 h1 hrun; exact fin _ _ _ (.inl rfl) hrun e
          · rename_i e1 h1 hrun; exact fin _ _ _ (.inr rfl) hrun e
          · cases e
        · cases e
      · cases e
    · cases e
end
end Go.Ab
