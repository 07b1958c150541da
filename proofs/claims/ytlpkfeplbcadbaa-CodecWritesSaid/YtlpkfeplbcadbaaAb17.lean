/-
  A region whose order Go leaves open: whatever the order, it answers what it answers in the text's.
-/
import Derived.Test.YtlpkfeplbcadbaaAb16
namespace Go.Ab
set_option linter.unusedSimpArgs false
set_option linter.unusedVariables false
section
variable {P : Program} {md : FuncId → Nat}

/-! ### What an operation hangs on -/
theorem map_congr_oval {env env' : Env} {xs : Array Operand} (h : ∀ x ∈ xs, oval env x = oval env' x) : xs.toList.map (oval env) = xs.toList.map (oval env') :=
  List.map_congr_left fun x hx => h x (by simpa using hx)
theorem opt_congr_oval {env env' : Env} {x : Option Operand} (h : ∀ y ∈ x.toArray, oval env y = oval env' y) : x.map (oval env) = x.map (oval env') := by
  cases x with
  | none => rfl
  | some y => simp only [Option.map_some]; rw [h y (by simp)]
theorem parts_congr_oval {env env' : Env} {ps : Array (Nat × Operand)} (h : ∀ x ∈ (ps.toList.map (·.2)).toArray, oval env x = oval env' x) :
    (ps.toList.map fun p => (p.1, oval env p.2)) = ps.toList.map fun p => (p.1, oval env' p.2) :=
  List.map_congr_left fun p hp => by rw [h p.2 (by simp only [List.mem_toArray, List.mem_map]; exact ⟨p, hp, rfl⟩)]
theorem aop_congr {env env' : Env} {h : AHeap} {o : Oper} (hx : ∀ x ∈ o.op.operands, oval env x = oval env' x) : aop P env h o = aop P env' h o := by
  unfold aop
  cases hop : o.op with
  | move x => simp only; rw [hx x (by simp [hop, Op.operands])]
  | assign x => simp only; rw [hx x (by simp [hop, Op.operands])]
  | pick c a b => simp only; rw [hx c (by simp [hop, Op.operands]), hx a (by simp [hop, Op.operands]), hx b (by simp [hop, Op.operands])]
  | box t x => simp only; rw [hx x (by simp [hop, Op.operands])]
  | build t ps => simp only; rw [parts_congr_oval fun x h => hx x (by rw [hop]; exact h)]
  | buildSlice t n ps => simp only; rw [parts_congr_oval fun x h => hx x (by rw [hop]; exact h)]
  | load t x => simp only; rw [hx x (by simp [hop, Op.operands])]
  | store t x y => simp only; rw [hx x (by simp [hop, Op.operands]), hx y (by simp [hop, Op.operands])]
  | nilCheck x => simp only; rw [hx x (by simp [hop, Op.operands])]
  | binOp op t x y t' => simp only; rw [hx x (by simp [hop, Op.operands]), hx y (by simp [hop, Op.operands])]
  | unOp op t x => simp only; rw [hx x (by simp [hop, Op.operands])]
  | convert s d x => simp only; rw [hx x (by simp [hop, Op.operands])]
  | makeFunc fn first caps =>
    cases fn with
    | func f =>
      simp only
      rw [map_congr_oval fun x h => hx x (by rw [hop]; simp only [Op.operands, Array.mem_append]; exact .inl h), map_congr_oval fun x h => hx x (by rw [hop]; simp only [Op.operands, Array.mem_append]; exact .inr h)]
    | _ => rfl
  | makeSlice t l c => simp only; rw [hx l (by simp [hop, Op.operands]), hx c (by simp [hop, Op.operands])]
  | slice t x lo hi mx =>
    simp only
    rw [hx x (by simp [hop, Op.operands]), opt_congr_oval fun y h => hx y (by rw [hop]; simp only [Op.operands, Array.mem_append]; exact .inl (.inl (.inr h))), opt_congr_oval fun y h => hx y (by rw [hop]; simp only [Op.operands, Array.mem_append]; exact .inl (.inr h)),
      opt_congr_oval fun y h => hx y (by rw [hop]; simp only [Op.operands, Array.mem_append]; exact .inr h)]
  | fieldAddr s x f => simp only; rw [hx x (by simp [hop, Op.operands])]
  | field s x f => simp only; rw [hx x (by simp [hop, Op.operands])]
  | indexAddr t x i => simp only; rw [hx x (by simp [hop, Op.operands]), hx i (by simp [hop, Op.operands])]
  | index t x i => simp only; rw [hx x (by simp [hop, Op.operands]), hx i (by simp [hop, Op.operands])]
  | extract t i => simp only; rw [hx t (by simp [hop, Op.operands])]
  | call c =>
    simp only
    have hargs := map_congr_oval (env := env) (env' := env') (xs := c.args) fun x h => hx x (by rw [hop]; simp only [Op.operands, Call.operands, Array.mem_append]; exact .inr h)
    cases hc : c.callee with
    | value f => simp only; rw [hargs, hx f (by rw [hop]; simp [Op.operands, Call.operands, hc])]
    | builtin b => simp only; rw [hargs]
    | invoke _ _ => rfl
  | _ => rfl
/-- What neither turns the memory nor reads it. -/
theorem aop_pure {env : Env} {h h' : AHeap} {o : Oper} {v : AV} (he : effOp P md o = false) (hr : readOp P o = false) :
    (aop P env h o = some (.value v h') → h' = h ∧ ∀ h2, aop P env h2 o = some (.value v h2)) ∧ (∀ f as, aop P env h o ≠ some (.call f as h')) := by
  have one : ∀ {x : Option AV}, ato x h = some (.value v h') → h' = h ∧ ∀ h2, ato x h2 = some (.value v h2) := by
    intro x e
    obtain ⟨rfl, rfl⟩ := ato_inv e
    exact ⟨rfl, fun h2 => rfl⟩
  unfold aop
  unfold effOp at he
  unfold readOp at hr
  cases hop : o.op with
  | move x => simp only; exact ⟨fun e => (by cases e; exact ⟨rfl, fun _ => rfl⟩), fun f as e => (by cases e)⟩
  | assign x => simp only; exact ⟨fun e => (by cases e; exact ⟨rfl, fun _ => rfl⟩), fun f as e => (by cases e)⟩
  | pick c a b => simp only; exact ⟨one, fun f as e => ato_call e⟩
  | build t ps => simp only; exact ⟨one, fun f as e => ato_call e⟩
  | buildSlice t n ps => simp only; exact ⟨one, fun f as e => ato_call e⟩
  | nilCheck x => simp only; exact ⟨one, fun f as e => ato_call e⟩
  | binOp op t x y t' => simp only; exact ⟨one, fun f as e => ato_call e⟩
  | unOp op t x => simp only; exact ⟨one, fun f as e => ato_call e⟩
  | convert s d x =>
    simp only [hop] at he hr ⊢
    refine ⟨fun e => ?_, fun f as e => ato2_call e⟩
    replace e := ato2_inv e
    unfold aconvert at e ⊢
    cases hs : P.underlying s <;> cases hd : P.underlying d <;> simp only [hs, hd] at e he hr ⊢ <;> first
      | (cases e; done)
      | skip
    rename_i ds dd
    cases ds <;> cases dd <;> simp only at e he hr ⊢ <;> first
      | (cases e; done)
      | (cases he; done)
      | (cases hr; done)
      | (split at e
         · cases e; exact ⟨rfl, fun _ => rfl⟩
         · cases e)
  | makeFunc fn first caps =>
    cases fn with
    | func f => simp only; exact ⟨fun e => (by cases e; exact ⟨rfl, fun _ => rfl⟩), fun f as e => (by cases e)⟩
    | _ => exact ⟨fun e => (by cases e), fun f as e => (by cases e)⟩
  | slice t x lo hi mx =>
    simp only [hop] at hr ⊢
    refine ⟨fun e => ?_, fun f as e => ato_call e⟩
    obtain ⟨e', rfl⟩ := ato_inv e
    refine ⟨rfl, fun h2 => ?_⟩
    cases hx : oval env x with
    | ptr id off =>
      rw [hx] at e'
      unfold asliceAt asliceArr at e'
      cases hta : tarr P t with
      | some p => rw [hta] at hr; cases hr
      | none => rw [hta] at e'; cases e'
    | _ => rw [hx] at e'; unfold asliceAt at e' ⊢; rw [e']; rfl
  | fieldAddr s x f => simp only; exact ⟨one, fun f as e => ato_call e⟩
  | field s x f => simp only; exact ⟨one, fun f as e => ato_call e⟩
  | indexAddr t x i => simp only; exact ⟨one, fun f as e => ato_call e⟩
  | index t x i => simp only; exact ⟨one, fun f as e => ato_call e⟩
  | extract t i =>
    simp only
    split
    · exact ⟨one, fun f as e => ato_call e⟩
    · exact ⟨fun e => (by cases e), fun f as e => (by cases e)⟩
  | call c =>
    simp only [hop] at he hr ⊢
    cases hc : c.callee with
    | value f => simp only [hc] at hr; cases hr
    | invoke _ _ => exact ⟨fun e => (by cases e), fun f as e => (by cases e)⟩
    | builtin b =>
      simp only [hc] at he hr ⊢
      refine ⟨fun e => ?_, fun f as e => ato2_call e⟩
      replace e := ato2_inv e
      generalize c.args.toList.map (oval env) = xs at e ⊢
      unfold abuiltin at e ⊢
      split at e
      · rename_i x
        split at e
        · rename_i hts
          cases hl : alen P (argT c.argTypes 0) x with
          | none => rw [hl] at e; cases e
          | some z => rw [hl] at e; cases e; exact ⟨rfl, fun h2 => by simp [hts, hl, ato2]⟩
        · cases e
      · cases he
      · cases he
      · rename_i x r
        cases hl : afold amin2 x r with
        | none => rw [hl] at e; cases e
        | some z => rw [hl] at e; cases e; exact ⟨rfl, fun h2 => by simp [hl, ato2]⟩
      · rename_i x r
        cases hl : afold amax2 x r with
        | none => rw [hl] at e; cases e
        | some z => rw [hl] at e; cases e; exact ⟨rfl, fun h2 => by simp [hl, ato2]⟩
      · cases e
  | alloc t => simp only [hop] at he; cases he
  | box t x => simp only [hop] at he; cases he
  | store t x y => simp only [hop] at he; cases he
  | makeSlice t l c => simp only [hop] at he; cases he
  | load t x => simp only [hop] at hr; cases hr
  | _ => exact ⟨fun e => (by cases e), fun f as e => (by cases e)⟩

/-! ### The text's own run -/
structure Trace (P : Program) (md : FuncId → Nat) (call : CallF) (ops : Array Oper) (n : Nat) (E : Nat → Env) (H : Nat → AHeap) (v : Nat → AV) : Prop where
  step : ∀ i o, i < n → ops[i]? = some o → E (i + 1) = aput (E i) o.dst (v i) ∧
    ((aguard ops (E i) o = some true ∧ astep P md call (E i) (H i) o = some (v i, H (i + 1)) ∧ (effOp P md o = true ∨ H (i + 1) = H i)) ∨ (aguard ops (E i) o = some false ∧ v i = .und ∧ H (i + 1) = H i))
theorem trace_of {call : CallF} {ops : Array Oper} : ∀ (l : List Oper) (k : Nat) {env env' : Env} {h h' : AHeap}, (∀ j, l[j]? = ops[k + j]?) → runDraw P md call ops l env h = some (env', h') →
    ∃ (E : Nat → Env) (H : Nat → AHeap) (v : Nat → AV), E k = env ∧ H k = h ∧ E (k + l.length) = env' ∧ H (k + l.length) = h' ∧
      ∀ i o, k ≤ i → i < k + l.length → ops[i]? = some o → E (i + 1) = aput (E i) o.dst (v i) ∧
        ((aguard ops (E i) o = some true ∧ astep P md call (E i) (H i) o = some (v i, H (i + 1)) ∧ (effOp P md o = true ∨ H (i + 1) = H i)) ∨ (aguard ops (E i) o = some false ∧ v i = .und ∧ H (i + 1) = H i)) := by
  intro l
  induction l with
  | nil =>
    intro k env env' h h' _ e
    cases e
    exact ⟨fun _ => env, fun _ => h, fun _ => .und, rfl, rfl, rfl, rfl, fun i o h1 h2 => by simp at h2; omega⟩
  | cons o l ih =>
    intro k env env' h h' hl e
    have h0 : ops[k]? = some o := by simpa using (hl 0).symm
    have hl' : ∀ j, l[j]? = ops[k + 1 + j]? := fun j => by have := hl (j + 1); simpa [Nat.add_assoc, Nat.add_comm 1 j] using this
    have go : ∀ (v0 : AV) (h1 : AHeap), runDraw P md call ops l (aput env o.dst v0) h1 = some (env', h') →
        ((aguard ops env o = some true ∧ astep P md call env h o = some (v0, h1) ∧ (effOp P md o = true ∨ h1 = h)) ∨ (aguard ops env o = some false ∧ v0 = .und ∧ h1 = h)) →
        ∃ (E : Nat → Env) (H : Nat → AHeap) (v : Nat → AV), E k = env ∧ H k = h ∧ E (k + (o :: l).length) = env' ∧ H (k + (o :: l).length) = h' ∧
          ∀ i o', k ≤ i → i < k + (o :: l).length → ops[i]? = some o' → E (i + 1) = aput (E i) o'.dst (v i) ∧
            ((aguard ops (E i) o' = some true ∧ astep P md call (E i) (H i) o' = some (v i, H (i + 1)) ∧ (effOp P md o' = true ∨ H (i + 1) = H i)) ∨ (aguard ops (E i) o' = some false ∧ v i = .und ∧ H (i + 1) = H i)) := by
      intro v0 h1 hrun hst
      obtain ⟨E, H, v, e1, e2, e3, e4, e5⟩ := ih (k + 1) hl' hrun
      refine ⟨fun i => if i = k then env else E i, fun i => if i = k then h else H i, fun i => if i = k then v0 else v i, by simp, by simp, ?_, ?_, ?_⟩
      · simp only [List.length_cons]
        rw [if_neg (by omega), ← e3]; congr 1; omega
      · simp only [List.length_cons]
        rw [if_neg (by omega), ← e4]; congr 1; omega
      · intro i o' h2 h3 h4
        simp only [List.length_cons] at h3
        by_cases hik : i = k
        · subst hik
          rw [h0] at h4; cases h4
          simp only [if_true]
          rw [if_neg (by omega), if_neg (by omega), e1, e2]
          exact ⟨rfl, hst⟩
        · simp only [if_neg hik]
          rw [if_neg (by omega), if_neg (by omega)]
          exact e5 i o' (by omega) (by omega) h4
    simp only [runDraw] at e
    split at e
    · rename_i hw
      split at e
      · rename_i v0 h1 hs
        split at e
        · rename_i hq
          exact go v0 h1 e (.inl ⟨hw, hs, hq⟩)
        · cases e
      · cases e
    · rename_i hw
      exact go .und h e (.inr ⟨hw, rfl, rfl⟩)
    · cases e

theorem trace_loose {call : CallF} {ops : Array Oper} : ∀ (l : List Oper) (k : Nat) {env env' : Env} {h h' : AHeap} {hs : List AHeap} {pd : List (Env × Oper × AV)}, (∀ j, l[j]? = ops[k + j]?) → h ∈ hs → (∀ p ∈ pd, aop P p.1 h p.2.1 = some (.value p.2.2 h)) → runLoose P md call ops l env h hs pd = some (env', h') →
    ∃ (E : Nat → Env) (H : Nat → AHeap) (v : Nat → AV), E k = env ∧ H k = h ∧ E (k + l.length) = env' ∧ H (k + l.length) = h' ∧
      (∀ i o, k ≤ i → i < k + l.length → ops[i]? = some o → E (i + 1) = aput (E i) o.dst (v i) ∧
        ((aguard ops (E i) o = some true ∧ astep P md call (E i) (H i) o = some (v i, H (i + 1)) ∧ (effOp P md o = true ∨ H (i + 1) = H i)) ∨ (aguard ops (E i) o = some false ∧ v i = .und ∧ H (i + 1) = H i))) ∧
      (∀ p ∈ pd, ∀ j, k ≤ j → j ≤ k + l.length → aop P p.1 (H j) p.2.1 = some (.value p.2.2 (H j))) ∧
      (∀ i o, k ≤ i → i < k + l.length → ops[i]? = some o → isLoad o = true → aguard ops (E i) o = some true → (∀ g ∈ hs, aop P (E i) g o = some (.value (v i) g)) ∧ ∀ j, k ≤ j → j ≤ k + l.length → aop P (E i) (H j) o = some (.value (v i) (H j))) := by
  intro l
  induction l with
  | nil =>
    intro k env env' h h' hs pd _ _ hpd e
    cases e
    exact ⟨fun _ => env, fun _ => h, fun _ => .und, rfl, rfl, rfl, rfl, fun i o h1 h2 => by simp at h2; omega, fun p hp j _ _ => hpd p hp, fun i o h1 h2 => by simp at h2; omega⟩
  | cons o l ih =>
    intro k env env' h h' hs pd hl hh hpd e
    have h0 : ops[k]? = some o := by simpa using (hl 0).symm
    have hl' : ∀ j, l[j]? = ops[k + 1 + j]? := fun j => by have := hl (j + 1); simpa [Nat.add_assoc, Nat.add_comm 1 j] using this
    have go : ∀ (v0 : AV) (h1 : AHeap) (hs1 : List AHeap) (pd1 : List (Env × Oper × AV)), runLoose P md call ops l (aput env o.dst v0) h1 hs1 pd1 = some (env', h') → (∀ g ∈ hs, g ∈ hs1) → h1 ∈ hs1 → (∀ p ∈ pd, p ∈ pd1) → (∀ p ∈ pd1, aop P p.1 h1 p.2.1 = some (.value p.2.2 h1)) →
        (isLoad o = true → aguard ops env o = some true → (env, o, v0) ∈ pd1 ∧ ∀ g ∈ hs, aop P env g o = some (.value v0 g)) →
        ((aguard ops env o = some true ∧ astep P md call env h o = some (v0, h1) ∧ (effOp P md o = true ∨ h1 = h)) ∨ (aguard ops env o = some false ∧ v0 = .und ∧ h1 = h)) →
        ∃ (E : Nat → Env) (H : Nat → AHeap) (v : Nat → AV), E k = env ∧ H k = h ∧ E (k + (o :: l).length) = env' ∧ H (k + (o :: l).length) = h' ∧
          (∀ i o', k ≤ i → i < k + (o :: l).length → ops[i]? = some o' → E (i + 1) = aput (E i) o'.dst (v i) ∧
            ((aguard ops (E i) o' = some true ∧ astep P md call (E i) (H i) o' = some (v i, H (i + 1)) ∧ (effOp P md o' = true ∨ H (i + 1) = H i)) ∨ (aguard ops (E i) o' = some false ∧ v i = .und ∧ H (i + 1) = H i))) ∧
          (∀ p ∈ pd, ∀ j, k ≤ j → j ≤ k + (o :: l).length → aop P p.1 (H j) p.2.1 = some (.value p.2.2 (H j))) ∧
          (∀ i o', k ≤ i → i < k + (o :: l).length → ops[i]? = some o' → isLoad o' = true → aguard ops (E i) o' = some true → (∀ g ∈ hs, aop P (E i) g o' = some (.value (v i) g)) ∧ ∀ j, k ≤ j → j ≤ k + (o :: l).length → aop P (E i) (H j) o' = some (.value (v i) (H j))) := by
      intro v0 h1 hs1 pd1 hrun hs12 hh1 hpd12 hpd1 hld hst
      obtain ⟨E, H, v, e1, e2, e3, e4, e5, e6, e7⟩ := ih (k + 1) hl' hh1 hpd1 hrun
      have later : ∀ p ∈ pd1, ∀ j, k + 1 ≤ j → j ≤ k + (o :: l).length → aop P p.1 (H j) p.2.1 = some (.value p.2.2 (H j)) := fun p hp j a b => e6 p hp j a (by simp only [List.length_cons] at b; omega)
      refine ⟨fun i => if i = k then env else E i, fun i => if i = k then h else H i, fun i => if i = k then v0 else v i, by simp, by simp, ?_, ?_, ?_, ?_, ?_⟩
      · simp only [List.length_cons]
        rw [if_neg (by omega), ← e3]; congr 1; omega
      · simp only [List.length_cons]
        rw [if_neg (by omega), ← e4]; congr 1; omega
      · intro i o' h2 h3 h4
        simp only [List.length_cons] at h3
        by_cases hik : i = k
        · subst hik
          rw [h0] at h4; cases h4
          simp only [if_true]
          rw [if_neg (by omega), if_neg (by omega), e1, e2]
          exact ⟨rfl, hst⟩
        · simp only [if_neg hik]
          rw [if_neg (by omega), if_neg (by omega)]
          exact e5 i o' (by omega) (by omega) h4
      · intro p hp j a b
        by_cases hjk : j = k
        · subst hjk; simp only [if_true]; exact hpd p hp
        · simp only [if_neg hjk]; exact later p (hpd12 p hp) j (by omega) b
      · intro i o' h2 h3 h4 hlo hg
        by_cases hik : i = k
        · subst hik
          rw [h0] at h4; cases h4
          simp only [if_true] at hg ⊢
          obtain ⟨m1, m2⟩ := hld hlo hg
          refine ⟨m2, fun j a b => ?_⟩
          by_cases hjk : j = i
          · subst hjk; simp only [if_true]; exact m2 h hh
          · simp only [if_neg hjk]; exact later _ m1 j (by omega) b
        · simp only [if_neg hik] at hg ⊢
          obtain ⟨m1, m2⟩ := e7 i o' (by omega) (by simp only [List.length_cons] at h3; omega) h4 hlo hg
          refine ⟨fun g hg2 => m1 g (hs12 g hg2), fun j a b => ?_⟩
          by_cases hjk : j = k
          · subst hjk; simp only [if_true]; exact m1 h (hs12 h hh)
          · simp only [if_neg hjk]; exact m2 j (by omega) (by simp only [List.length_cons] at b; omega)
    simp only [runLoose] at e
    split at e
    · rename_i hw
      split at e
      · rename_i v0 h1 hst
        split at e
        · rename_i hq
          obtain ⟨q1, q2, q3⟩ := hq
          have hne : isLoad o = true → effOp P md o = false := by
            intro hlo
            unfold isLoad at hlo
            split at hlo
            · rename_i hop; simp [effOp, hop]
            · cases hlo
          refine go v0 h1 _ _ e ?_ ?_ ?_ ?_ ?_ (.inl ⟨hw, hst, q1⟩)
          · intro g hg; split
            · exact List.mem_cons_of_mem _ hg
            · exact hg
          · split
            · exact List.mem_cons_self ..
            · rename_i hne2
              rcases q1 with q1 | q1
              · exact absurd q1 hne2
              · rw [q1]; exact hh
          · intro p hp; split
            · exact List.mem_cons_of_mem _ hp
            · exact hp
          · intro p hp
            have old : ∀ p ∈ pd, aop P p.1 h1 p.2.1 = some (.value p.2.2 h1) := by
              intro p hp
              by_cases he : effOp P md o = true
              · exact q2 he p hp
              · rcases q1 with q1 | q1
                · exact absurd q1 he
                · rw [q1]; exact hpd p hp
            split at hp
            · rename_i hlo
              rcases List.mem_cons.1 hp with rfl | hp
              · have hfe := hne hlo
                have : h1 = h := by
                  rcases q1 with q1 | q1
                  · rw [hfe] at q1; cases q1
                  · exact q1
                rw [this]; exact q3 hlo h hh
              · exact old p hp
            · exact old p hp
          · intro hlo _
            rw [if_pos hlo]
            exact ⟨List.mem_cons_self .., q3 hlo⟩
        · cases e
      · cases e
    · rename_i hw
      exact go .und h hs pd e (fun _ x => x) hh (fun _ x => x) hpd (fun _ hg => by rw [hw] at hg; cases hg) (.inr ⟨hw, rfl, rfl⟩)
    · cases e

/-! ### Puts, in the text's order -/
def puts (ops : Array Oper) (v : Nat → AV) (l : List Nat) (env : Env) : Env := l.foldl (fun e j => aput e ((ops[j]?).bind (·.dst)) (v j)) env
def writes (ops : Array Oper) (t : Nat) (j : Nat) : Bool := (ops[j]?).bind (·.dst) == some t
theorem aput_length (env : Env) (d : Option Tmp) (v : AV) : (aput env d v).length = env.length := by cases d <;> simp [aput]
theorem puts_length (ops : Array Oper) (v : Nat → AV) : ∀ (l : List Nat) (env : Env), (puts ops v l env).length = env.length
  | [], _ => rfl
  | j :: l, env => by
    have := puts_length ops v l (aput env ((ops[j]?).bind (·.dst)) (v j))
    rw [aput_length] at this; exact this
theorem aput_get (env : Env) (d : Option Tmp) (v : AV) (t : Nat) : (aput env d v)[t]? = if d = some t then (if t < env.length then some v else none) else env[t]? := by
  cases d with
  | none => simp [aput]
  | some d =>
    simp only [aput, List.getElem?_set, Option.some.injEq]
    split
    · rename_i h; subst h; simp
    · rfl
/-- What a slot holds hangs on those that write it alone. -/
theorem puts_get (ops : Array Oper) (v : Nat → AV) (t : Nat) : ∀ (l : List Nat) (env : Env), (puts ops v l env)[t]? = (puts ops v (l.filter (writes ops t)) env)[t]? := by
  intro l
  induction l with
  | nil => intro env; rfl
  | cons j l ih =>
    intro env
    by_cases hw : writes ops t j = true
    · rw [List.filter_cons_of_pos hw]
      exact ih _
    · rw [List.filter_cons_of_neg hw]
      have h1 : (puts ops v (j :: l) env)[t]? = (puts ops v l (aput env ((ops[j]?).bind (·.dst)) (v j)))[t]? := rfl
      rw [h1, ih]
      -- the put ahead of them does not touch the slot
      have key : ∀ (m : List Nat) (e1 e2 : Env), e1.length = e2.length → e1[t]? = e2[t]? → (puts ops v m e1)[t]? = (puts ops v m e2)[t]? := by
        intro m
        induction m with
        | nil => intro e1 e2 _ h; exact h
        | cons i m ihm =>
          intro e1 e2 hl h
          refine ihm _ _ (by rw [aput_length, aput_length, hl]) ?_
          rw [aput_get, aput_get, hl, h]
      refine key _ _ _ (aput_length _ _ _) ?_
      rw [aput_get, if_neg]
      intro hd
      exact hw (by simp [writes, hd])
theorem filter_upto {n i : Nat} (hi : i ≤ n) {p q : Nat → Bool} (h : ∀ j, j < n → p j = true → (q j = true ↔ j < i)) : ((List.range n).filter q).filter p = (List.range i).filter p := by
  induction n with
  | zero => obtain rfl : i = 0 := by omega
            rfl
  | succ n ih =>
    by_cases hin : i = n + 1
    · subst hin
      rw [List.filter_filter]
      apply List.filter_congr
      intro j hj
      have hj' : j < n + 1 := by simpa using hj
      cases hp : p j with
      | false => rfl
      | true => simp [(h j hj' hp).2 hj']
    · rw [List.range_succ, List.filter_append, List.filter_append, ih (by omega) fun j hj => h j (by omega)]
      have : ([n].filter q).filter p = [] := by
        rw [List.filter_filter]
        cases hp : p n with
        | false => simp [hp]
        | true =>
          have := h n (by omega) hp
          have hq : q n = false := by cases hq : q n with
            | false => rfl
            | true => have := this.1 hq; omega
          simp [hp, hq]
      rw [this, List.append_nil]

/-! ### Any order -/
section any
variable {call : CallF} {ops : Array Oper} {E : Nat → Env} {H : Nat → AHeap} {v : Nat → AV}
def isEff (P : Program) (md : FuncId → Nat) (ops : Array Oper) (j : Nat) : Bool := match ops[j]? with | some o => effOp P md o | none => false
/-- The memory behind the last of those that may turn it. -/
def lastH (H : Nat → AHeap) : List Nat → AHeap
  | [] => H 0
  | j :: r => match r with
    | [] => H (j + 1)
    | r => lastH H r
theorem lastH_mem (H : Nat → AHeap) : ∀ l : List Nat, lastH H l = H 0 ∨ ∃ j ∈ l, lastH H l = H (j + 1)
  | [] => .inl rfl
  | [a] => .inr ⟨a, by simp, rfl⟩
  | a :: b :: l => by
    rcases lastH_mem H (b :: l) with h | ⟨j, hj, h⟩
    · exact .inl (by simpa [lastH] using h)
    · exact .inr ⟨j, List.mem_cons_of_mem _ hj, by simpa [lastH] using h⟩
theorem lastH_snoc (H : Nat → AHeap) : ∀ (l : List Nat) (j : Nat), lastH H (l ++ [j]) = H (j + 1)
  | [], j => rfl
  | [a], j => rfl
  | a :: b :: l, j => by
    have := lastH_snoc H (b :: l) j
    simpa [lastH] using this
theorem H_eq (tr : Trace P md call ops ops.size E H v) : ∀ i, i ≤ ops.size → H i = lastH H ((List.range i).filter (isEff P md ops)) := by
  intro i
  induction i with
  | zero => intro _; rfl
  | succ i ih =>
    intro hi
    have hlt : i < ops.size := by omega
    have ho : ops[i]? = some ops[i] := by simp [hlt]
    rw [List.range_succ, List.filter_append]
    cases he : isEff P md ops i with
    | true => rw [List.filter_cons_of_pos he, List.filter_nil, lastH_snoc]
    | false =>
      rw [List.filter_cons_of_neg (by rw [he]; simp), List.filter_nil, List.append_nil, ← ih (by omega)]
      have hne : effOp P md ops[i] = false := by simpa [isEff, ho] using he
      obtain ⟨_, hst⟩ := tr.step i _ hlt ho
      rcases hst with ⟨_, _, h3⟩ | ⟨_, _, h3⟩
      · rcases h3 with h3 | h3
        · rw [hne] at h3; cases h3
        · exact h3
      · exact h3
theorem E_eq (tr : Trace P md call ops ops.size E H v) : ∀ i, i ≤ ops.size → E i = puts ops v (List.range i) (E 0) := by
  intro i
  induction i with
  | zero => intro _; rfl
  | succ i ih =>
    intro hi
    have hlt : i < ops.size := by omega
    have ho : ops[i]? = some ops[i] := by simp [hlt]
    rw [(tr.step i _ hlt ho).1, ih (by omega), List.range_succ]
    simp [puts, List.foldl_append, ho]
/-- What has been carried out. -/
def on (listed : Array Bool) (j : Nat) : Bool := listed.getD j false
def envAt (ops : Array Oper) (v : Nat → AV) (e0 : Env) (listed : Array Bool) : Env := puts ops v ((List.range ops.size).filter (on listed)) e0
def heapAt (P : Program) (md : FuncId → Nat) (ops : Array Oper) (H : Nat → AHeap) (listed : Array Bool) : AHeap := lastH H (((List.range ops.size).filter (on listed)).filter (isEff P md ops))
theorem drawOk_parts {L : Bool} (hok : drawOk1 P md ops L = true) :
    Region.departs ops = false ∧ (∀ (i : Nat) (o : Oper), ops[i]? = some o → ∀ e ∈ o.after, e.on < i) ∧
    (∀ (i : Nat) (o : Oper) (j : Nat) (o' : Oper) (t : Nat), ops[i]? = some o → ops[j]? = some o' → t ∈ tmpsOf ops o → o'.dst = some t → i = j ∨ ordered (Region.before ops) i j = true) ∧
    (∀ (i : Nat) (o : Oper) (j : Nat) (o' : Oper), ops[i]? = some o → ops[j]? = some o' → effOp P md o = true → (effOp P md o' = true ∨ (readOp P o' = true ∧ ¬ (L = true ∧ isLoad o' = true))) → i = j ∨ ordered (Region.before ops) i j = true) := by
  simp only [drawOk1, Bool.and_eq_true, Bool.not_eq_true', List.all_eq_true, Array.all_eq_true_iff_forall_mem, decide_eq_true_eq, Bool.or_eq_true, beq_iff_eq, bne_iff_ne, Bool.not_eq_eq_eq_not, Bool.not_true] at hok
  obtain ⟨⟨⟨h1, h2⟩, h3⟩, h4⟩ := hok
  have mem : ∀ {i o}, ops[i]? = some o → (o, i) ∈ ops.toList.zipIdx := by
    intro i o h
    rw [List.mem_zipIdx_iff_getElem?]
    simpa using h
  refine ⟨h1, fun i o ho e he => h2 (o, i) (mem ho) e he, fun i o j o' t ho ho' ht hd => ?_, fun i o j o' ho ho' he hr => ?_⟩
  · rcases h3 (o, i) (mem ho) t ht (o', j) (mem ho') with (h | h) | h
    · exact .inl h
    · exact absurd hd h
    · exact .inr h
  · rcases h4 (o, i) (mem ho) with h | h
    · rw [he] at h; cases h
    · rcases h (o', j) (mem ho') with (h | h) | h
      · exact .inl h
      · exfalso
        rcases hr with hr | ⟨hr, hl⟩
        · simp [hr] at h
        · cases L <;> simp_all
      · exact .inr h
/-! ### What the edges order -/
def Closed (ops : Array Oper) (Y : Nat → Prop) : Prop := ∀ (j : Nat) (o : Oper), ops[j]? = some o → Y j → ∀ e ∈ o.after, Y e.on
theorem getD_push (acc : Array Nat) (s j : Nat) : (acc.push s).getD j 0 = if j = acc.size then s else acc.getD j 0 := by
  simp only [Array.getD_eq_getD_getElem?, Array.getElem?_push]
  split <;> rfl
theorem before_closed {Y : Nat → Prop} (hc : Closed ops Y) {i j : Nat} (hb : ((Region.before ops).getD j 0).testBit i = true) (hj : Y j) : Y i := by
  have key : ∀ (l : List Oper) (acc : Array Nat), (∀ m, l[m]? = ops[acc.size + m]?) → (∀ j i, (acc.getD j 0).testBit i = true → Y j → Y i) →
      ∀ j i, ((l.foldl (fun acc o => acc.push (o.after.foldl (fun s e => if Region.binds .any e then s ||| 2 ^ e.on ||| acc.getD e.on 0 else s) 0)) acc).getD j 0).testBit i = true → Y j → Y i := by
    intro l
    induction l with
    | nil => intro acc _ h; exact h
    | cons o l ih =>
      intro acc hl h
      refine ih _ (fun m => ?_) ?_
      · have := hl (m + 1)
        simp only [Array.size_push]
        rw [show acc.size + 1 + m = acc.size + (m + 1) by omega, ← this]; rfl
      · intro j i hb hj
        rw [getD_push] at hb
        split at hb
        · rename_i hjs
          subst hjs
          have ho : ops[acc.size]? = some o := by have := hl 0; simpa using this.symm
          have hY := hc _ _ ho hj
          rw [← Array.foldl_toList] at hb
          have hY' : ∀ e ∈ o.after.toList, Y e.on := fun e he => hY e (by simpa using he)
          revert hb
          have go : ∀ (es : List Edge) (s0 : Nat), (∀ e ∈ es, Y e.on) → (s0.testBit i = true → Y i) → (es.foldl (fun s e => if Region.binds .any e then s ||| 2 ^ e.on ||| acc.getD e.on 0 else s) s0).testBit i = true → Y i := by
            intro es
            induction es with
            | nil => intro s0 _ h0 hb; exact h0 hb
            | cons e es ihe =>
              intro s0 hes h0 hb
              refine ihe _ (fun e' he' => hes e' (by simp [he'])) ?_ hb
              intro hb
              dsimp only at hb
              split at hb
              · simp only [Nat.testBit_or, Bool.or_eq_true, Nat.testBit_two_pow, decide_eq_true_eq] at hb
                rcases hb with (hb | hb) | hb
                · exact h0 hb
                · rw [← hb]; exact hes e (by simp)
                · exact h _ _ hb (hes e (by simp))
              · exact h0 hb
          exact go o.after.toList 0 hY' (fun hb => by simp at hb)
        · exact h j i hb hj
  have := key ops.toList #[] (fun m => by simp) (fun j i hb => by simp at hb) j i
  unfold Region.before at hb
  rw [← Array.foldl_toList] at hb
  exact this hb hj
theorem ordered_on {listed : Array Bool} (hcl : Closed ops fun j => on listed j = true) {i j : Nat} {o : Oper} (ho : ops[i]? = some o) (hi : on listed i = false) (hdeps : ∀ e ∈ o.after, on listed e.on = true) (hne : i ≠ j)
    (hb : ordered (Region.before ops) i j = true) : on listed j = true ↔ j < i := by
  unfold ordered at hb
  rcases Nat.lt_or_gt_of_ne hne with hlt | hgt
  · rw [Nat.max_eq_right (by omega), Nat.min_eq_left (by omega)] at hb
    constructor
    · intro hj
      have := before_closed hcl hb hj
      rw [hi] at this; cases this
    · intro h; omega
  · rw [Nat.max_eq_left (by omega), Nat.min_eq_right (by omega)] at hb
    refine ⟨fun _ => hgt, fun _ => ?_⟩
    have hc : Closed ops fun k => on listed k = true ∨ k = i := by
      intro k o' ho' hk e he
      rcases hk with hk | rfl
      · exact .inl (hcl k o' ho' hk e he)
      · rw [ho] at ho'; cases ho'; exact .inl (hdeps e he)
    rcases before_closed hc hb (.inr rfl) with h | h
    · exact h
    · exact absurd h.symm hne
theorem on_set {listed : Array Bool} {i : Nat} (hi : i < listed.size) (j : Nat) : on (listed.setIfInBounds i true) j = if j = i then true else on listed j := by
  unfold on
  simp only [Array.getD_eq_getD_getElem?, Array.getElem?_setIfInBounds]
  by_cases h : i = j
  · subst h; simp [hi]
  · rw [if_neg h, if_neg (fun e => h e.symm)]
theorem getD_of_get {e1 e2 : Env} {t : Nat} (h : e1[t]? = e2[t]?) : e1.getD t .und = e2.getD t .und := by simp only [List.getD, h]
/-- Loads that answer the same in every memory of the region. -/
def LooseTr (P : Program) (ops : Array Oper) (E : Nat → Env) (H : Nat → AHeap) (v : Nat → AV) : Prop :=
  ∀ i o, i < ops.size → ops[i]? = some o → isLoad o = true → aguard ops (E i) o = some true → ∀ j, j ≤ ops.size → aop P (E i) (H j) o = some (.value (v i) (H j))
theorem ready_step (tr : Trace P md call ops ops.size E H v) {L : Bool} (hok : drawOk1 P md ops L = true) (hlo : L = true → LooseTr P ops E H v) {listed : Array Bool} (hsz : listed.size = ops.size) (hcl : Closed ops fun j => on listed j = true) {i : Nat} {o : Oper} (ho : ops[i]? = some o)
    (hi : on listed i = false) (hdeps : ∀ e ∈ o.after, on listed e.on = true) :
    aguard ops (envAt ops v (E 0) listed) o = aguard ops (E i) o ∧
    aput (envAt ops v (E 0) listed) o.dst (v i) = envAt ops v (E 0) (listed.setIfInBounds i true) ∧
    (aguard ops (E i) o = some true → astep P md call (envAt ops v (E 0) listed) (heapAt P md ops H listed) o = some (v i, heapAt P md ops H (listed.setIfInBounds i true))) ∧
    (aguard ops (E i) o = some false → v i = .und ∧ heapAt P md ops H (listed.setIfInBounds i true) = heapAt P md ops H listed) := by
  obtain ⟨_, _, hT, hM⟩ := drawOk_parts hok
  have hlt : i < ops.size := (Array.getElem?_eq_some_iff.1 ho).1
  have hil : i < listed.size := by omega
  -- the writers of a slot that the operation names
  have hw : ∀ t, t ∈ tmpsOf ops o → ∀ j, j < ops.size → writes ops t j = true → (on listed j = true ↔ j < i) := by
    intro t ht j hj hwr
    by_cases hij : i = j
    · subst hij; rw [hi]; simp
    · have hoj : ops[j]? = some ops[j] := by simp [hj]
      have hd : ops[j].dst = some t := by simpa [writes, hoj] using hwr
      rcases hT i o j _ t ho hoj ht hd with h | h
      · exact absurd h hij
      · exact ordered_on hcl ho hi hdeps hij h
  have hget : ∀ t, t ∈ tmpsOf ops o → (envAt ops v (E 0) listed)[t]? = (E i)[t]? := by
    intro t ht
    unfold envAt
    rw [puts_get, filter_upto (by omega) (hw t ht), ← puts_get, ← E_eq tr i (by omega)]
  have hopd : ∀ x ∈ o.op.operands, oval (envAt ops v (E 0) listed) x = oval (E i) x := by
    intro x hx
    cases x with
    | tmp t =>
      refine getD_of_get (hget t ?_)
      unfold tmpsOf Oper.looksAt
      refine List.mem_append_left _ (List.mem_append_left _ ?_)
      rw [List.mem_filterMap]
      exact ⟨.tmp t, by simpa using hx, rfl⟩
    | _ => rfl
  have hwant : aguard ops (envAt ops v (E 0) listed) o = aguard ops (E i) o := by
    unfold aguard
    cases hg : o.guard with
    | none => rfl
    | some p =>
      obtain ⟨g, wn⟩ := p
      dsimp only
      cases hd : (ops[g]?).bind (·.dst) with
      | none => rfl
      | some d =>
        dsimp only
        rw [getD_of_get (hget d ?_)]
        unfold tmpsOf Oper.looksAt
        refine List.mem_append_left _ (List.mem_append_right _ ?_)
        simp [hg, hd]
  have hlen : (envAt ops v (E 0) listed).length = (E 0).length := puts_length _ _ _ _
  have henv : aput (envAt ops v (E 0) listed) o.dst (v i) = envAt ops v (E 0) (listed.setIfInBounds i true) := by
    apply List.ext_getElem?
    intro t
    rw [aput_get]
    split
    · rename_i hd
      unfold envAt
      rw [puts_get ops v t (List.filter (on (listed.setIfInBounds i true)) (List.range ops.size)), filter_upto (i := i + 1) (by omega) (q := on (listed.setIfInBounds i true)), ← puts_get, ← E_eq tr (i + 1) (by omega), (tr.step i o hlt ho).1, aput_get, if_pos hd]
      · rw [puts_length, E_eq tr i (by omega), puts_length]
      · intro j hj hwr
        rw [on_set hil]
        by_cases hij : j = i
        · subst hij; simp
        · rw [if_neg hij, hw t (by unfold tmpsOf; exact List.mem_append_right _ (by simp [hd])) j hj hwr]; omega
    · rename_i hd
      unfold envAt
      rw [puts_get ops v t, puts_get ops v t (List.filter (on (listed.setIfInBounds i true)) (List.range ops.size))]
      congr 2
      rw [List.filter_filter, List.filter_filter]
      apply List.filter_congr
      intro j hj
      rw [on_set hil]
      by_cases hij : j = i
      · subst hij
        have : writes ops t j = false := by
          cases hwr : writes ops t j with
          | false => rfl
          | true => exact absurd (by simpa [writes, ho] using hwr) hd
        rw [this]; rfl
      · rw [if_neg hij]
  -- the memory
  have hmem : (effOp P md o = true ∨ (readOp P o = true ∧ ¬ (L = true ∧ isLoad o = true))) → heapAt P md ops H listed = H i ∧ heapAt P md ops H (listed.setIfInBounds i true) = H (i + 1) := by
    intro her
    have heff : ∀ j, j < ops.size → isEff P md ops j = true → j ≠ i → (on listed j = true ↔ j < i) := by
      intro j hj he hji
      have hoj : ops[j]? = some ops[j] := by simp [hj]
      have he' : effOp P md ops[j] = true := by simpa [isEff, hoj] using he
      rcases hM j _ i o hoj ho he' her with h | h
      · exact absurd h hji
      · refine ordered_on hcl ho hi hdeps (fun e => hji e.symm) ?_
        unfold ordered at h ⊢
        rw [Nat.max_comm, Nat.min_comm]; exact h
    constructor
    · unfold heapAt
      rw [filter_upto (i := i) (by omega), ← H_eq tr i (by omega)]
      intro j hj he
      by_cases hij : j = i
      · subst hij; rw [hi]; simp
      · exact heff j hj he hij
    · unfold heapAt
      rw [filter_upto (i := i + 1) (by omega), ← H_eq tr (i + 1) (by omega)]
      intro j hj he
      rw [on_set hil]
      by_cases hij : j = i
      · subst hij; simp
      · rw [if_neg hij, heff j hj he hij]; omega
  have hsame : effOp P md o = false → heapAt P md ops H (listed.setIfInBounds i true) = heapAt P md ops H listed := by
    intro he
    unfold heapAt
    congr 1
    rw [List.filter_filter, List.filter_filter]
    apply List.filter_congr
    intro j hj
    rw [on_set hil]
    by_cases hij : j = i
    · subst hij
      have : isEff P md ops j = false := by simpa [isEff, ho] using he
      rw [this]; rfl
    · rw [if_neg hij]
  obtain ⟨_, hst⟩ := tr.step i o hlt ho
  refine ⟨hwant, henv, fun hwn => ?_, fun hwn => ?_⟩
  · rcases hst with ⟨_, h2, h3⟩ | ⟨h1, _⟩
    · have hcong : astep P md call (envAt ops v (E 0) listed) (heapAt P md ops H listed) o = astep P md call (E i) (heapAt P md ops H listed) o := by
        unfold astep; rw [aop_congr hopd]
      rw [hcong]
      by_cases her : effOp P md o = true ∨ (readOp P o = true ∧ ¬ (L = true ∧ isLoad o = true))
      · obtain ⟨k1, k2⟩ := hmem her
        rw [k1, k2]; exact h2
      by_cases hll : L = true ∧ isLoad o = true
      · have he : effOp P md o = false := by cases h : effOp P md o with
          | false => rfl
          | true => exact absurd (.inl h) her
        rw [hsame he]
        have key : ∃ k, k ≤ ops.size ∧ heapAt P md ops H listed = H k := by
          unfold heapAt
          rcases lastH_mem H (((List.range ops.size).filter (on listed)).filter (isEff P md ops)) with h | ⟨j, hj, h⟩
          · exact ⟨0, Nat.zero_le _, h⟩
          · refine ⟨j + 1, ?_, h⟩
            rw [List.mem_filter, List.mem_filter] at hj
            have := List.mem_range.1 hj.1.1
            omega
        obtain ⟨k, hk, hh⟩ := key
        rw [hh]
        have := hlo hll.1 i o hlt ho hll.2 hwn k hk
        unfold astep; rw [this]
      · have he : effOp P md o = false := by cases h : effOp P md o with
          | false => rfl
          | true => exact absurd (.inl h) her
        have hr : readOp P o = false := by cases h : readOp P o with
          | false => rfl
          | true => exact absurd (.inr ⟨h, hll⟩) her
        rw [hsame he]
        unfold astep at h2 ⊢
        split at h2
        · rename_i v' h' hop
          cases h2
          obtain ⟨_, h5⟩ := (aop_pure he hr).1 hop
          rw [h5]
        · rename_i f as h' hop
          exact absurd hop ((aop_pure (v := .und) he hr).2 f as)
        · cases h2
    · rw [hwn] at h1; cases h1
  · rcases hst with ⟨h1, _⟩ | ⟨_, h2, h3⟩
    · rw [hwn] at h1; cases h1
    · refine ⟨h2, ?_⟩
      by_cases he : effOp P md o = true
      · obtain ⟨k1, k2⟩ := hmem (.inl he)
        rw [k1, k2, h3]
      · exact hsame (by simpa using he)
theorem ready_mem {listed : Array Bool} {i : Nat} (hd : Region.departs ops = false) (hr : i ∈ Region.ready .any ops listed) (hsz : listed.size = ops.size) :
    ∃ o, ops[i]? = some o ∧ on listed i = false ∧ ∀ e ∈ o.after, on listed e.on = true := by
  unfold Region.ready at hr
  rw [List.mem_filter] at hr
  obtain ⟨hi, hr⟩ := hr
  have hlt : i < ops.size := by simpa using hi
  have ho : ops[i]? = some ops[i] := by simp [hlt]
  simp only [Bool.and_eq_true, Bool.not_eq_eq_eq_not, Bool.not_true] at hr
  refine ⟨_, ho, ?_, fun e he => ?_⟩
  · have hil : i < listed.size := by omega
    have := hr.1
    unfold on
    simp only [Array.getD_eq_getD_getElem?, Array.getElem?_eq_getElem hil, Option.getD_some] at this ⊢
    exact this
  · have h2 := hr.2
    rw [ho] at h2
    simp only [Option.map_some, Option.getD_some, Array.all_eq_true_iff_forall_mem, Bool.or_eq_true] at h2
    rcases h2 e he with h | h
    · exfalso
      have h1 : Region.departs ops = true := by
        unfold Region.departs
        rw [← Array.any_toList, List.any_eq_true]
        refine ⟨ops[i], by simp, ?_⟩
        rw [← Array.any_toList, List.any_eq_true]
        exact ⟨e, by simpa using he, h⟩
      rw [hd] at h1; cases h1
    · exact h
theorem all_on {listed : Array Bool} (hd : ∀ (i : Nat) (o : Oper), ops[i]? = some o → ∀ e ∈ o.after, e.on < i) (hr : Region.ready .any ops listed = []) (hsz : listed.size = ops.size) : ∀ i, i < ops.size → on listed i = true := by
  intro i
  induction i using Nat.strongRecOn with
  | _ i ih =>
    intro hi
    cases hon : on listed i with
    | true => rfl
    | false =>
      exfalso
      have ho : ops[i]? = some ops[i] := by simp [hi]
      have : i ∈ Region.ready .any ops listed := by
        unfold Region.ready
        rw [List.mem_filter]
        refine ⟨by simpa using hi, ?_⟩
        simp only [Bool.and_eq_true, Bool.not_eq_eq_eq_not, Bool.not_true]
        constructor
        · unfold on at hon; simp only [Array.getD_eq_getD_getElem?] at hon ⊢
          have hl : i < listed.size := by omega
          simp [hl] at hon ⊢; exact hon
        · rw [ho]
          simp only [Option.map_some, Option.getD_some, Array.all_eq_true_iff_forall_mem, Bool.or_eq_true]
          intro e he
          have hlt := hd i _ ho e he
          exact .inr (ih e.on hlt (by omega))
      rw [hr] at this; cases this
theorem on_replicate (n j : Nat) : on (Array.replicate n false) j = false := by
  unfold on
  simp only [Array.getD_eq_getD_getElem?, Array.getElem?_replicate]
  split <;> rfl
theorem filter_all {n : Nat} {p : Nat → Bool} (h : ∀ i, i < n → p i = true) : (List.range n).filter p = List.range n :=
  List.filter_eq_self.2 fun i hi => h i (by simpa using hi)
end any
theorem drawOk_holds (hmix : P.follows .mixedOrders = true) : DrawOk P md := by
  intro call hc ops L hok env env' h h' γ w a X Q id e r he hQ
  obtain ⟨E, H, v, e1, e2, e3, e4, e5, hlo⟩ : ∃ (E : Nat → Env) (H : Nat → AHeap) (v : Nat → AV), E 0 = env ∧ H 0 = h ∧ E (0 + ops.toList.length) = env' ∧ H (0 + ops.toList.length) = h' ∧
      (∀ i o, 0 ≤ i → i < 0 + ops.toList.length → ops[i]? = some o → E (i + 1) = aput (E i) o.dst (v i) ∧
        ((aguard ops (E i) o = some true ∧ astep P md call (E i) (H i) o = some (v i, H (i + 1)) ∧ (effOp P md o = true ∨ H (i + 1) = H i)) ∨ (aguard ops (E i) o = some false ∧ v i = .und ∧ H (i + 1) = H i))) ∧
      (L = true → LooseTr P ops E H v) := by
    cases L with
    | false =>
      simp only [Bool.false_eq_true, if_false] at e
      obtain ⟨E, H, v, e1, e2, e3, e4, e5⟩ := trace_of ops.toList 0 (fun j => by simp) e
      exact ⟨E, H, v, e1, e2, e3, e4, e5, fun h => by cases h⟩
    | true =>
      simp only [if_true] at e
      obtain ⟨E, H, v, e1, e2, e3, e4, e5, _, e7⟩ := trace_loose ops.toList 0 (fun j => by simp) (List.mem_singleton.2 rfl) (fun p hp => by cases hp) e
      refine ⟨E, H, v, e1, e2, e3, e4, e5, fun _ i o hi ho hl hg j hj => (e7 i o (Nat.zero_le _) (by simpa using hi) ho hl hg).2 j (Nat.zero_le _) (by simpa using hj)⟩
  simp only [Nat.zero_add, Array.length_toList] at e3 e4 e5
  have tr : Trace P md call ops ops.size E H v := ⟨fun i o hi ho => e5 i o (Nat.zero_le _) hi ho⟩
  obtain ⟨hdep, hback, _, _⟩ := drawOk_parts hok
  refine wp_region_any hmix ?_
  have hr0 : Goes X h γ w h γ w.drew := drew_goes r
  have fin : ∀ (listed : Array Bool) (a' : Act) (w' : World) (γ' : Ghost), (∀ i, i < ops.size → on listed i = true) → VA w' (Ow X (heapAt P md ops H listed) γ') γ' (envAt ops v (E 0) listed) a'.tmps →
      Goes X h γ w (heapAt P md ops H listed) γ' w' → a'.defers = a.defers → Q .normal a' w' := by
    intro listed a' w' γ' hall hva hg hdf
    have h1 : envAt ops v (E 0) listed = env' := by unfold envAt; rw [filter_all hall, ← E_eq tr _ (Nat.le_refl _), e3]
    have h2 : heapAt P md ops H listed = h' := by unfold heapAt; rw [filter_all hall, ← H_eq tr _ (Nat.le_refl _), e4]
    rw [h1, h2] at hva; rw [h2] at hg
    exact hQ a' w' γ' hva hg hdf
  have main : ∀ (fuel : Nat) (listed : Array Bool) (a' : Act) (w' : World) (γ' : Ghost), listed.size = ops.size → Closed ops (fun j => on listed j = true) → ((List.range ops.size).filter (fun j => !on listed j)).length ≤ fuel →
      VA w' (Ow X (heapAt P md ops H listed) γ') γ' (envAt ops v (E 0) listed) a'.tmps → Goes X h γ w (heapAt P md ops H listed) γ' w' → a'.defers = a.defers → wpAny P .any ops Q fuel listed a' w' := by
    intro fuel
    induction fuel with
    | zero =>
      intro listed a' w' γ' hsz hcl hcnt hva hg hdf
      have hall : ∀ i, i < ops.size → on listed i = true := by
        intro i hi
        have hnil : (List.range ops.size).filter (fun j => !on listed j) = [] := List.eq_nil_of_length_eq_zero (by omega)
        rw [List.filter_eq_nil_iff] at hnil
        have := hnil i (by simpa using hi)
        simpa using this
      refine ⟨?_, fin listed a' w' γ' hall hva hg hdf⟩
      unfold Region.ready
      rw [List.filter_eq_nil_iff]
      intro i hi
      have := hall i (by simpa using hi)
      have hl : i < listed.size := by have : i < ops.size := by simpa using hi
                                      omega
      unfold on at this
      simp only [Array.getD_eq_getD_getElem?] at this ⊢
      simp [hl] at this ⊢
      intro h; rw [this] at h; cases h
    | succ fuel ih =>
      intro listed a' w' γ' hsz hcl hcnt hva hg hdf
      refine ⟨fun hrdy => fin listed a' w' γ' (all_on hback hrdy hsz) hva hg hdf, fun i hi => ?_⟩
      obtain ⟨o, ho, hoff, hdeps⟩ := ready_mem hdep hi hsz
      have hlt : i < ops.size := (Array.getElem?_eq_some_iff.1 ho).1
      obtain ⟨k1, k2, k3, k4⟩ := ready_step tr hok hlo hsz hcl ho hoff hdeps
      have hcl' : Closed ops (fun j => on (listed.setIfInBounds i true) j = true) := by
        intro j o' ho' hj e he
        rw [on_set (by omega)] at hj ⊢
        by_cases hji : j = i
        · subst hji; rw [ho] at ho'; cases ho'
          split
          · rfl
          · exact hdeps e he
        · rw [if_neg hji] at hj
          split
          · rfl
          · exact hcl j o' ho' hj e he
      have hcnt' : ((List.range ops.size).filter (fun j => !on (listed.setIfInBounds i true) j)).length ≤ fuel := by
        have hsub : (List.range ops.size).filter (fun j => !on (listed.setIfInBounds i true) j) = ((List.range ops.size).filter (fun j => !on listed j)).filter (fun j => decide (j ≠ i)) := by
          rw [List.filter_filter]
          apply List.filter_congr
          intro j _
          rw [on_set (by omega)]
          by_cases hji : j = i
          · subst hji; simp
          · simp [hji]
        rw [hsub]
        have hmem : i ∈ (List.range ops.size).filter (fun j => !on listed j) := by
          rw [List.mem_filter]; exact ⟨by simpa using hlt, by simp [hoff]⟩
        have hlen : (((List.range ops.size).filter (fun j => !on listed j)).filter (fun j => decide (j ≠ i))).length < ((List.range ops.size).filter (fun j => !on listed j)).length := by
          apply List.length_filter_lt_length_iff_exists.2
          exact ⟨i, hmem, by simp⟩
        omega
      unfold wpOp
      rw [ho]
      dsimp only
      obtain ⟨wb, hwn⟩ : ∃ b, aguard ops (E i) o = some b := by
        obtain ⟨_, hst⟩ := tr.step i o hlt ho
        rcases hst with ⟨h1, _⟩ | ⟨h1, _⟩ <;> exact ⟨_, h1⟩
      have hwg := guard_eq hva (k1.trans hwn)
      cases wb with
      | true =>
        rw [if_pos hwg]
        refine .inl (step_sound hc hg.rel hva (k3 hwn) fun u w2 γ2 hg2 hv2 => ?_)
        refine ih _ _ _ γ2 (by simpa using hsz) hcl' hcnt' ?_ (hg.trans hg2) (by rw [put_defers, hdf])
        rw [← k2]
        exact (hva.goes hg2).put hv2 o.dst
      | false =>
        rw [if_neg (by rw [hwg]; simp)]
        obtain ⟨k5, k6⟩ := k4 hwn
        refine ih _ _ _ γ' (by simpa using hsz) hcl' hcnt' ?_ (by rw [k6]; exact hg) (by rw [put_defers, hdf])
        rw [← k2, k6]
        exact hva.put (by rw [k5]; exact .val _) o.dst
  have h0 : envAt ops v (E 0) (Array.replicate ops.size false) = env := by
    unfold envAt
    have : (List.range ops.size).filter (on (Array.replicate ops.size false)) = [] := by
      rw [List.filter_eq_nil_iff]; intro i hi; rw [on_replicate]; simp
    rw [this, ← e1]; rfl
  have h1 : heapAt P md ops H (Array.replicate ops.size false) = h := by
    unfold heapAt
    have : (List.range ops.size).filter (on (Array.replicate ops.size false)) = [] := by
      rw [List.filter_eq_nil_iff]; intro i hi; rw [on_replicate]; simp
    rw [this, ← e2]; rfl
  refine main ops.size _ a w.drew γ (by simp) (fun j o ho hj => by dsimp only at hj; rw [on_replicate] at hj; cases hj) (Nat.le_trans (List.length_filter_le _ _) (by simp)) ?_ (by rw [h1]; exact hr0) rfl
  rw [h0, h1]
  exact he.goes hr0
/-- What the abstract machine answers, the model answers. -/
theorem aval_sound {fg : FuncId → Nat → List Bool} (hmix : P.follows .mixedOrders = true) {f : FuncId} {args : List AV} {h h' : AHeap} {r : AV} (e : aval P md fg f args h = some (r, h')) {X : Nat → Prop} {γ : Ghost} {w : World} {vs : Array Value}
    (hr : R X h γ w) (hv : VA w (Ow X h γ) γ args vs) : Answers P X h γ w f vs r h' := by
  obtain ⟨n, hn⟩ := of_lim e
  exact acall_ok (drawOk_holds hmix) n f args h r h' X γ w vs (hn n (Nat.le_refl n)) hr hv
end
end Go.Ab
