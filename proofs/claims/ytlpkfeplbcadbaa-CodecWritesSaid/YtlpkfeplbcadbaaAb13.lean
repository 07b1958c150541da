/-
  One operation of the abstract machine is one of the model's.
-/
import Derived.Test.YtlpkfeplbcadbaaAb12
namespace Go.Ab
section
variable {P : Program} {X : Nat → Prop} {h : AHeap} {γ : Ghost} {w : World}

def RunsTo (P : Program) (s : Sem Next) (w : World) (u : Value) (w' : World) : Prop := s.run P w = .ok (.value u) w' ∨ (s.run P w = .ok .skip w' ∧ u = undef)
theorem RunsTo.v {s : Sem Value} {u : Value} {w w' : World} (h : s.run P w = .ok u w') : RunsTo P (do pure (.value (← s))) w u w' := .inl (by simp [h])
theorem RunsTo.u {s : Sem Unit} {w w' : World} (h : s.run P w = .ok () w') : RunsTo P (do s; pure .skip) w undef w' := .inr ⟨by simp [h], rfl⟩
theorem ato_inv {x : Option AV} {h h' : AHeap} {v : AV} (e : ato x h = some (.value v h')) : x = some v ∧ h' = h := by
  unfold ato at e
  cases x with
  | none => cases e
  | some y => cases e; exact ⟨rfl, rfl⟩
theorem ato_call {x : Option AV} {h h' : AHeap} {f : FuncId} {as : List AV} (e : ato x h = some (.call f as h')) : False := by
  unfold ato at e
  cases x with
  | none => cases e
  | some y => cases e
theorem ato2_inv {x : Option (AV × AHeap)} {h' : AHeap} {v : AV} (e : ato2 x = some (.value v h')) : x = some (v, h') := by
  unfold ato2 at e
  cases x with
  | none => cases e
  | some y => cases e; rfl
theorem ato2_call {x : Option (AV × AHeap)} {h' : AHeap} {f : FuncId} {as : List AV} (e : ato2 x = some (.call f as h')) : False := by
  unfold ato2 at e
  cases x with
  | none => cases e
  | some y => cases e
theorem args_VA {O : Nat → Prop} {env : Env} {a : Act} (he : VA w O γ env a.tmps) (xs : Array Operand) : VA w O γ (xs.toList.map (oval env)) (xs.map a.eval) := by
  have := VA.of_list (w := w) (O := O) (γ := γ) (l := xs.toList) (f := oval env) (g := a.eval) fun x _ => he.oval x
  have e : (xs.toList.map a.eval).toArray = xs.map a.eval := by apply Array.ext'; simp
  rw [← e]; exact this
theorem parts_VA {O : Nat → Prop} {env : Env} {a : Act} (he : VA w O γ env a.tmps) (ps : Array (Nat × Operand)) :
    (ps.toList.map fun p => (p.1, oval env p.2)).length = (ps.map fun (i, x) => (i, a.eval x)).size ∧
    ∀ (i : Nat) (p : Nat × AV) (q : Nat × Value), (ps.toList.map fun p => (p.1, oval env p.2))[i]? = some p → (ps.map fun (i, x) => (i, a.eval x))[i]? = some q → p.1 = q.1 ∧ V w O γ p.2 q.2 := by
  refine ⟨by simp, fun i p q hp hq => ?_⟩
  simp at hp hq
  obtain ⟨a1, b1, h1, rfl⟩ := hp
  obtain ⟨a2, b2, h2, rfl⟩ := hq
  rw [h1] at h2; cases h2
  exact ⟨rfl, he.oval _⟩
theorem opt_VA {O : Nat → Prop} {env : Env} {a : Act} (he : VA w O γ env a.tmps) (x : Option Operand) :
    (∀ v, x.map (oval env) = some v → ∃ y, x.map a.eval = some y ∧ V w O γ v y) ∧ (x.map (oval env) = none → x.map a.eval = none) := by
  cases x with
  | none => exact ⟨fun v h => (by cases h), fun _ => rfl⟩
  | some x => exact ⟨fun v h => (by cases h; exact ⟨_, rfl, he.oval x⟩), fun h => (by cases h)⟩
theorem list_two {α : Type} {xs : Array α} {β : Type} {f : α → β} {a b : β} (e : xs.toList.map f = [a, b]) : ∃ x y, xs = #[x, y] ∧ f x = a ∧ f y = b := by
  cases hx : xs.toList with
  | nil => rw [hx] at e; cases e
  | cons x r =>
    rw [hx] at e
    cases r with
    | nil => cases e
    | cons y t =>
      cases t with
      | nil => cases e; exact ⟨x, y, by apply Array.ext'; simpa using hx, rfl, rfl⟩
      | cons _ _ => simp at e
theorem list_one {α : Type} {xs : Array α} {β : Type} {f : α → β} {a : β} (e : xs.toList.map f = [a]) : ∃ x, xs = #[x] ∧ f x = a := by
  cases hx : xs.toList with
  | nil => rw [hx] at e; cases e
  | cons x r =>
    rw [hx] at e
    cases r with
    | nil => cases e; exact ⟨x, by apply Array.ext'; simpa using hx, rfl⟩
    | cons y t => simp at e
theorem abuiltin_sound (r : R X h γ w) {env : Env} {a : Act} (he : VA w (Ow X h γ) γ env a.tmps) {b : Builtin} {ts : Array TypeId} {ty : TypeId} {cs : Array Bool} {xs : Array Operand} {v : AV} {h' : AHeap}
    (e : abuiltin P b ts h (xs.toList.map (oval env)) = some (v, h')) :
    ∃ u w' γ', RunsTo P (builtin b ts ty cs (xs.map a.eval)) w u w' ∧ Goes X h γ w h' γ' w' ∧ V w' (Ow X h' γ') γ' v u := by
  unfold abuiltin at e
  split at e
  · rename_i x hxs
    obtain ⟨y, rfl, rfl⟩ := list_one hxs
    split at e
    · rename_i hts
      cases hl : alen P (argT ts 0) (oval env y) with
      | none => rw [hl] at e; cases e
      | some z =>
        rw [hl] at e; cases e
        obtain ⟨u, h1, h2⟩ := alen_sound (ty := ty) hts (he.oval y) hl
        refine ⟨u, w, γ, ?_, Goes.refl r, h2⟩
        rw [show Array.map a.eval #[y] = #[a.eval y] by simp]
        exact RunsTo.v h1
    · cases e
  · rename_i s x hxs
    obtain ⟨y1, y2, rfl, rfl, rfl⟩ := list_two hxs
    split at e
    · rename_i hc; obtain ⟨hts, hsq⟩ := hc
      obtain ⟨u, w', γ', h1, h2, h3⟩ := aappend_sound (ty := ty) r (he.oval y1) (he.oval y2) hts hsq e
      refine ⟨u, w', γ', ?_, h2, h3⟩
      rw [show Array.map a.eval #[y1, y2] = #[a.eval y1, a.eval y2] by simp]
      exact RunsTo.v h1
    · cases e
  · rename_i d x hxs
    obtain ⟨y1, y2, rfl, rfl, rfl⟩ := list_two hxs
    split at e
    · rename_i hts
      obtain ⟨u, w', h1, h2, h3⟩ := acopy_sound (ty := ty) r (he.oval y1) (he.oval y2) hts e
      refine ⟨u, w', γ, ?_, h2, h3⟩
      rw [show Array.map a.eval #[y1, y2] = #[a.eval y1, a.eval y2] by simp]
      exact RunsTo.v h1
    · cases e
  · rename_i x rr hxs
    cases hl : afold amin2 x rr with
    | none => rw [hl] at e; cases e
    | some z =>
      rw [hl] at e; cases e
      have hva := args_VA he xs
      rw [hxs] at hva
      cases hv : (xs.map a.eval).toList with
      | nil =>
        have h1 := hva.1
        have h2 : (xs.map a.eval).size = 0 := by rw [← Array.length_toList, hv]; rfl
        rw [h2] at h1; cases h1
      | cons y t =>
        have hvl : (x :: rr).length = (y :: t).length := by rw [← hv, Array.length_toList]; exact hva.1
        have hget : ∀ (i : Nat) (b : AV) (z : Value), (x :: rr)[i]? = some b → (y :: t)[i]? = some z → V w (Ow X h γ) γ b z := fun i b z hb hz => hva.2 i b z hb (by rw [← hv] at hz; simpa using hz)
        obtain ⟨u, h1, h2⟩ := afold_sound (P := P) (f := amin2) (g := Builtin.min2) amin2_sound rr t (hget 0 _ _ rfl rfl) (by simpa using hvl) (fun i b z hb hz => hget (i + 1) b z (by simpa using hb) (by simpa using hz)) hl
        refine ⟨u, w, γ, RunsTo.v (s := Builtin.min_ ts ty (xs.map a.eval)) ?_, Goes.refl r, h2⟩
        simp only [Builtin.min_, hv]; exact h1
  · rename_i x rr hxs
    cases hl : afold amax2 x rr with
    | none => rw [hl] at e; cases e
    | some z =>
      rw [hl] at e; cases e
      have hva := args_VA he xs
      rw [hxs] at hva
      cases hv : (xs.map a.eval).toList with
      | nil =>
        have h1 := hva.1
        have h2 : (xs.map a.eval).size = 0 := by rw [← Array.length_toList, hv]; rfl
        rw [h2] at h1; cases h1
      | cons y t =>
        have hvl : (x :: rr).length = (y :: t).length := by rw [← hv, Array.length_toList]; exact hva.1
        have hget : ∀ (i : Nat) (b : AV) (z : Value), (x :: rr)[i]? = some b → (y :: t)[i]? = some z → V w (Ow X h γ) γ b z := fun i b z hb hz => hva.2 i b z hb (by rw [← hv] at hz; simpa using hz)
        obtain ⟨u, h1, h2⟩ := afold_sound (P := P) (f := amax2) (g := Builtin.max2) amax2_sound rr t (hget 0 _ _ rfl rfl) (by simpa using hvl) (fun i b z hb hz => hget (i + 1) b z (by simpa using hb) (by simpa using hz)) hl
        refine ⟨u, w, γ, RunsTo.v (s := Builtin.max_ ts ty (xs.map a.eval)) ?_, Goes.refl r, h2⟩
        simp only [Builtin.max_, hv]; exact h1
  · cases e
theorem acall1_inv {f v : AV} {args : List AV} {h' : AHeap} (e : acall1 P h f args = some (.value v h')) : False := by
  cases f with
  | clo f first caps =>
    simp only [acall1] at e
    by_cases hc : callable P f = true
    · rw [if_pos hc] at e; cases e
    · rw [if_neg hc] at e; cases e
  | _ => cases e
theorem run_callFunc {f : FuncId} (hc : callable P f = true) (args : Array Value) : (callFunc f args).run P w = .ok (.enter f args) w := by
  unfold callable at hc
  split at hc
  · rename_i fn hfn
    simp only [Bool.and_eq_true, bne_iff_ne, ne_eq] at hc
    cases hb : fn.body with
    | none => rw [hb] at hc; simp at hc
    | some c => simp [callFunc, hfn, hc.2, hb]
  · cases hc
theorem acall1_sound {env : Env} {a : Act} (he : VA w (Ow X h γ) γ env a.tmps) {o : Oper} {c : Call} {fo : Operand} {f : FuncId} {args : List AV} {h' : AHeap} (ho : o.op = .call c) (hcal : c.callee = .value fo)
    (e : acall1 P h (oval env fo) (c.args.toList.map (oval env)) = some (.call f args h')) :
    h' = h ∧ callable P f = true ∧ ∃ vs, (execOp a.eval o).run P w = .ok (.enter f vs) w ∧ VA w (Ow X h γ) γ args vs := by
  unfold acall1 at e
  split at e
  · rename_i f' first caps hf
    split at e
    · rename_i hc
      cases e
      have hv := he.oval fo
      rw [hf] at hv
      generalize hu : a.eval fo = u at hv
      cases hv with
      | clo f first caps fs cs hfl hcl hvf hvc =>
        refine ⟨rfl, hc, fs ++ c.args.map a.eval ++ cs, ?_, (VA.append ⟨hfl, hvf⟩ (args_VA he c.args)).append ⟨hcl, hvc⟩⟩
        simp only [execOp, ho, resolve, hcal, hu, Deferred.ofValue, Sem.run_bind, Sem.run_pure, Result.andThen_ok, invoke]
        exact run_callFunc hc _
    · cases e
  · cases e
/-- An operation that answers a value. -/
theorem op_value (r : R X h γ w) {env : Env} {a : Act} (he : VA w (Ow X h γ) γ env a.tmps) {o : Oper} {v : AV} {h' : AHeap} (e : aop P env h o = some (.value v h')) :
    ∃ u w' γ', RunsTo P (execOp a.eval o) w u w' ∧ Goes X h γ w h' γ' w' ∧ V w' (Ow X h' γ') γ' v u := by
  unfold aop at e
  cases hop : o.op with
  | move x => simp only [hop] at e; cases e; exact ⟨_, w, γ, .inl (by simp [execOp, hop]), Goes.refl r, he.oval x⟩
  | assign x => simp only [hop] at e; cases e; exact ⟨_, w, γ, .inl (by simp [execOp, hop]), Goes.refl r, he.oval x⟩
  | pick c x y =>
    simp only [hop] at e
    obtain ⟨e', rfl⟩ := ato_inv e
    replace e := e'
    unfold apick at e
    split at e
    · rename_i b hb
      have hv := he.oval c
      rw [hb] at hv
      have hc := hv.val_inv
      cases e
      cases b with
      | true => exact ⟨_, w, γ, .inl (by simp [execOp, hop, hc, Go.asBool]), Goes.refl r, he.oval x⟩
      | false => exact ⟨_, w, γ, .inl (by simp [execOp, hop, hc, Go.asBool]), Goes.refl r, he.oval y⟩
    · cases e
  | alloc t =>
    simp only [hop] at e
    split at e
    · rename_i z hz
      cases e
      obtain ⟨i, zv, hi, hzero, rfl, hok, hcells⟩ := tzero_all hz
      obtain ⟨w', γ', h1, h2, h3⟩ := box_goes (P := P) r (ofVal_V zv hcells) hok t
      refine ⟨_, w', γ', ?_, h2, h3⟩
      have : (execOp a.eval o) = (do pure (.value (← Instr.alloc t true (.tuple #[])))) := by simp [execOp, hop]
      rw [this]
      exact RunsTo.v (by simp [Instr.alloc, run_zeroValue hi hzero, h1])
    · cases e
  | box t x =>
    simp only [hop] at e
    split at e
    · rename_i hk
      cases e
      obtain ⟨w', γ', h1, h2, h3⟩ := box_goes (P := P) r (he.oval x) hk t
      refine ⟨_, w', γ', ?_, h2, h3⟩
      have : (execOp a.eval o) = (do pure (.value (← Instr.box t (a.eval x)))) := by simp [execOp, hop]
      rw [this]
      exact RunsTo.v (by simp [Instr.box, h1])
    · cases e
  | build t ps =>
    simp only [hop] at e
    obtain ⟨e', rfl⟩ := ato_inv e
    replace e := e'
    obtain ⟨u, h1, h2⟩ := abuild_sound (parts_VA he ps).1 (parts_VA he ps).2 e
    refine ⟨u, w, γ, ?_, Goes.refl r, h2⟩
    have : (execOp a.eval o) = (do pure (.value (← Instr.build t (ps.map fun (i, x) => (i, a.eval x))))) := by simp [execOp, hop]
    rw [this]; exact RunsTo.v h1
  | buildSlice t n ps =>
    simp only [hop] at e
    obtain ⟨e', rfl⟩ := ato_inv e
    replace e := e'
    obtain ⟨u, w', h1, h2, h3⟩ := abuildSlice_sound r (parts_VA he ps).1 (parts_VA he ps).2 e
    refine ⟨u, w', γ, ?_, h2, h3⟩
    have : (execOp a.eval o) = (do pure (.value (← Instr.buildSlice t n (ps.map fun (i, x) => (i, a.eval x))))) := by simp [execOp, hop]
    rw [this]; exact RunsTo.v h1
  | load t x =>
    simp only [hop] at e
    obtain ⟨e', rfl⟩ := ato_inv e
    replace e := e'
    obtain ⟨u, h1, h2⟩ := aload_sound r (he.oval x) e
    refine ⟨u, w, γ, ?_, Goes.refl r, h2⟩
    have : (execOp a.eval o) = (do pure (.value (← Instr.loadAt t (a.eval x)))) := by simp [execOp, hop]
    rw [this]; exact RunsTo.v h1
  | store t x y =>
    simp only [hop] at e
    cases hs : astore P t h (oval env x) (oval env y) with
    | none => rw [hs] at e; cases e
    | some h2 =>
      rw [hs] at e; cases e
      obtain ⟨w', h1, h2⟩ := astore_sound r (he.oval x) (he.oval y) hs
      refine ⟨undef, w', γ, ?_, h2, .val _⟩
      have : (execOp a.eval o) = (do Instr.storeAt t (a.eval x) (a.eval y); pure .skip) := by simp [execOp, hop]
      rw [this]; exact RunsTo.u h1
  | nilCheck x =>
    simp only [hop] at e
    obtain ⟨e', rfl⟩ := ato_inv e
    replace e := e'
    have hv := he.oval x
    generalize oval env x = av at hv e
    generalize hu : a.eval x = u at hv
    refine ⟨u, w, γ, .inl ?_, Goes.refl r, ?_⟩
    · cases hv <;> simp [anil] at e <;> simp [execOp, hop, hu]
    · cases av <;> simp [anil] at e <;> subst e <;> exact hv
  | binOp op t x y t' =>
    simp only [hop] at e
    obtain ⟨e', rfl⟩ := ato_inv e
    replace e := e'
    obtain ⟨u, h1, h2⟩ := abin_sound (x := x) (y := y) (he.oval x) (he.oval y) e
    refine ⟨u, w, γ, ?_, Goes.refl r, h2⟩
    have : (execOp a.eval o) = (do pure (.value (← (do eqGuard op t x y (a.eval x) (a.eval y); binOp op t (a.eval x) (a.eval y))))) := by simp [execOp, hop]
    rw [this]; exact RunsTo.v h1
  | unOp op t x =>
    simp only [hop] at e
    obtain ⟨e', rfl⟩ := ato_inv e
    replace e := e'
    obtain ⟨u, h1, h2⟩ := aun_sound (he.oval x) e
    refine ⟨u, w, γ, ?_, Goes.refl r, h2⟩
    have : (execOp a.eval o) = (do pure (.value (← Op.unary op (a.eval x)))) := by simp [execOp, hop]
    rw [this]; exact RunsTo.v h1
  | convert s d x =>
    simp only [hop] at e
    have e := ato2_inv e
    obtain ⟨u, w', γ', h1, h2, h3⟩ := aconvert_sound r (he.oval x) e
    refine ⟨u, w', γ', ?_, h2, h3⟩
    have : (execOp a.eval o) = (do pure (.value (← convert s d (a.eval x)))) := by simp [execOp, hop]
    rw [this]; exact RunsTo.v h1
  | makeFunc fn first caps =>
    cases fn with
    | func f =>
      simp only [hop] at e; cases e
      refine ⟨_, w, γ, .inl ?_, Goes.refl r, .clo f _ _ _ _ (args_VA he first).1 (args_VA he caps).1 (args_VA he first).2 (args_VA he caps).2⟩
      simp [execOp, hop, Instr.makeFunc]
    | _ => simp only [hop] at e; cases e
  | makeSlice t l c =>
    simp only [hop] at e
    have e := ato2_inv e
    obtain ⟨u, w', γ', h1, h2, h3⟩ := amake_sound r (he.oval l) (he.oval c) e
    refine ⟨u, w', γ', ?_, h2, h3⟩
    have : (execOp a.eval o) = (do pure (.value (← Instr.makeSlice t (a.eval l) (a.eval c)))) := by simp [execOp, hop]
    rw [this]; exact RunsTo.v h1
  | slice t x lo hi mx =>
    simp only [hop] at e
    obtain ⟨e', rfl⟩ := ato_inv e
    replace e := e'
    obtain ⟨u, h1, h2⟩ := asliceAt_sound r (he.oval x) (opt_VA he lo).1 (opt_VA he lo).2 (opt_VA he hi).1 (opt_VA he hi).2 (opt_VA he mx).1 (opt_VA he mx).2 e
    refine ⟨u, w, γ, ?_, Goes.refl r, h2⟩
    have : (execOp a.eval o) = (do pure (.value (← Instr.sliceAt t (a.eval x) (lo.map a.eval) (hi.map a.eval) (mx.map a.eval)))) := by simp [execOp, hop]
    rw [this]; exact RunsTo.v h1
  | fieldAddr s x f =>
    simp only [hop] at e
    obtain ⟨e', rfl⟩ := ato_inv e
    replace e := e'
    obtain ⟨u, h1, h2⟩ := afieldAddr_sound (he.oval x) e
    refine ⟨u, w, γ, ?_, Goes.refl r, h2⟩
    have : (execOp a.eval o) = (do pure (.value (← Instr.fieldAt s (a.eval x) f))) := by simp [execOp, hop]
    rw [this]; exact RunsTo.v h1
  | field s x f =>
    simp only [hop] at e
    obtain ⟨e', rfl⟩ := ato_inv e
    replace e := e'
    obtain ⟨u, h1, h2⟩ := afield_sound (he.oval x) e
    refine ⟨u, w, γ, ?_, Goes.refl r, h2⟩
    have : (execOp a.eval o) = (do pure (.value (← Instr.field s (a.eval x) f))) := by simp [execOp, hop]
    rw [this]; exact RunsTo.v h1
  | indexAddr t x i =>
    simp only [hop] at e
    obtain ⟨e', rfl⟩ := ato_inv e
    replace e := e'
    obtain ⟨u, h1, h2⟩ := aindexAddr_sound (he.oval x) (he.oval i) e
    refine ⟨u, w, γ, ?_, Goes.refl r, h2⟩
    have : (execOp a.eval o) = (do pure (.value (← Instr.indexAt t (a.eval x) (a.eval i)))) := by simp [execOp, hop]
    rw [this]; exact RunsTo.v h1
  | index t x i =>
    simp only [hop] at e
    obtain ⟨e', rfl⟩ := ato_inv e
    replace e := e'
    obtain ⟨u, h1, h2⟩ := aindex_sound (he.oval x) (he.oval i) e
    refine ⟨u, w, γ, ?_, Goes.refl r, h2⟩
    have : (execOp a.eval o) = (do pure (.value (← Instr.index t (a.eval x) (a.eval i)))) := by simp [execOp, hop]
    rw [this]; exact RunsTo.v h1
  | extract t i =>
    simp only [hop] at e
    split at e
    · rename_i vs hvs
      obtain ⟨e', rfl⟩ := ato_inv e
      replace e := e'
      have hv := he.oval t
      rw [hvs] at hv
      generalize hu : a.eval t = u at hv
      cases hv with
      | tup cs us hl hvv =>
        have hlt : i < vs.length := (List.getElem?_eq_some_iff.1 e).1
        have hlt' : i < us.size := hl ▸ hlt
        refine ⟨us[i], w, γ, .inl ?_, Goes.refl r, hvv i _ _ e (by simp [hlt'])⟩
        simp [execOp, hop, hu, Instr.extract, hlt']
    · cases e
  | call c =>
    simp only [hop] at e
    split at e
    · exact (acall1_inv e).elim
    · rename_i b hb
      have e := ato2_inv e
      have : ∃ cs, execOp a.eval o = builtin b c.argTypes o.type cs (c.args.map a.eval) := ⟨_, by simp only [execOp, hop, resolve, hb]; rfl⟩
      obtain ⟨cs, hcs⟩ := this
      obtain ⟨u, w', γ', h1, h2, h3⟩ := abuiltin_sound (ty := o.type) (cs := cs) r he e
      exact ⟨u, w', γ', by rw [hcs]; exact h1, h2, h3⟩
    · cases e
  | _ => simp only [hop] at e; cases e
/-- An operation that calls. -/
theorem op_call {env : Env} {a : Act} (he : VA w (Ow X h γ) γ env a.tmps) {o : Oper} {f : FuncId} {args : List AV} {h' : AHeap} (e : aop P env h o = some (.call f args h')) :
    h' = h ∧ callable P f = true ∧ ∃ vs, (execOp a.eval o).run P w = .ok (.enter f vs) w ∧ VA w (Ow X h γ) γ args vs := by
  unfold aop at e
  cases hop : o.op with
  | call c =>
    simp only [hop] at e
    split at e
    · rename_i fo hfo; exact acall1_sound he hop hfo e
    · exact (ato2_call e).elim
    · cases e
  | alloc t => simp only [hop] at e; split at e <;> cases e
  | box t x => simp only [hop] at e; split at e <;> cases e
  | store t x y => simp only [hop] at e; cases hs : astore P t h (oval env x) (oval env y) <;> rw [hs] at e <;> cases e
  | extract t i =>
    simp only [hop] at e; split at e
    · exact (ato_call e).elim
    · cases e
  | makeFunc fn first caps => cases fn <;> simp only [hop] at e <;> cases e
  | _ => simp only [hop] at e; first | (cases e; done) | exact (ato_call e).elim | exact (ato2_call e).elim
end
end Go.Ab
