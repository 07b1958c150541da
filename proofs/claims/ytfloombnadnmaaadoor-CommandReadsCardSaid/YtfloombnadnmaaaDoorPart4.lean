/- Parts of the proof, each with its own heading: One operation of the abstract machine is one of the model's. Calls: what is handed over, what comes back. Calls: by value and by reference. What the abstract machine answers, the model answers. -/
import Derived.Test.YtfloombnadnmaaaDoorPart3
import Derived.LoopN
set_option linter.unusedSimpArgs false
set_option linter.unusedVariables false
namespace Go.Ab
section
variable {P : Program} {X : Nat → Prop} {h : AHeap} {γ : Ghost} {w : World}

def RunsTo (P : Program) (s : Sem Next) (w : World) (u : Value) (w' : World) : Prop := s.run P w = .ok (.value u) w' ∨ (s.run P w = .ok .skip w' ∧ u = undef)
theorem RunsTo.v {s : Sem Value} {u : Value} {w w' : World} (h : s.run P w = .ok u w') : RunsTo P (do pure (.value (← s))) w u w' := .inl (by simp [h])
theorem RunsTo.u {s : Sem Unit} {w w' : World} (h : s.run P w = .ok () w') : RunsTo P (do s; pure .skip) w undef w' := .inr ⟨by simp [h], rfl⟩
theorem ato_inv {x : Option AV} {h h' : AHeap} {v : AV} (e : ato x h = some (.value v h')) : x = some v ∧ h' = h := by
  unfold ato at e
  cases x with
  | none => cases e
  | some y => cases e; exact ⟨rfl, rfl⟩
theorem ato_call {x : Option AV} {h h' : AHeap} {f : FuncId} {as : List AV} (e : ato x h = some (.call f as h')) : False := by
  unfold ato at e
  cases x with
  | none => cases e
  | some y => cases e
theorem ato2_inv {x : Option (AV × AHeap)} {h' : AHeap} {v : AV} (e : ato2 x = some (.value v h')) : x = some (v, h') := by
  unfold ato2 at e
  cases x with
  | none => cases e
  | some y => cases e; rfl
theorem ato2_call {x : Option (AV × AHeap)} {h' : AHeap} {f : FuncId} {as : List AV} (e : ato2 x = some (.call f as h')) : False := by
  unfold ato2 at e
  cases x with
  | none => cases e
  | some y => cases e
theorem args_VA {O : Nat → Prop} {env : Env} {a : Act} (he : VA w O γ env a.tmps) (xs : Array Operand) : VA w O γ (xs.toList.map (oval env)) (xs.map a.eval) := by
  have := VA.of_list (w := w) (O := O) (γ := γ) (l := xs.toList) (f := oval env) (g := a.eval) fun x _ => he.oval x
  have e : (xs.toList.map a.eval).toArray = xs.map a.eval := by apply Array.ext'; simp
  rw [← e]; exact this
theorem parts_VA {O : Nat → Prop} {env : Env} {a : Act} (he : VA w O γ env a.tmps) (ps : Array (Nat × Operand)) :
    (ps.toList.map fun p => (p.1, oval env p.2)).length = (ps.map fun (i, x) => (i, a.eval x)).size ∧
    ∀ (i : Nat) (p : Nat × AV) (q : Nat × Value), (ps.toList.map fun p => (p.1, oval env p.2))[i]? = some p → (ps.map fun (i, x) => (i, a.eval x))[i]? = some q → p.1 = q.1 ∧ V w O γ p.2 q.2 := by
  refine ⟨by simp, fun i p q hp hq => ?_⟩
  simp at hp hq
  obtain ⟨a1, b1, h1, rfl⟩ := hp
  obtain ⟨a2, b2, h2, rfl⟩ := hq
  rw [h1] at h2; cases h2
  exact ⟨rfl, he.oval _⟩
theorem opt_VA {O : Nat → Prop} {env : Env} {a : Act} (he : VA w O γ env a.tmps) (x : Option Operand) :
    (∀ v, x.map (oval env) = some v → ∃ y, x.map a.eval = some y ∧ V w O γ v y) ∧ (x.map (oval env) = none → x.map a.eval = none) := by
  cases x with
  | none => exact ⟨fun v h => (by cases h), fun _ => rfl⟩
  | some x => exact ⟨fun v h => (by cases h; exact ⟨_, rfl, he.oval x⟩), fun h => (by cases h)⟩
theorem list_two {α : Type} {xs : Array α} {β : Type} {f : α → β} {a b : β} (e : xs.toList.map f = [a, b]) : ∃ x y, xs = #[x, y] ∧ f x = a ∧ f y = b := by
  cases hx : xs.toList with
  | nil => rw [hx] at e; cases e
  | cons x r =>
    rw [hx] at e
    cases r with
    | nil => cases e
    | cons y t =>
      cases t with
      | nil => cases e; exact ⟨x, y, by apply Array.ext'; simpa using hx, rfl, rfl⟩
      | cons _ _ => simp at e
theorem list_one {α : Type} {xs : Array α} {β : Type} {f : α → β} {a : β} (e : xs.toList.map f = [a]) : ∃ x, xs = #[x] ∧ f x = a := by
  cases hx : xs.toList with
  | nil => rw [hx] at e; cases e
  | cons x r =>
    rw [hx] at e
    cases r with
    | nil => cases e; exact ⟨x, by apply Array.ext'; simpa using hx, rfl⟩
    | cons y t => simp at e
theorem abuiltin_sound (r : R X h γ w) {env : Env} {a : Act} (he : VA w (Ow X h γ) γ env a.tmps) {b : Builtin} {ts : Array TypeId} {ty : TypeId} {cs : Array Bool} {xs : Array Operand} {v : AV} {h' : AHeap}
    (e : abuiltin P b ts h (xs.toList.map (oval env)) = some (v, h')) :
    ∃ u w' γ', RunsTo P (builtin b ts ty cs (xs.map a.eval)) w u w' ∧ Goes X h γ w h' γ' w' ∧ V w' (Ow X h' γ') γ' v u := by
  unfold abuiltin at e
  split at e
  · rename_i id hxs
    obtain ⟨y, rfl, hy⟩ := list_one hxs
    split at e
    · rename_i hc; obtain ⟨hts, ht⟩ := hc
      have hx := he.oval y
      rw [hy] at hx
      obtain ⟨b, hb, hg⟩ := hx.mp_form
      obtain ⟨kt, et, hu⟩ := mapT_iff ht
      unfold amlen at e
      split at e
      · rename_i es c hid
        cases e
        obtain ⟨ys, hw, hI⟩ := r.map hid hg
        refine ⟨goInt ys.size, w, γ, ?_, Goes.refl r, by rw [show (AV.int es.length) = AV.int ys.size by rw [hI.1]]; exact .val _⟩
        rw [show Array.map a.eval #[y] = #[a.eval y] by simp, hb]
        have ht0 : ts[0]? = some (argT ts 0) := by simp [argT, hts]
        exact RunsTo.v (s := Builtin.len_ ts ty #[.map (some b)]) (by simp [Builtin.len_, ht0, run_underlying hu, MapKept.run_getObj_map hw])
      · cases e
    · cases e
  · rename_i hxs
    obtain ⟨y, rfl, hy⟩ := list_one hxs
    split at e
    · rename_i hc; obtain ⟨hts, ht⟩ := hc
      have hx := he.oval y
      rw [hy] at hx
      have hb := hx.val_inv
      obtain ⟨kt, et, hu⟩ := mapT_iff ht
      cases e
      refine ⟨goInt 0, w, γ, ?_, Goes.refl r, .val _⟩
      rw [show Array.map a.eval #[y] = #[a.eval y] by simp, hb]
      have ht0 : ts[0]? = some (argT ts 0) := by simp [argT, hts]
      exact RunsTo.v (s := Builtin.len_ ts ty #[.map none]) (by simp [Builtin.len_, ht0, run_underlying hu])
    · cases e
  · rename_i x _ _ hxs
    obtain ⟨y, rfl, rfl⟩ := list_one hxs
    split at e
    · rename_i hts
      cases hl : alen P (argT ts 0) (oval env y) with
      | none => rw [hl] at e; cases e
      | some z =>
        rw [hl] at e; cases e
        obtain ⟨u, h1, h2⟩ := alen_sound (ty := ty) hts (he.oval y) hl
        refine ⟨u, w, γ, ?_, Goes.refl r, h2⟩
        rw [show Array.map a.eval #[y] = #[a.eval y] by simp]
        exact RunsTo.v h1
    · cases e
  · rename_i x k hxs
    obtain ⟨y1, y2, rfl, rfl, rfl⟩ := list_two hxs
    split at e
    · rename_i hts
      cases hl : amapDel P (argT ts 0) h (oval env y1) (oval env y2) with
      | none => rw [hl] at e; cases e
      | some h1 =>
        rw [hl] at e; cases e
        obtain ⟨w', γ', k1, k2⟩ := amapDel_sound (ty := ty) r hts (he.oval y1) (he.oval y2) hl
        refine ⟨.tuple #[], w', γ', ?_, k2, .tup [] #[] rfl fun i c v hc => by simp at hc⟩
        rw [show Array.map a.eval #[y1, y2] = #[a.eval y1, a.eval y2] by simp]
        exact RunsTo.v k1
    · cases e
  · rename_i s x hxs
    obtain ⟨y1, y2, rfl, rfl, rfl⟩ := list_two hxs
    split at e
    · rename_i hc; obtain ⟨hts, hsq⟩ := hc
      obtain ⟨u, w', γ', h1, h2, h3⟩ := aappend_sound (ty := ty) r (he.oval y1) (he.oval y2) hts hsq e
      refine ⟨u, w', γ', ?_, h2, h3⟩
      rw [show Array.map a.eval #[y1, y2] = #[a.eval y1, a.eval y2] by simp]
      exact RunsTo.v h1
    · cases e
  · rename_i d x hxs
    obtain ⟨y1, y2, rfl, rfl, rfl⟩ := list_two hxs
    split at e
    · rename_i hts
      obtain ⟨u, w', h1, h2, h3⟩ := acopy_sound (ty := ty) r (he.oval y1) (he.oval y2) hts e
      refine ⟨u, w', γ, ?_, h2, h3⟩
      rw [show Array.map a.eval #[y1, y2] = #[a.eval y1, a.eval y2] by simp]
      exact RunsTo.v h1
    · cases e
  · rename_i x rr hxs
    cases hl : afold amin2 x rr with
    | none => rw [hl] at e; cases e
    | some z =>
      rw [hl] at e; cases e
      have hva := args_VA he xs
      rw [hxs] at hva
      cases hv : (xs.map a.eval).toList with
      | nil =>
        have h1 := hva.1
        have h2 : (xs.map a.eval).size = 0 := by rw [← Array.length_toList, hv]; rfl
        rw [h2] at h1; cases h1
      | cons y t =>
        have hvl : (x :: rr).length = (y :: t).length := by rw [← hv, Array.length_toList]; exact hva.1
        have hget : ∀ (i : Nat) (b : AV) (z : Value), (x :: rr)[i]? = some b → (y :: t)[i]? = some z → V w (Ow X h γ) γ b z := fun i b z hb hz => hva.2 i b z hb (by rw [← hv] at hz; simpa using hz)
        obtain ⟨u, h1, h2⟩ := afold_sound (P := P) (f := amin2) (g := Builtin.min2) amin2_sound rr t (hget 0 _ _ rfl rfl) (by simpa using hvl) (fun i b z hb hz => hget (i + 1) b z (by simpa using hb) (by simpa using hz)) hl
        refine ⟨u, w, γ, RunsTo.v (s := Builtin.min_ ts ty (xs.map a.eval)) ?_, Goes.refl r, h2⟩
        simp only [Builtin.min_, hv]; exact h1
  · rename_i x rr hxs
    cases hl : afold amax2 x rr with
    | none => rw [hl] at e; cases e
    | some z =>
      rw [hl] at e; cases e
      have hva := args_VA he xs
      rw [hxs] at hva
      cases hv : (xs.map a.eval).toList with
      | nil =>
        have h1 := hva.1
        have h2 : (xs.map a.eval).size = 0 := by rw [← Array.length_toList, hv]; rfl
        rw [h2] at h1; cases h1
      | cons y t =>
        have hvl : (x :: rr).length = (y :: t).length := by rw [← hv, Array.length_toList]; exact hva.1
        have hget : ∀ (i : Nat) (b : AV) (z : Value), (x :: rr)[i]? = some b → (y :: t)[i]? = some z → V w (Ow X h γ) γ b z := fun i b z hb hz => hva.2 i b z hb (by rw [← hv] at hz; simpa using hz)
        obtain ⟨u, h1, h2⟩ := afold_sound (P := P) (f := amax2) (g := Builtin.max2) amax2_sound rr t (hget 0 _ _ rfl rfl) (by simpa using hvl) (fun i b z hb hz => hget (i + 1) b z (by simpa using hb) (by simpa using hz)) hl
        refine ⟨u, w, γ, RunsTo.v (s := Builtin.max_ ts ty (xs.map a.eval)) ?_, Goes.refl r, h2⟩
        simp only [Builtin.max_, hv]; exact h1
  · cases e
theorem acall1_inv {f v : AV} {args : List AV} {h' : AHeap} (e : acall1 P h f args = some (.value v h')) : False := by
  cases f with
  | clo f first caps =>
    simp only [acall1] at e
    by_cases hc : callable P f = true
    · rw [if_pos hc] at e; cases e
    · rw [if_neg hc] at e; cases e
  | _ => cases e
theorem run_callFunc {f : FuncId} (hc : callable P f = true) (args : Array Value) : (callFunc f args).run P w = .ok (.enter f args) w := by
  unfold callable at hc
  split at hc
  · rename_i fn hfn
    simp only [Bool.and_eq_true, bne_iff_ne, ne_eq] at hc
    cases hb : fn.body with
    | none => rw [hb] at hc; simp at hc
    | some c => simp [callFunc, hfn, hc.2, hb]
  · cases hc
theorem acall1_sound {env : Env} {a : Act} (he : VA w (Ow X h γ) γ env a.tmps) {o : Oper} {c : Call} {fo : Operand} {f : FuncId} {args : List AV} {h' : AHeap} (ho : o.op = .call c) (hcal : c.callee = .value fo)
    (e : acall1 P h (oval env fo) (c.args.toList.map (oval env)) = some (.call f args h')) :
    h' = h ∧ callable P f = true ∧ ∃ vs, (execOp a.eval o).run P w = .ok (.enter f vs) w ∧ VA w (Ow X h γ) γ args vs := by
  unfold acall1 at e
  split at e
  · rename_i f' first caps hf
    split at e
    · rename_i hc
      cases e
      have hv := he.oval fo
      rw [hf] at hv
      generalize hu : a.eval fo = u at hv
      cases hv with
      | clo f first caps fs cs hfl hcl hvf hvc =>
        refine ⟨rfl, hc, fs ++ c.args.map a.eval ++ cs, ?_, (VA.append ⟨hfl, hvf⟩ (args_VA he c.args)).append ⟨hcl, hvc⟩⟩
        simp only [execOp, ho, resolve, hcal, hu, Deferred.ofValue, Sem.run_bind, Sem.run_pure, Result.andThen_ok, invoke]
        exact run_callFunc hc _
    · cases e
  · cases e
/-- An operation that answers a value. -/
theorem eqIn_slc (d : Nat) {t el : TypeId} (hu : P.underlying t = some (.slice el)) (p : Option Addr) (l c : Nat) : (Op.equalIn (d + 1) t (.slice p l c) (.slice none 0 0)).run P w = .ok p.isNone w := by
  cases p <;> simp [Op.equalIn, run_underlying hu]
theorem anilS_sound {O : Nat → Prop} {a : Act} {op : BinOp} {t : TypeId} {x y : Operand} {b v : AV} {u : Value} (hn : isNilS y = true) (hx : V w O γ b u) (e : anilS P op t b = some v) :
    ∃ r, (do eqGuard op t x y u (a.eval y); binOp op t u (a.eval y) : Sem Value).run P w = .ok r w ∧ V w O γ v r := by
  have hy : a.eval y = .slice none 0 0 := by
    unfold isNilS at hn
    split at hn
    · rfl
    · cases hn
  rw [hy]
  unfold anilS at e
  split at e
  · rename_i ht
    obtain ⟨el, hu⟩ : ∃ el, P.underlying t = some (.slice el) := by
      unfold isSliceT at ht; split at ht
      · exact ⟨_, by assumption⟩
      · cases ht
    have fin : ∀ {p : Option Addr} {l c : Nat}, u = .slice p l c → aeqb op p.isNone = some v → ∃ r, (do eqGuard op t x y u (.slice none 0 0); binOp op t u (.slice none 0 0) : Sem Value).run P w = .ok r w ∧ V w O γ v r := by
      rintro p l c rfl e
      obtain ⟨r, h1, h2⟩ := run_eq_of (P := P) (w := w) (γ := γ) (O := O) (op := op) (t := t) (x := .slice p l c) (y := .slice none 0 0) (b := p.isNone) (eqIn_slc 9999 hu p l c) rfl rfl e
      exact ⟨r, by simp only [Sem.run_bind, eqGuard_ok (P := P) (w := w) (op := op) (t := t) (x := x) (y := y) (a := .slice p l c) (b := .slice none 0 0) (.inl (by simp)) (.inl (by simp)), Result.andThen_ok, h1], h2⟩
    split at e
    · cases hx.val_inv; exact fin (p := none) rfl e
    · cases hx with
      | slc _ _ b o cap k vals _ _ _ _ _ => exact fin (p := some _) rfl e
    · cases hx with
      | arr _ _ _ _ _ b o cap o' _ _ _ _ => exact fin (p := some _) rfl e
    · cases hx with
      | emp a cap => exact fin (p := some _) rfl e
    · cases e
  · cases e
theorem op_value (r : R X h γ w) {env : Env} {a : Act} (he : VA w (Ow X h γ) γ env a.tmps) {o : Oper} {v : AV} {h' : AHeap} (e : aop P env h o = some (.value v h')) :
    ∃ u w' γ', RunsTo P (execOp a.eval o) w u w' ∧ Goes X h γ w h' γ' w' ∧ V w' (Ow X h' γ') γ' v u := by
  unfold aop at e
  cases hop : o.op with
  | move x => simp only [hop] at e; cases e; exact ⟨_, w, γ, .inl (by simp [execOp, hop]), Goes.refl r, he.oval x⟩
  | assign x => simp only [hop] at e; cases e; exact ⟨_, w, γ, .inl (by simp [execOp, hop]), Goes.refl r, he.oval x⟩
  | pick c x y =>
    simp only [hop] at e
    obtain ⟨e', rfl⟩ := ato_inv e
    replace e := e'
    unfold apick at e
    split at e
    · rename_i b hb
      have hv := he.oval c
      rw [hb] at hv
      have hc := hv.val_inv
      cases e
      cases b with
      | true => exact ⟨_, w, γ, .inl (by simp [execOp, hop, hc, Go.asBool]), Goes.refl r, he.oval x⟩
      | false => exact ⟨_, w, γ, .inl (by simp [execOp, hop, hc, Go.asBool]), Goes.refl r, he.oval y⟩
    · cases e
  | alloc t =>
    simp only [hop] at e
    split at e
    · rename_i z hz
      cases e
      obtain ⟨i, zv, hi, hzero, rfl, hok, hcells⟩ := tzero_all hz
      obtain ⟨w', γ', h1, h2, h3⟩ := box_goes (P := P) r (ofVal_V zv hcells) hok t
      refine ⟨_, w', γ', ?_, h2, h3⟩
      have : (execOp a.eval o) = (do pure (.value (← Instr.alloc t true (.tuple #[])))) := by simp [execOp, hop]
      rw [this]
      exact RunsTo.v (by simp [Instr.alloc, run_zeroValue hi hzero, h1])
    · cases e
  | box t x =>
    simp only [hop] at e
    split at e
    · rename_i hk
      cases e
      obtain ⟨w', γ', h1, h2, h3⟩ := box_goes (P := P) r (he.oval x) hk t
      refine ⟨_, w', γ', ?_, h2, h3⟩
      have : (execOp a.eval o) = (do pure (.value (← Instr.box t (a.eval x)))) := by simp [execOp, hop]
      rw [this]
      exact RunsTo.v (by simp [Instr.box, h1])
    · cases e
  | build t ps =>
    simp only [hop] at e
    obtain ⟨e', rfl⟩ := ato_inv e
    replace e := e'
    obtain ⟨u, h1, h2⟩ := abuild_sound (parts_VA he ps).1 (parts_VA he ps).2 e
    refine ⟨u, w, γ, ?_, Goes.refl r, h2⟩
    have : (execOp a.eval o) = (do pure (.value (← Instr.build t (ps.map fun (i, x) => (i, a.eval x))))) := by simp [execOp, hop]
    rw [this]; exact RunsTo.v h1
  | buildSlice t n ps =>
    simp only [hop] at e
    obtain ⟨e', rfl⟩ := ato_inv e
    replace e := e'
    obtain ⟨u, w', h1, h2, h3⟩ := abuildSlice_sound r (parts_VA he ps).1 (parts_VA he ps).2 e
    refine ⟨u, w', γ, ?_, h2, h3⟩
    have : (execOp a.eval o) = (do pure (.value (← Instr.buildSlice t n (ps.map fun (i, x) => (i, a.eval x))))) := by simp [execOp, hop]
    rw [this]; exact RunsTo.v h1
  | load t x =>
    simp only [hop] at e
    obtain ⟨e', rfl⟩ := ato_inv e
    replace e := e'
    obtain ⟨u, h1, h2⟩ := aload_sound r (he.oval x) e
    refine ⟨u, w, γ, ?_, Goes.refl r, h2⟩
    have : (execOp a.eval o) = (do pure (.value (← Instr.loadAt t (a.eval x)))) := by simp [execOp, hop]
    rw [this]; exact RunsTo.v h1
  | store t x y =>
    simp only [hop] at e
    cases hs : astore P t h (oval env x) (oval env y) with
    | none => rw [hs] at e; cases e
    | some h2 =>
      rw [hs] at e; cases e
      obtain ⟨w', h1, h2⟩ := astore_sound r (he.oval x) (he.oval y) hs
      refine ⟨undef, w', γ, ?_, h2, .val _⟩
      have : (execOp a.eval o) = (do Instr.storeAt t (a.eval x) (a.eval y); pure .skip) := by simp [execOp, hop]
      rw [this]; exact RunsTo.u h1
  | nilCheck x =>
    simp only [hop] at e
    obtain ⟨e', rfl⟩ := ato_inv e
    replace e := e'
    have hv := he.oval x
    generalize oval env x = av at hv e
    generalize hu : a.eval x = u at hv
    refine ⟨u, w, γ, .inl ?_, Goes.refl r, ?_⟩
    · cases hv <;> simp [anil] at e <;> simp [execOp, hop, hu]
    · cases av <;> simp [anil] at e <;> subst e <;> exact hv
  | binOp op t x y t' =>
    simp only [hop] at e
    obtain ⟨e', rfl⟩ := ato_inv e
    replace e := e'
    have key : ∃ u, (do eqGuard op t x y (a.eval x) (a.eval y); binOp op t (a.eval x) (a.eval y) : Sem Value).run P w = .ok u w ∧ V w (Ow X h' γ) γ v u := by
      split at e
      · rename_i hn; exact anilS_sound hn (he.oval x) e
      · exact abin_sound (x := x) (y := y) (he.oval x) (he.oval y) e
    obtain ⟨u, h1, h2⟩ := key
    refine ⟨u, w, γ, ?_, Goes.refl r, h2⟩
    have : (execOp a.eval o) = (do pure (.value (← (do eqGuard op t x y (a.eval x) (a.eval y); binOp op t (a.eval x) (a.eval y))))) := by simp [execOp, hop]
    rw [this]; exact RunsTo.v h1
  | unOp op t x =>
    simp only [hop] at e
    obtain ⟨e', rfl⟩ := ato_inv e
    replace e := e'
    obtain ⟨u, h1, h2⟩ := aun_sound (he.oval x) e
    refine ⟨u, w, γ, ?_, Goes.refl r, h2⟩
    have : (execOp a.eval o) = (do pure (.value (← Op.unary op (a.eval x)))) := by simp [execOp, hop]
    rw [this]; exact RunsTo.v h1
  | convert s d x =>
    simp only [hop] at e
    have e := ato2_inv e
    obtain ⟨u, w', γ', h1, h2, h3⟩ := aconvert_sound r (he.oval x) e
    refine ⟨u, w', γ', ?_, h2, h3⟩
    have : (execOp a.eval o) = (do pure (.value (← convert s d (a.eval x)))) := by simp [execOp, hop]
    rw [this]; exact RunsTo.v h1
  | makeFunc fn first caps =>
    cases fn with
    | func f =>
      simp only [hop] at e; cases e
      refine ⟨_, w, γ, .inl ?_, Goes.refl r, .clo f _ _ _ _ (args_VA he first).1 (args_VA he caps).1 (args_VA he first).2 (args_VA he caps).2⟩
      simp [execOp, hop, Instr.makeFunc]
    | _ => simp only [hop] at e; cases e
  | makeSlice t l c =>
    simp only [hop] at e
    have e := ato2_inv e
    obtain ⟨u, w', γ', h1, h2, h3⟩ := amake_sound r (he.oval l) (he.oval c) e
    refine ⟨u, w', γ', ?_, h2, h3⟩
    have : (execOp a.eval o) = (do pure (.value (← Instr.makeSlice t (a.eval l) (a.eval c)))) := by simp [execOp, hop]
    rw [this]; exact RunsTo.v h1
  | slice t x lo hi mx =>
    simp only [hop] at e
    obtain ⟨e', rfl⟩ := ato_inv e
    replace e := e'
    obtain ⟨u, h1, h2⟩ := asliceAt_sound r (he.oval x) (opt_VA he lo).1 (opt_VA he lo).2 (opt_VA he hi).1 (opt_VA he hi).2 (opt_VA he mx).1 (opt_VA he mx).2 e
    refine ⟨u, w, γ, ?_, Goes.refl r, h2⟩
    have : (execOp a.eval o) = (do pure (.value (← Instr.sliceAt t (a.eval x) (lo.map a.eval) (hi.map a.eval) (mx.map a.eval)))) := by simp [execOp, hop]
    rw [this]; exact RunsTo.v h1
  | fieldAddr s x f =>
    simp only [hop] at e
    obtain ⟨e', rfl⟩ := ato_inv e
    replace e := e'
    obtain ⟨u, h1, h2⟩ := afieldAddr_sound (he.oval x) e
    refine ⟨u, w, γ, ?_, Goes.refl r, h2⟩
    have : (execOp a.eval o) = (do pure (.value (← Instr.fieldAt s (a.eval x) f))) := by simp [execOp, hop]
    rw [this]; exact RunsTo.v h1
  | field s x f =>
    simp only [hop] at e
    obtain ⟨e', rfl⟩ := ato_inv e
    replace e := e'
    obtain ⟨u, h1, h2⟩ := afield_sound (he.oval x) e
    refine ⟨u, w, γ, ?_, Goes.refl r, h2⟩
    have : (execOp a.eval o) = (do pure (.value (← Instr.field s (a.eval x) f))) := by simp [execOp, hop]
    rw [this]; exact RunsTo.v h1
  | indexAddr t x i =>
    simp only [hop] at e
    obtain ⟨e', rfl⟩ := ato_inv e
    replace e := e'
    obtain ⟨u, h1, h2⟩ := aindexAddr_sound (he.oval x) (he.oval i) e
    refine ⟨u, w, γ, ?_, Goes.refl r, h2⟩
    have : (execOp a.eval o) = (do pure (.value (← Instr.indexAt t (a.eval x) (a.eval i)))) := by simp [execOp, hop]
    rw [this]; exact RunsTo.v h1
  | index t x i =>
    simp only [hop] at e
    obtain ⟨e', rfl⟩ := ato_inv e
    replace e := e'
    obtain ⟨u, h1, h2⟩ := aindex_sound (he.oval x) (he.oval i) e
    refine ⟨u, w, γ, ?_, Goes.refl r, h2⟩
    have : (execOp a.eval o) = (do pure (.value (← Instr.index t (a.eval x) (a.eval i)))) := by simp [execOp, hop]
    rw [this]; exact RunsTo.v h1
  | extract t i =>
    simp only [hop] at e
    split at e
    · rename_i vs hvs
      obtain ⟨e', rfl⟩ := ato_inv e
      replace e := e'
      have hv := he.oval t
      rw [hvs] at hv
      generalize hu : a.eval t = u at hv
      cases hv with
      | tup cs us hl hvv =>
        have hlt : i < vs.length := (List.getElem?_eq_some_iff.1 e).1
        have hlt' : i < us.size := hl ▸ hlt
        refine ⟨us[i], w, γ, .inl ?_, Goes.refl r, hvv i _ _ e (by simp [hlt'])⟩
        simp [execOp, hop, hu, Instr.extract, hlt']
    · cases e
  | call c =>
    simp only [hop] at e
    split at e
    · exact (acall1_inv e).elim
    · rename_i b hb
      have e := ato2_inv e
      have : ∃ cs, execOp a.eval o = builtin b c.argTypes o.type cs (c.args.map a.eval) := ⟨_, by simp only [execOp, hop, resolve, hb]; rfl⟩
      obtain ⟨cs, hcs⟩ := this
      obtain ⟨u, w', γ', h1, h2, h3⟩ := abuiltin_sound (ty := o.type) (cs := cs) r he e
      exact ⟨u, w', γ', by rw [hcs]; exact h1, h2, h3⟩
    · cases e
  | makeMap t rsv =>
    cases rsv with
    | some _ => simp only [hop] at e; cases e
    | none =>
      simp only [hop] at e
      split at e
      · cases e
        refine ⟨.map (some w.heap.size), _, _, ?_, makeMap_goes r, .mp _ _ (by simp [Ghost.put])⟩
        have : (execOp a.eval o) = (do pure (.value (← Instr.makeMap t none))) := by simp [execOp, hop]
        rw [this]; exact RunsTo.v (by simp [Instr.makeMap])
      · cases e
  | lookup t x k ok =>
    simp only [hop] at e
    obtain ⟨e', rfl⟩ := ato_inv e
    obtain ⟨u, h1, h2⟩ := alookup_sound r (he.oval x) (he.oval k) e'
    refine ⟨u, w, γ, ?_, Goes.refl r, h2⟩
    have : (execOp a.eval o) = (do pure (.value (← Instr.lookup t (a.eval x) (a.eval k) ok))) := by simp [execOp, hop]
    rw [this]; exact RunsTo.v h1
  | mapUpdate t x k y =>
    simp only [hop] at e
    cases hs : amapPut P t h (oval env x) (oval env k) (oval env y) with
    | none => rw [hs] at e; cases e
    | some h1 =>
      rw [hs] at e; cases e
      obtain ⟨w', γ', k1, k2⟩ := amapPut_sound r (he.oval x) (he.oval k) (he.oval y) hs
      refine ⟨undef, w', γ', ?_, k2, .val _⟩
      have : (execOp a.eval o) = (do Instr.mapUpdate t (a.eval x) (a.eval k) (a.eval y); pure .skip) := by simp [execOp, hop]
      rw [this]; exact RunsTo.u k1
  | insert t x k y =>
    simp only [hop] at e
    cases hs : amapPut P t h (oval env x) (oval env k) (oval env y) with
    | none => rw [hs] at e; cases e
    | some h1 =>
      rw [hs] at e; cases e
      obtain ⟨w', γ', k1, k2⟩ := amapPut_sound r (he.oval x) (he.oval k) (he.oval y) hs
      refine ⟨undef, w', γ', ?_, k2, .val _⟩
      have : (execOp a.eval o) = (do Instr.mapUpdate t (a.eval x) (a.eval k) (a.eval y); pure .skip) := by simp [execOp, hop]
      rw [this]; exact RunsTo.u k1
  | mapEntry t x k =>
    simp only [hop] at e
    have e := ato2_inv e
    obtain ⟨u, w', γ', h1, h2, h3⟩ := amapEntry_sound r (he.oval x) (he.oval k) e
    refine ⟨u, w', γ', ?_, h2, h3⟩
    have : (execOp a.eval o) = (do pure (.value (← Instr.mapEntry t (a.eval x) (a.eval k)))) := by simp [execOp, hop]
    rw [this]; exact RunsTo.v h1
  | entryStore t x s y =>
    simp only [hop] at e
    cases hs : aentryStore h (oval env x) (oval env s) (oval env y) with
    | none => rw [hs] at e; cases e
    | some h1 =>
      rw [hs] at e; cases e
      obtain ⟨w', γ', k1, k2⟩ := aentryStore_sound (P := P) (t := t) r (he.oval x) (he.oval s) (he.oval y) hs
      refine ⟨undef, w', γ', ?_, k2, .val _⟩
      have : (execOp a.eval o) = (do Instr.entryStore t (a.eval x) (a.eval s) (a.eval y); pure .skip) := by simp [execOp, hop]
      rw [this]; exact RunsTo.u k1
  | range t x =>
    simp only [hop] at e
    have e := ato2_inv e
    obtain ⟨u, w', γ', h1, h2, h3⟩ := arange_sound r (he.oval x) e
    refine ⟨u, w', γ', ?_, h2, h3⟩
    have : (execOp a.eval o) = (do pure (.value (← Instr.range t (a.eval x)))) := by simp [execOp, hop]
    rw [this]; exact RunsTo.v h1
  | next x s =>
    cases s with
    | true => simp only [hop] at e; cases e
    | false =>
      simp only [hop] at e
      have e := ato2_inv e
      obtain ⟨u, w', γ', h1, h2, h3⟩ := anext_sound (P := P) (ty := o.type) r (he.oval x) e
      refine ⟨u, w', γ', ?_, h2, h3⟩
      have : (execOp a.eval o) = (do pure (.value (← Instr.next (a.eval x) false o.type))) := by simp [execOp, hop]
      rw [this]; exact RunsTo.v h1
  | entry x =>
    simp only [hop] at e
    obtain ⟨e', rfl⟩ := ato_inv e
    obtain ⟨u, h1, h2⟩ := aentry_sound (P := P) r (he.oval x) e'
    refine ⟨u, w, γ, ?_, Goes.refl r, h2⟩
    have : (execOp a.eval o) = (do pure (.value (← Instr.entry (a.eval x)))) := by simp [execOp, hop]
    rw [this]; exact RunsTo.v h1
  | _ => simp only [hop] at e; cases e
/-- An operation that calls. -/
theorem op_call {env : Env} {a : Act} (he : VA w (Ow X h γ) γ env a.tmps) {o : Oper} {f : FuncId} {args : List AV} {h' : AHeap} (e : aop P env h o = some (.call f args h')) :
    h' = h ∧ callable P f = true ∧ ∃ vs, (execOp a.eval o).run P w = .ok (.enter f vs) w ∧ VA w (Ow X h γ) γ args vs := by
  unfold aop at e
  cases hop : o.op with
  | call c =>
    simp only [hop] at e
    split at e
    · rename_i fo hfo; exact acall1_sound he hop hfo e
    · exact (ato2_call e).elim
    · cases e
  | alloc t => simp only [hop] at e; split at e <;> cases e
  | box t x => simp only [hop] at e; split at e <;> cases e
  | store t x y => simp only [hop] at e; cases hs : astore P t h (oval env x) (oval env y) <;> rw [hs] at e <;> cases e
  | makeMap t rsv =>
    cases rsv with
    | some _ => simp only [hop] at e; cases e
    | none => simp only [hop] at e; split at e <;> cases e
  | mapUpdate t x k y => simp only [hop] at e; cases hs : amapPut P t h (oval env x) (oval env k) (oval env y) <;> rw [hs] at e <;> cases e
  | insert t x k y => simp only [hop] at e; cases hs : amapPut P t h (oval env x) (oval env k) (oval env y) <;> rw [hs] at e <;> cases e
  | entryStore t x s y => simp only [hop] at e; cases hs : aentryStore h (oval env x) (oval env s) (oval env y) <;> rw [hs] at e <;> cases e
  | next x s => cases s <;> simp only [hop] at e <;> first | (cases e; done) | exact (ato2_call e).elim
  | extract t i =>
    simp only [hop] at e; split at e
    · exact (ato_call e).elim
    · cases e
  | makeFunc fn first caps => cases fn <;> simp only [hop] at e <;> cases e
  | _ => simp only [hop] at e; first | (cases e; done) | exact (ato_call e).elim | exact (ato2_call e).elim
end
end Go.Ab
namespace Go.Ab
set_option linter.unusedSimpArgs false
set_option linter.unusedVariables false
section
variable {P : Program} {X O O' : Nat → Prop} {h h' : AHeap} {γ γ' : Ghost} {w w' : World}

/-! ### What hangs on no ghost -/
theorem solidL_mem : ∀ {cs : List AV}, solidL cs = true → ∀ c ∈ cs, solid c = true
  | [], _, _, hc => by cases hc
  | x :: r, hs, c, hc => by
    simp only [solidL, Bool.and_eq_true] at hs
    rcases List.mem_cons.1 hc with rfl | hc
    · exact hs.1
    · exact solidL_mem hs.2 c hc
theorem solid_cells {e : AV} (hs : solid e = true) {j : Nat} {c : AV} (hj : e.cells[j]? = some c) : solid c = true := by
  cases e with
  | agg cs => exact solidL_mem (cs := cs) (by simpa [solid] using hs) c (List.mem_of_getElem? hj)
  | _ =>
    have hm := List.mem_of_getElem? hj
    simp only [AV.cells, List.mem_singleton] at hm
    subst hm; exact hs
theorem V.solid {a : AV} {v : Value} (hv : V w O γ a v) (hs : solid a = true) (hO : ∀ b, O' b → O b) : V w O' γ' a v := by
  induction hv with
  | unk v => exact .unk v
  | val v => exact .val v
  | agg cs vs hl hc _ ih => exact .agg cs vs hl hc fun i c v hi hu => ih i c v hi hu (solidL_mem (by simpa [Ab.solid] using hs) c (List.mem_of_getElem? hi))
  | tup cs vs hl _ ih => exact .tup cs vs hl fun i c v hi hu => ih i c v hi hu (solidL_mem (by simpa [Ab.solid] using hs) c (List.mem_of_getElem? hi))
  | slc0 full a0 => exact .slc0 full a0
  | slc full es b o cap k vals hcap hfull hk hc _ ih =>
    have hes : solidL es = true := by simp only [Ab.solid, Bool.and_eq_true] at hs; exact hs.2
    exact .slc full es b o cap k vals hcap hfull hk (fun i j e c he hj => ⟨(hc i j e c he hj).1, fun ho => (hc i j e c he hj).2.1 (hO _ ho), (hc i j e c he hj).2.2⟩)
      fun i j e c he hj => ih i j e c he hj (solid_cells (solidL_mem hes e (List.mem_of_getElem? he)) hj)
  | _ => simp [Ab.solid] at hs
theorem flat_V {a : AV} {v : Value} (hv : V w O γ a v) (hs : flat a = true) : V w' O' γ' a v := by
  have one : ∀ {c : AV} {u : Value}, flat1 c = true → V w O γ c u → V w' O' γ' c u := by
    intro c u hc hu
    cases c <;> first | (simp [flat1] at hc; done) | skip
    rw [hu.val_inv]; exact .val _
  cases hv with
  | val v => exact .val v
  | agg cs vs hl hc hv => exact .agg cs vs hl hc fun i c v hi hu => one (List.all_eq_true.1 hs c (List.mem_of_getElem? hi)) (hv i c v hi hu)
  | tup cs vs hl hv => exact .tup cs vs hl fun i c v hi hu => one (List.all_eq_true.1 hs c (List.mem_of_getElem? hi)) (hv i c v hi hu)
  | _ => simp [flat] at hs

/-! ### Quiet steps, and arrays that are handed away -/
theorem quiet_goes (r : R X h γ w) (s : Step w w' (fun _ => False)) : Goes X h γ w h γ w' := by
  have hsees : Sees w (Ow X h γ) γ w' (Ow X h γ) γ := ⟨fun _ _ _ e => e, fun b off v hO hv => ⟨hO, by rw [cell?_of_heap (s.keep b (lt_of_cell hv) id)]; exact hv⟩, s.row⟩
  exact ⟨⟨r.dom, r.gens, fun id => (r.obj id).keep hsees fun g b p e1 e2 => s.keep b (r.own_lt ⟨id, g, p, e2, e1⟩) (fun e => e), r.inj, r.apart, fun b hb => Nat.lt_of_lt_of_le (r.xin b hb) s.size, r.dd⟩,
    fun _ _ _ e => e, ⟨s.os, s.tape, s.output, s.size, fun b hb _ => s.keep b hb (fun e => e), s.row⟩, fun _ _ e => e⟩
theorem own_frz1 {id b : Nat} (ho : Own (frz1 h id) γ b) : Own h γ b := by
  unfold frz1 at ho
  split at ho
  · rename_i k es g hid
    obtain ⟨i, g', p, e1, e2⟩ := ho
    by_cases hi : id = i
    · subst hi
      have hl : id < h.length := hget_lt hid (by simp)
      rw [hget_set_eq hl] at e1; cases e1
    · rw [hget_set_ne hi] at e1
      exact ⟨i, g', p, e1, e2⟩
  · exact ho
theorem own_frzAll {b : Nat} : ∀ (ids : List Nat) {h : AHeap}, Own (frzAll h ids) γ b → Own h γ b
  | [], _, ho => ho
  | id :: r, _, ho => own_frz1 (own_frzAll r ho)
theorem frz1_R {id : Nat} (r : R X h γ w) : R X (frz1 h id) γ w := by
  unfold frz1
  split
  · rename_i k es g hid
    have hl : id < h.length := hget_lt hid (by simp)
    have hsub : ∀ b, Own (h.set id (.frz k es g)) γ b → Own h γ b := by
      rintro b ⟨i, g', p, e1, e2⟩
      by_cases hi : id = i
      · subst hi; rw [hget_set_eq hl] at e1; cases e1
      · rw [hget_set_ne hi] at e1; exact ⟨i, g', p, e1, e2⟩
    have hsees : Sees w (Ow X h γ) γ w (Ow X (h.set id (.frz k es g)) γ) γ :=
      ⟨fun _ _ _ e => e, fun b off v hO hv => ⟨fun ho => hO (ho.imp (fun e => e) (hsub b)), hv⟩, fun _ c _ z hh => ⟨c, z, hh, rfl⟩⟩
    have hobj := r.obj id
    rw [hid] at hobj
    obtain ⟨b, o, hg, hf, hr⟩ := hobj
    refine ⟨fun i g' p e => by simpa using r.dom i g' p e, fun i k' es' g1 g' p e1 e2 => ?_, fun i => ?_, fun i i' g1 g2 b' p p' e1 e2 e3 e4 => ?_, fun b' ho => r.apart b' (hsub b' ho), r.xin, fun i g' p e => ?_⟩
    · by_cases hi : id = i
      · subst hi; rw [hget_set_eq hl] at e1; cases e1
      · rw [hget_set_ne hi] at e1; exact r.gens i k' es' g1 g' p e1 e2
    · by_cases hi : id = i
      · subst hi
        rw [hget_set_eq hl]
        refine ⟨b, o, hg, hr.mono hsees fun _ => rfl, fun _ _ _ _ _ _ ho => ?_⟩
        rcases ho with hx | ⟨i, g', p, e1, e2⟩
        · exact r.apart b ⟨id, g, o, by rw [hid]; rfl, hg⟩ hx
        · by_cases hi : id = i
          · subst hi; rw [hget_set_eq hl] at e1; cases e1
          · rw [hget_set_ne hi] at e1
            exact hi (r.inj _ _ _ _ _ _ _ (by rw [hid]; rfl) hg e1 e2)
      · rw [hget_set_ne hi]
        exact (r.obj i).keep hsees fun _ _ _ _ _ => rfl
    · by_cases hi : id = i
      · subst hi; rw [hget_set_eq hl] at e1; cases e1
      · by_cases hi' : id = i'
        · subst hi'; rw [hget_set_eq hl] at e3; cases e3
        · rw [hget_set_ne hi] at e1; rw [hget_set_ne hi'] at e3
          exact r.inj _ _ _ _ _ _ _ e1 e2 e3 e4
    · by_cases hi : id = i
      · subst hi; rw [hget_set_eq hl]; simp
      · rw [hget_set_ne hi]; exact r.dd i g' p e
  · exact r
theorem frzAll_R : ∀ (ids : List Nat) {h : AHeap}, R X h γ w → R X (frzAll h ids) γ w
  | [], _, r => r
  | _ :: l, _, r => frzAll_R l (frz1_R r)
theorem frzAll_goes (r : R X h γ w) (ids : List Nat) : Goes X h γ w (frzAll h ids) γ w :=
  ⟨frzAll_R ids r, fun _ _ _ e => e, Step.refl _ _, fun _ _ ho => own_frzAll ids ho⟩
/-- An array that was handed away is owned no more. -/
theorem hget_frz1_self {id : Nat} {k g : Nat} {es : List AV} (hid : hget h id = .arr k es g) : hget (frz1 h id) id = .frz k es g := by
  unfold frz1; rw [hid]; exact hget_set_eq (hget_lt hid (by simp))
theorem hget_frz1_frz {id i : Nat} {k g : Nat} {es : List AV} (hid : hget h i = .frz k es g) : hget (frz1 h id) i = .frz k es g := by
  unfold frz1
  split
  · rename_i k' es' g' h1
    by_cases hi : id = i
    · subst hi; rw [h1] at hid; cases hid
    · rw [hget_set_ne hi]; exact hid
  · exact hid
theorem hget_frzAll_frz {i : Nat} {k g : Nat} {es : List AV} : ∀ (ids : List Nat) {h : AHeap}, hget h i = .frz k es g → hget (frzAll h ids) i = .frz k es g
  | [], _, e => e
  | _ :: r, _, e => hget_frzAll_frz r (hget_frz1_frz e)
theorem hget_frz1_ne {id i : Nat} (hi : id ≠ i) : hget (frz1 h id) i = hget h i := by
  unfold frz1; split
  · exact hget_set_ne hi
  · rfl
theorem hget_frzAll_mem {i : Nat} {k g : Nat} {es : List AV} : ∀ (ids : List Nat) {h : AHeap}, i ∈ ids → hget h i = .arr k es g → hget (frzAll h ids) i = .frz k es g
  | [], _, hi, _ => by cases hi
  | id :: r, h, hi, e => by
    by_cases he : id = i
    · subst he; exact hget_frzAll_frz r (hget_frz1_self e)
    · rcases List.mem_cons.1 hi with rfl | hi
      · exact absurd rfl he
      · exact hget_frzAll_mem r hi (by rw [hget_frz1_ne he]; exact e)
theorem frz_not_own (r : R X h γ w) {ids : List Nat} {i k g b o : Nat} {es : List AV} (hi : i ∈ ids) (hid : hget h i = .arr k es g) (hg : γ i g = some (b, o)) : ¬ Ow X (frzAll h ids) γ b := by
  rintro (hx | ho)
  · exact r.apart b ⟨i, g, o, by rw [hid]; rfl, hg⟩ hx
  · have r' := frzAll_R ids r
    obtain ⟨i', g', p, e1, e2⟩ := ho
    have e3 := hget_frzAll_mem ids hi hid
    -- in the old memory both own the block
    have ho' : Own h γ b := own_frzAll ids ⟨i', g', p, e1, e2⟩
    have back : ∀ (ids : List Nat) {h : AHeap}, ogen (hget (frzAll h ids) i') = some g' → ogen (hget h i') = some g' := by
      intro ids
      induction ids with
      | nil => intro h e; exact e
      | cons id r ih =>
        intro h e
        have e := ih e
        unfold frz1 at e
        split at e
        · rename_i k' es' g2 h1
          by_cases hne : id = i'
          · subst hne; rw [hget_set_eq (hget_lt h1 (by simp))] at e; cases e
          · rw [hget_set_ne hne] at e; exact e
        · exact e
    have e1' := back ids e1
    have : i' = i := r.inj _ _ _ _ _ _ _ e1' e2 (by rw [hid]; rfl) hg
    subst this
    rw [e3] at e1; cases e1

/-! ### Values as ones that nobody writes any more -/
theorem exp1_okVal {d : Nat} {a a' : AV} {ids : List Nat} (e : exp1 h d a = some (a', ids)) (hk : okVal a = true) : okVal a' = true := by
  cases d with
  | zero =>
    simp only [exp1] at e
    split at e
    · cases e; exact hk
    · cases e
  | succ d =>
    simp only [exp1] at e
    split at e
    · cases e; exact hk
    · split at e
      · cases hx : expL (exp1 h d) _ <;> rw [hx] at e <;> cases e; rfl
      · simp [okVal] at hk
      · cases hx : expL (exp1 h d) _ <;> rw [hx] at e <;> cases e; rfl
      · split at e
        · cases hx : expL (exp1 h d) _ <;> rw [hx] at e <;> cases e; rfl
        · cases e
      · cases e; rfl
      · cases e
theorem exp1_isCell {d : Nat} {a a' : AV} {ids : List Nat} (e : exp1 h d a = some (a', ids)) (hk : isCell a = true) : isCell a' = true := by
  cases d with
  | zero =>
    simp only [exp1] at e
    split at e
    · cases e; exact hk
    · cases e
  | succ d =>
    simp only [exp1] at e
    split at e
    · cases e; exact hk
    · split at e
      · simp [isCell] at hk
      · simp [isCell] at hk
      · cases hx : expL (exp1 h d) _ <;> rw [hx] at e <;> cases e; rfl
      · split at e
        · cases hx : expL (exp1 h d) _ <;> rw [hx] at e <;> cases e; rfl
        · cases e
      · cases e; rfl
      · cases e
theorem expL_inv {f : AV → Option (AV × List Nat)} : ∀ {l l' : List AV} {ids : List Nat}, expL f l = some (l', ids) →
    l'.length = l.length ∧ (∀ (i : Nat) (x : AV), l[i]? = some x → ∃ y js, f x = some (y, js) ∧ l'[i]? = some y ∧ ∀ j ∈ js, j ∈ ids)
  | [], l', ids, e => by cases e; exact ⟨rfl, fun i x hx => by simp at hx⟩
  | x :: r, l', ids, e => by
    unfold expL at e
    split at e
    · rename_i y i0 l1 j0 h1 h2
      cases e
      obtain ⟨a1, a2⟩ := expL_inv h2
      refine ⟨by simp [a1], fun i z hz => ?_⟩
      cases i with
      | zero => cases hz; exact ⟨y, i0, h1, rfl, fun j hj => List.mem_append_left _ hj⟩
      | succ n =>
        obtain ⟨y', js, b1, b2, b3⟩ := a2 n z (by simpa using hz)
        exact ⟨y', js, b1, by simpa using b2, fun j hj => List.mem_append_right _ (b3 j hj)⟩
    · cases e
/-- An element as a value. -/
theorem elem_value {e : AV} {k : Nat} {vals : Nat → Value} (hk : okVal e = true) (hl : e.cells.length = k) (hc : ∀ (j : Nat) (c : AV), e.cells[j]? = some c → isCell c = true ∧ V w O γ c (vals j)) :
    ∃ u, V w O γ e u ∧ ∀ j, j < k → u.cells[j]? = some (vals j) := by
  cases e with
  | agg cs =>
    refine ⟨.agg ((List.range k).map vals).toArray, .agg cs _ (by have : cs.length = k := hl; simpa using this) (fun i c hi => (hc i c hi).1) (fun i c v hi hu => ?_), fun j hj => by simp [Value.cells, hj]⟩
    have hi' : i < k := by have := (List.getElem?_eq_some_iff.1 hi).1; have hl' : cs.length = k := hl; omega
    simp [hi'] at hu; subst hu
    exact (hc i c hi).2
  | tup _ => simp [okVal] at hk
  | _ =>
    have hk1 : k = 1 := by rw [← hl]; rfl
    subst hk1
    have h0 := hc 0 _ rfl
    refine ⟨vals 0, h0.2, fun j hj => ?_⟩
    obtain rfl : j = 0 := by omega
    rw [(h0.2.cell_one h0.1).2.1]; rfl
/-- A row, its elements told anew. -/
theorem slc_exp {f : AV → Option (AV × List Nat)} {es es' : List AV} {ids : List Nat} {b o cap k : Nat} {vals : Nat → Nat → Value} (he : expL f es = some (es', ids)) (hcap : es.length ≤ cap)
    (hk : ∀ (i : Nat) (e : AV), es[i]? = some e → okVal e = true ∧ e.cells.length = k)
    (hc : ∀ (i j : Nat) (e c : AV), es[i]? = some e → e.cells[j]? = some c → isCell c = true ∧ ¬ O' b ∧ w.cell? ⟨b, o + i * k + j, none⟩ = some (vals i j))
    (hv : ∀ (i j : Nat) (e c : AV), es[i]? = some e → e.cells[j]? = some c → V w O γ c (vals i j))
    (hf : ∀ (i : Nat) (e e' : AV) (js : List Nat) (u : Value), es[i]? = some e → f e = some (e', js) → (∀ j ∈ js, j ∈ ids) → V w O γ e u → V w O' γ' e' u)
    (hok : ∀ (e e' : AV) (js : List Nat), f e = some (e', js) → okVal e = true → okVal e' = true) :
    V w O' γ' (.slc false es') (.slice (some ⟨b, o, none⟩) es.length cap) := by
  obtain ⟨hl, hmap⟩ := expL_inv he
  have key : ∀ (i : Nat) (e' : AV), es'[i]? = some e' → ∃ e u, es[i]? = some e ∧ V w O' γ' e' u ∧ okVal e' = true ∧ ∀ j, j < k → u.cells[j]? = some (vals i j) := by
    intro i e' hi
    have hlt : i < es.length := by have := (List.getElem?_eq_some_iff.1 hi).1; omega
    have hei : es[i]? = some es[i] := List.getElem?_eq_getElem hlt
    obtain ⟨y, js, h1, h2, h3⟩ := hmap i _ hei
    rw [hi] at h2; cases h2
    obtain ⟨hk1, hk2⟩ := hk i _ hei
    obtain ⟨u, hu, hcu⟩ := elem_value (vals := vals i) hk1 hk2 fun j c hj => ⟨(hc i j _ c hei hj).1, hv i j _ c hei hj⟩
    exact ⟨_, u, hei, hf i _ _ js u hei h1 h3 hu, hok _ _ _ h1 hk1, hcu⟩
  rw [← hl]
  have cells : ∀ (i j : Nat) (e' c : AV), es'[i]? = some e' → e'.cells[j]? = some c → j < k ∧ isCell c = true ∧ V w O' γ' c (vals i j) ∧ ∃ e c0, es[i]? = some e ∧ e.cells[j]? = some c0 := by
    intro i j e' c hi hj
    obtain ⟨e, u, h1, h2, h3, h4⟩ := key i e' hi
    have hcv := h2.cv h3
    have hek := (hk i e h1).2
    have hul : u.cells.size = k ∨ j < u.cells.size := .inr (by rw [← hcv.1]; exact (List.getElem?_eq_some_iff.1 hj).1)
    have hjs : j < u.cells.size := by rw [← hcv.1]; exact (List.getElem?_eq_some_iff.1 hj).1
    have hjk : j < k := by
      -- the value has as many cells as the element
      have : e'.cells.length = e.cells.length := by
        obtain ⟨u0, hu0, hcu0⟩ := elem_value (vals := vals i) (hk i e h1).1 hek fun j c hj => ⟨(hc i j _ c h1 hj).1, hv i j _ c h1 hj⟩
        obtain ⟨y, js, f1, f2, f3⟩ := hmap i _ h1
        rw [hi] at f2; cases f2
        have v1 := hf i _ _ js u0 h1 f1 f3 hu0
        rw [(v1.cv h3).1, ← (hu0.cv (hk i e h1).1).1]
      rw [← hek, ← this]; exact (List.getElem?_eq_some_iff.1 hj).1
    have hje : j < e.cells.length := by omega
    exact ⟨hjk, hcv.2.1 j c hj, hcv.2.2 j c _ hj (h4 j hjk), e, e.cells[j], h1, List.getElem?_eq_getElem hje⟩
  refine .slc false es' b o cap k vals (by omega) (fun hf => by cases hf) (fun i e' hi => ?_) (fun i j e' c hi hj => ?_) (fun i j e' c hi hj => (cells i j e' c hi hj).2.2.1)
  · obtain ⟨e, u, h1, h2, h3, h4⟩ := key i e' hi
    refine ⟨h3, ?_⟩
    obtain ⟨u0, hu0, hcu0⟩ := elem_value (vals := vals i) (hk i e h1).1 (hk i e h1).2 fun j c hj => ⟨(hc i j _ c h1 hj).1, hv i j _ c h1 hj⟩
    obtain ⟨y, js, f1, f2, f3⟩ := hmap i _ h1
    rw [hi] at f2; cases f2
    have v1 := hf i _ _ js u0 h1 f1 f3 hu0
    rw [(v1.cv h3).1, ← (hu0.cv (hk i e h1).1).1]; exact (hk i e h1).2
  · obtain ⟨_, h1, _, e, c0, h2, h3⟩ := cells i j e' c hi hj
    exact ⟨h1, (hc i j e c0 h2 h3).2⟩
theorem exp1_sound (r : R X h γ w) {IDS : List Nat} (hcan : canFrz h IDS = true) : ∀ (d : Nat) {a a' : AV} {ids : List Nat} {u : Value}, exp1 h d a = some (a', ids) → (∀ j ∈ ids, j ∈ IDS) →
    V w (Ow X h γ) γ a u → V w (Ow X (frzAll h IDS) γ) γ' a' u := by
  have hO : ∀ b, Ow X (frzAll h IDS) γ b → Ow X h γ b := fun b ho => ho.imp (fun e => e) (own_frzAll IDS)
  intro d
  induction d with
  | zero =>
    intro a a' ids u e _ hv
    simp only [exp1] at e
    split at e
    · rename_i hs; cases e; exact hv.solid hs hO
    · cases e
  | succ d ih =>
    intro a a' ids u e hids hv
    simp only [exp1] at e
    split at e
    · rename_i hs; cases e; exact hv.solid hs hO
    · split at e
      · -- agg
        rename_i cs _
        cases hx : expL (exp1 h d) cs with
        | none => rw [hx] at e; cases e
        | some p =>
          rw [hx] at e; cases e
          obtain ⟨hl, hmap⟩ := expL_inv hx
          cases hv with
          | agg cs vs hl' hc hv =>
            have key : ∀ (i : Nat) (c' : AV), p.1[i]? = some c' → ∃ c js, cs[i]? = some c ∧ exp1 h d c = some (c', js) ∧ ∀ j ∈ js, j ∈ p.2 := by
              intro i c' hi
              have hlt : i < cs.length := by have := (List.getElem?_eq_some_iff.1 hi).1; omega
              obtain ⟨y, js, h1, h2, h3⟩ := hmap i _ (List.getElem?_eq_getElem hlt)
              rw [hi] at h2; cases h2
              exact ⟨_, js, List.getElem?_eq_getElem hlt, h1, h3⟩
            refine .agg _ vs (by omega) (fun i c' hi => ?_) (fun i c' v hi hu => ?_)
            · obtain ⟨c, js, h1, h2, _⟩ := key i c' hi
              exact exp1_isCell h2 (hc i c h1)
            · obtain ⟨c, js, h1, h2, h3⟩ := key i c' hi
              exact ih h2 (fun j hj => hids j (h3 j hj)) (hv i c v h1 hu)
      · -- tup
        rename_i cs _
        cases hx : expL (exp1 h d) cs with
        | none => rw [hx] at e; cases e
        | some p =>
          rw [hx] at e; cases e
          obtain ⟨hl, hmap⟩ := expL_inv hx
          cases hv with
          | tup cs vs hl' hv =>
            refine .tup _ vs (by omega) (fun i c' v hi hu => ?_)
            have hlt : i < cs.length := by have := (List.getElem?_eq_some_iff.1 hi).1; omega
            obtain ⟨y, js, h1, h2, h3⟩ := hmap i _ (List.getElem?_eq_getElem hlt)
            rw [hi] at h2; cases h2
            exact ih h1 (fun j hj => hids j (h3 j hj)) (hv i _ v (List.getElem?_eq_getElem hlt) hu)
      · -- slc
        rename_i full es _
        cases hx : expL (exp1 h d) es with
        | none => rw [hx] at e; cases e
        | some p =>
          rw [hx] at e; cases e
          cases hv with
          | slc0 full a0 => cases hx; exact .slc0 false a0
          | slc full es b o cap k vals hcap hfull hk hc hv =>
            exact slc_exp hx hcap hk (fun i j e c he hj => ⟨(hc i j e c he hj).1, fun ho => (hc i j e c he hj).2.1 (hO _ ho), (hc i j e c he hj).2.2⟩) hv
              (fun i e e' js u _ he hjs hu => ih he (fun j hj => hids j (hjs j hj)) hu) (fun e e' js he hk => exp1_okVal he hk)
      · -- arr
        rename_i id off len g k _
        split at e
        · rename_i es hview
          cases hx : expL (exp1 h d) es with
          | none => rw [hx] at e; cases e
          | some p =>
            rw [hx] at e; cases e
            have hidm : id ∈ IDS := hids id (by simp)
            have hids' : ∀ j ∈ p.2, j ∈ IDS := fun j hj => hids j (by simp [hj])
            obtain ⟨a0, cap, rfl, hcap, hh⟩ := sview_sound r hv hview
            rcases hh with rfl | ⟨b, o, k', rfl, hr⟩
            · cases hx
              cases hv with
              | arr _ _ _ _ _ b o cap o' _ _ _ _ => exact .slc false [] b o' cap 0 (fun _ _ => undef) (Nat.zero_le _) (fun h => by cases h) (fun i e hi => by simp at hi) (fun i j e c hi => by simp at hi) (fun i j e c hi => by simp at hi)
            · -- the block is nobody's
              have hnot : ∀ (i j : Nat) (e c : AV), es[i]? = some e → e.cells[j]? = some c → ¬ Ow X (frzAll h IDS) γ b := by
                intro i j e c he hj
                cases hv with
                | arr _ _ _ _ _ b o1 cap o' hg hcap' ho hrow =>
                  have hcan1 := List.all_eq_true.1 hcan id hidm
                  cases hid : hget h id with
                  | arr k1 es1 g1 =>
                    simp only [sview, hid] at hview
                    split at hview
                    · rename_i hc; obtain ⟨_, rfl, _⟩ := hc
                      exact frz_not_own r hidm hid hg
                    · cases hview
                  | frz k1 es1 g1 =>
                    simp only [sview, hid] at hview
                    split at hview
                    · rename_i hc; obtain ⟨_, rfl, _⟩ := hc
                      have hview := Option.some.inj hview
                      obtain ⟨_, hn⟩ := r.frz hid hg
                      rw [← hview] at he
                      exact fun ho => hn _ _ _ _ (take_drop_get he).2 hj (hO _ ho)
                    · cases hview
                  | vars _ => rw [hid] at hcan1; cases hcan1
                  | dead => rw [hid] at hcan1; cases hcan1
                  | map _ _ => rw [hid] at hcan1; cases hcan1
                  | iter _ _ _ _ => rw [hid] at hcan1; cases hcan1
              refine slc_exp (vals := fun i j => (w.cell? ⟨b, o + i * k' + j, none⟩).getD undef) hx hcap hr.1 (fun i j e c he hj => ?_) (fun i j e c he hj => ?_)
                (fun i e e' js u _ he hjs hu => ih he (fun j hj => hids' j (hjs j hj)) hu) (fun e e' js he hk => exp1_okVal he hk)
              · obtain ⟨h1, v, h2, h3⟩ := hr.2 i j e c he hj
                exact ⟨h1, hnot i j e c he hj, by rw [h2]; rfl⟩
              · obtain ⟨h1, v, h2, h3⟩ := hr.2 i j e c he hj
                rw [h2]; exact h3
        · cases e
      · rename_i f _
        cases e
        cases hv with
        | clo f first caps fs cs hf hc hvf hvc => exact .clo f [] [] fs cs hf hc (fun i c v hi => by simp at hi) (fun i c v hi => by simp at hi)
      · cases e
end
end Go.Ab
namespace Go.Ab
section
variable {P : Program} {X O O' : Nat → Prop} {h h' : AHeap} {γ γ' : Ghost} {w w' : World}

/-! ### What is new is forgotten -/
theorem belowL_mem {n : Nat} : ∀ {cs : List AV}, belowL n cs = true → ∀ c ∈ cs, below n c = true
  | [], _, _, hc => by cases hc
  | x :: r, hs, c, hc => by
    simp only [belowL, Bool.and_eq_true] at hs
    rcases List.mem_cons.1 hc with rfl | hc
    · exact hs.1
    · exact belowL_mem hs.2 c hc
theorem belowL_of {n : Nat} : ∀ {cs : List AV}, (∀ (i : Nat) (c : AV), cs[i]? = some c → below n c = true) → belowL n cs = true
  | [], _ => rfl
  | x :: r, h => by
    simp only [belowL, Bool.and_eq_true]
    exact ⟨h 0 x rfl, belowL_of fun i c hi => h (i + 1) c (by simpa using hi)⟩
theorem below_elem {n k : Nat} {e : AV} (_ : e.cells.length = k) (hc : ∀ (j : Nat) (c : AV), e.cells[j]? = some c → below n c = true) (hk : okVal e = true) : below n e = true := by
  cases e with
  | agg cs => simp only [below]; exact belowL_of hc
  | tup _ => simp [okVal] at hk
  | _ => exact hc 0 _ rfl
theorem below_cells {n : Nat} {e : AV} (hs : below n e = true) {j : Nat} {c : AV} (hj : e.cells[j]? = some c) : below n c = true := by
  cases e with
  | agg cs => exact belowL_mem (cs := cs) (by simpa [below] using hs) c (List.mem_of_getElem? hj)
  | _ =>
    have hm := List.mem_of_getElem? hj
    simp only [AV.cells, List.mem_singleton] at hm
    subst hm; exact hs
theorem V.isBelow {n : Nat} {a : AV} {v : Value} (hv : V w O γ a v) (hd : ∀ id g p, γ id g = some p → id < n) : Ab.below n a = true := by
  induction hv with
  | unk v => rfl
  | val v => rfl
  | agg cs vs hl hc _ ih =>
    simp only [Ab.below]
    exact belowL_of fun i c hi => by
      have hlt : i < vs.size := by rw [← hl]; exact (List.getElem?_eq_some_iff.1 hi).1
      exact ih i c vs[i] hi (by simp [hlt])
  | tup cs vs hl _ ih =>
    simp only [Ab.below]
    exact belowL_of fun i c hi => by
      have hlt : i < vs.size := by rw [← hl]; exact (List.getElem?_eq_some_iff.1 hi).1
      exact ih i c vs[i] hi (by simp [hlt])
  | slc0 full a0 => rfl
  | slc full es b o cap k vals hcap hfull hk hc _ ih =>
    simp only [Ab.below]
    exact belowL_of fun i e hi => below_elem (hk i e hi).2 (fun j c hj => ih i j e c hi hj) (hk i e hi).1
  | sptr cs off b o vals hc _ ih => simp only [Ab.below]; exact belowL_of fun i c hi => ih i c hi
  | ptr id off b o hg => simp only [Ab.below, decide_eq_true_eq]; exact hd _ _ _ hg
  | eptr id g k idx off b o hg => simp only [Ab.below, decide_eq_true_eq]; exact hd _ _ _ hg
  | arr id off len g k b o cap o' hg _ _ _ => simp only [Ab.below, decide_eq_true_eq]; exact hd _ _ _ hg
  | mp id b hg => simp only [Ab.below, decide_eq_true_eq]; exact hd _ _ _ hg
  | emp a cap => rfl
  | clo f first caps fs cs hf hc _ _ ih1 ih2 =>
    simp only [Ab.below, Bool.and_eq_true]
    refine ⟨belowL_of fun i c hi => ?_, belowL_of fun i c hi => ?_⟩
    · have hlt : i < fs.size := by rw [← hf]; exact (List.getElem?_eq_some_iff.1 hi).1
      exact ih1 i c fs[i] hi (by simp [hlt])
    · have hlt : i < cs.size := by rw [← hc]; exact (List.getElem?_eq_some_iff.1 hi).1
      exact ih2 i c cs[i] hi (by simp [hlt])
def Ghost.upto (γ : Ghost) (n : Nat) : Ghost := fun id g => if id < n then γ id g else none
theorem upto_some {n id g : Nat} {p : Nat × Nat} (e : γ.upto n id g = some p) : id < n ∧ γ id g = some p := by
  unfold Ghost.upto at e
  split at e
  · rename_i hl; exact ⟨hl, e⟩
  · cases e
theorem upto_of {n id g : Nat} {p : Nat × Nat} (hl : id < n) (e : γ id g = some p) : γ.upto n id g = some p := by
  unfold Ghost.upto; rw [if_pos hl]; exact e
theorem V.upto {n : Nat} {a : AV} {v : Value} (hv : V w O γ a v) (hb : Ab.below n a = true) (hO : ∀ b, O' b → O b) : V w O' (γ.upto n) a v := by
  induction hv with
  | unk v => exact .unk v
  | val v => exact .val v
  | agg cs vs hl hc _ ih => exact .agg cs vs hl hc fun i c v hi hu => ih i c v hi hu (belowL_mem (by simpa [Ab.below] using hb) c (List.mem_of_getElem? hi))
  | tup cs vs hl _ ih => exact .tup cs vs hl fun i c v hi hu => ih i c v hi hu (belowL_mem (by simpa [Ab.below] using hb) c (List.mem_of_getElem? hi))
  | slc0 full a0 => exact .slc0 full a0
  | slc full es b o cap k vals hcap hfull hk hc _ ih =>
    have hes : belowL n es = true := by simpa [Ab.below] using hb
    exact .slc full es b o cap k vals hcap hfull hk (fun i j e c he hj => ⟨(hc i j e c he hj).1, fun ho => (hc i j e c he hj).2.1 (hO _ ho), (hc i j e c he hj).2.2⟩)
      fun i j e c he hj => ih i j e c he hj (below_cells (belowL_mem hes e (List.mem_of_getElem? he)) hj)
  | sptr cs off b o vals hc _ ih =>
    have hes : belowL n cs = true := by simpa [Ab.below] using hb
    exact .sptr cs off b o vals (fun j c hj => ⟨(hc j c hj).1, fun ho => (hc j c hj).2.1 (hO _ ho), (hc j c hj).2.2⟩) fun j c hj => ih j c hj (belowL_mem hes c (List.mem_of_getElem? hj))
  | ptr id off b o hg => exact .ptr id off b o (upto_of (by simpa [Ab.below] using hb) hg)
  | eptr id g k idx off b o hg => exact .eptr id g k idx off b o (upto_of (by simpa [Ab.below] using hb) hg)
  | arr id off len g k b o cap o' hg hcap ho hrow => exact .arr id off len g k b o cap o' (upto_of (by simpa [Ab.below] using hb) hg) hcap ho hrow
  | emp a cap => exact .emp a cap
  | mp id b hg => exact .mp id b (upto_of (by simpa [Ab.below] using hb) hg)
  | clo f first caps fs cs hf hc _ _ ih1 ih2 =>
    simp only [Ab.below, Bool.and_eq_true] at hb
    exact .clo f first caps fs cs hf hc (fun i c v hi hu => ih1 i c v hi hu (belowL_mem hb.1 c (List.mem_of_getElem? hi))) (fun i c v hi hu => ih2 i c v hi hu (belowL_mem hb.2 c (List.mem_of_getElem? hi)))
theorem OkObj.below {n id : Nat} {o : AObj} (hk : OkObj w O γ id o) (hd : ∀ id g p, γ id g = some p → id < n) : belowO n o = true := by
  cases o with
  | dead => rfl
  | vars cs => obtain ⟨b, p, _, _, h3⟩ := hk; exact belowL_of fun i c hi => by obtain ⟨_, v, _, hv⟩ := h3 i c hi; exact hv.isBelow hd
  | arr k es g =>
    obtain ⟨b, p, _, _, h3⟩ := hk
    exact belowL_of fun i e hi => below_elem (h3.1 i e hi).2 (fun j c hj => by obtain ⟨_, v, _, hv⟩ := h3.2 i j e c hi hj; exact hv.isBelow hd) (h3.1 i e hi).1
  | frz k es g =>
    obtain ⟨b, p, _, h3, _⟩ := hk
    exact belowL_of fun i e hi => below_elem (h3.1 i e hi).2 (fun j c hj => by obtain ⟨_, v, _, hv⟩ := h3.2 i j e c hi hj; exact hv.isBelow hd) (h3.1 i e hi).1
  | map es c =>
    obtain ⟨b, _, xs, _, h3⟩ := hk
    simp only [belowO, List.all_eq_true, Bool.and_eq_true]
    intro e he
    obtain ⟨i, hi⟩ := List.mem_iff_getElem?.1 he
    have hlt : i < xs.size := by rw [← h3.1]; exact (List.getElem?_eq_some_iff.1 hi).1
    obtain ⟨_, _, _, k4, k5⟩ := h3.2 i e xs[i] hi (by simp [hlt])
    exact ⟨k4.isBelow hd, k5.isBelow hd⟩
  | iter m s l n =>
    obtain ⟨b, _, mm, _, h3⟩ := hk
    cases m with
    | none => rfl
    | some i => obtain ⟨b', hg, _⟩ := h3; simp only [belowO, decide_eq_true_eq]; exact hd _ _ _ hg
theorem OkObj.upto {n id : Nat} {o : AObj} (hk : OkObj w O γ id o) (hb : belowO n o = true) (hl : id < n) (hO : ∀ b, O' b → O b) : OkObj w O' (γ.upto n) id o := by
  cases o with
  | dead => trivial
  | vars cs =>
    obtain ⟨b, p, h1, h2, h3⟩ := hk
    refine ⟨b, p, upto_of hl h1, h2, fun j c hj => ?_⟩
    obtain ⟨k1, v, k2, k3⟩ := h3 j c hj
    exact ⟨k1, v, k2, k3.upto (belowL_mem hb c (List.mem_of_getElem? hj)) hO⟩
  | arr k es g =>
    obtain ⟨b, p, h1, h2, h3⟩ := hk
    refine ⟨b, p, upto_of hl h1, h2, h3.1, fun i j e c he hj => ?_⟩
    obtain ⟨k1, v, k2, k3⟩ := h3.2 i j e c he hj
    exact ⟨k1, v, k2, k3.upto (below_cells (belowL_mem hb e (List.mem_of_getElem? he)) hj) hO⟩
  | frz k es g =>
    obtain ⟨b, p, h1, h3, h4⟩ := hk
    refine ⟨b, p, upto_of hl h1, ⟨h3.1, fun i j e c he hj => ?_⟩, fun i j e c he hj ho => h4 i j e c he hj (hO _ ho)⟩
    obtain ⟨k1, v, k2, k3⟩ := h3.2 i j e c he hj
    exact ⟨k1, v, k2, k3.upto (below_cells (belowL_mem hb e (List.mem_of_getElem? he)) hj) hO⟩
  | map es c =>
    obtain ⟨b, h1, xs, h2, h3⟩ := hk
    simp only [belowO, List.all_eq_true, Bool.and_eq_true] at hb
    refine ⟨b, upto_of hl h1, xs, h2, h3.1, fun i e x he hx => ?_⟩
    obtain ⟨k1, k2, k3, k4, k5⟩ := h3.2 i e x he hx
    have := hb e (List.mem_of_getElem? he)
    exact ⟨k1, k2, k3, k4.upto this.1 hO, k5.upto this.2 hO⟩
  | iter m s l n =>
    obtain ⟨b, h1, mm, h2, h3⟩ := hk
    refine ⟨b, upto_of hl h1, mm, h2, ?_⟩
    cases m with
    | none => exact h3
    | some i => obtain ⟨b', hg, e⟩ := h3; exact ⟨b', upto_of (by simpa [belowO] using hb) hg, e⟩
theorem hget_take {n id : Nat} : hget (h.take n) id = if id < n then hget h id else .dead := by
  simp only [hget, List.getD, List.getElem?_take]
  split <;> rfl
theorem forget (r : R X h γ w) {h0 : AHeap} {γ0 : Ghost} (g : Goes X h γ w h0 γ0 w') (hgc : GcOk h.length h h0) {a : AV} {v : Value} (hb : below h.length a = true) (hv : V w' (Ow X h0 γ0) γ0 a v) :
    Goes X h γ w (h0.take h.length) (γ0.upto h.length) w' ∧ V w' (Ow X (h0.take h.length) (γ0.upto h.length)) (γ0.upto h.length) a v := by
  have hown : ∀ b, Own (h0.take h.length) (γ0.upto h.length) b → Own h0 γ0 b := by
    rintro b ⟨id, g', p, e1, e2⟩
    rw [hget_take] at e1
    split at e1
    · exact ⟨id, g', p, e1, (upto_some e2).2⟩
    · cases e1
  have hO : ∀ b, Ow X (h0.take h.length) (γ0.upto h.length) b → Ow X h0 γ0 b := fun b ho => ho.imp (fun e => e) (hown b)
  refine ⟨⟨⟨?_, ?_, ?_, ?_, ?_, g.rel.xin, ?_⟩, ?_, g.step, fun b hb ho => g.fresh b hb (hown b ho)⟩, hv.upto hb hO⟩
  · intro id g' p e
    obtain ⟨hl, e⟩ := upto_some e
    have := g.rel.dom _ _ _ e
    simp; omega
  · intro id k es g1 g' p e1 e2
    rw [hget_take] at e1
    split at e1
    · exact g.rel.gens id k es g1 g' p e1 (upto_some e2).2
    · cases e1
  · intro id
    rw [hget_take]
    split
    · rename_i hl
      refine (g.rel.obj id).upto ?_ hl hO
      rcases hgc id hl with e | e
      · have : hget h0 id = hget h id := by simp [hget, List.getD, e]
        rw [this]
        exact (r.obj id).below r.dom
      · exact e
    · trivial
  · intro id id' g1 g2 b p p' e1 e2 e3 e4
    rw [hget_take] at e1 e3
    split at e1
    · split at e3
      · exact g.rel.inj _ _ _ _ _ _ _ e1 (upto_some e2).2 e3 (upto_some e4).2
      · cases e3
    · cases e1
  · intro b ho; exact g.rel.apart b (hown b ho)
  · intro id g' p e
    obtain ⟨hl, e⟩ := upto_some e
    rw [hget_take, if_pos hl]; exact g.rel.dd _ _ _ e
  · intro id g' p e
    exact upto_of (r.dom _ _ _ e) (g.ext _ _ _ e)

/-! ### Calls -/
def Answers (P : Program) (X : Nat → Prop) (h : AHeap) (γ : Ghost) (w : World) (f : FuncId) (vs : Array Value) (r : AV) (h' : AHeap) : Prop :=
  Calls P f vs w fun e w' => ∃ v γ', e = .returned v ∧ Goes X h γ w h' γ' w' ∧ V w' (Ow X h' γ') γ' r v
def CallOk (P : Program) (call : CallF) : Prop :=
  ∀ (f : FuncId) (args : List AV) (h : AHeap) (r : AV) (h' : AHeap) (X : Nat → Prop) (γ : Ghost) (w : World) (vs : Array Value),
    call f args h = some (r, h') → R X h γ w → VA w (Ow X h γ) γ args vs → Answers P X h γ w f vs r h'
/-- The memory of a call that is handed values alone: none of ours. -/
theorem empty_R (hx : ∀ b, X b → b < w.heap.size) : R X [] (fun _ _ => none) w :=
  ⟨fun id g p e => (by cases e), fun id k es g g' p e => (by cases e), fun id => trivial, fun id id' g g' b o o' e => (by cases e), fun b ⟨id, g, o, e, _⟩ => (by cases e), hx, fun id g p e => (by cases e)⟩
theorem own_nil {b : Nat} : ¬ Own [] γ b := fun ⟨id, g, o, e, _⟩ => by cases e
theorem VA.exp (r : R X h γ w) {IDS : List Nat} (hcan : canFrz h IDS = true) {d : Nat} {as as' : List AV} {ids : List Nat} {vs : Array Value} (e : expL (exp1 h d) as = some (as', ids)) (hids : ∀ j ∈ ids, j ∈ IDS)
    (hv : VA w (Ow X h γ) γ as vs) : VA w (Ow X (frzAll h IDS) γ) γ' as' vs := by
  obtain ⟨hl, hmap⟩ := expL_inv e
  refine ⟨by rw [hl]; exact hv.1, fun i a v ha hu => ?_⟩
  have hlt : i < as.length := by have := (List.getElem?_eq_some_iff.1 ha).1; omega
  obtain ⟨y, js, h1, h2, h3⟩ := hmap i _ (List.getElem?_eq_getElem hlt)
  rw [ha] at h2; cases h2
  exact exp1_sound r hcan d h1 (fun j hj => hids j (h3 j hj)) (hv.2 i _ v (List.getElem?_eq_getElem hlt) hu)
theorem doCall0_sound {md : FuncId → Nat} {call : CallF} (hc : CallOk P call) {f : FuncId} {args : List AV} {r : AV} {vs : Array Value} (e : doCall0 md call f args h = some (r, h')) (hr : R X h γ w) (hv : VA w (Ow X h γ) γ args vs) :
    Answers P X h γ w f vs r h' := by
  unfold doCall0 at e
  split at e
  · -- by value
    split at e
    · rename_i as ids hexp
      split at e
      · rename_i hcan
        split at e
        · rename_i r' hpure
          cases e
          unfold pureRes at hpure
          split at hpure
          · rename_i r0 h1 hcall
            split at hpure
            · rename_i r1 ids1 hexp1
              split at hpure
              · rename_i hcan1
                cases hpure
                have hR0 : R (Ow X (frzAll h ids) γ) [] (fun _ _ => none) w := empty_R fun b ho => by
                  rcases ho with hx | ho
                  · exact hr.xin b hx
                  · exact hr.own_lt (own_frzAll ids ho)
                have hva : VA w (Ow (Ow X (frzAll h ids) γ) [] (fun _ _ => none)) (fun _ _ => none) as vs := by
                  have := VA.exp (γ' := fun _ _ => none) hr hcan hexp (fun j hj => hj) hv
                  refine this.mono ⟨fun _ _ _ e => e, fun b off v hO hv => ⟨fun ho => ?_, hv⟩, fun _ c _ z hh => ⟨c, z, hh, rfl⟩⟩
                  rcases ho with ho | ho
                  · exact hO ho
                  · exact own_nil ho
                refine (hc f as [] r0 h1 _ _ w vs hcall hR0 hva).mono ?_
                rintro e w' ⟨v, γ1, rfl, hg, hv1⟩
                have hstep : Step w w' (fun _ => False) := ⟨hg.step.os, hg.step.tape, hg.step.output, hg.step.size, fun b hb _ => hg.step.keep b hb own_nil, hg.step.row⟩
                have hv2 : V w' (Ow X (frzAll h ids) γ) γ r v := by
                  have := exp1_sound (γ' := γ) hg.rel hcan1 expDepth hexp1 (fun j hj => hj) hv1
                  exact this.mono ⟨fun _ _ _ e => e, fun b off v hO hv => ⟨fun ho => hO (.inl ho), hv⟩, fun _ c _ z hh => ⟨c, z, hh, rfl⟩⟩
                by_cases hfl : flat r = true
                · rw [if_pos hfl]
                  exact ⟨v, γ, rfl, quiet_goes hr hstep, flat_V hv2 hfl⟩
                · rw [if_neg hfl]
                  exact ⟨v, γ, rfl, (frzAll_goes hr ids).trans (quiet_goes (frzAll_R ids hr) hstep), hv2⟩
              · cases hpure
            · cases hpure
          · cases hpure
        · cases e
      · cases e
    · cases e
  · -- by reference
    split at e
    · rename_i r0 h0 hcall
      have hA : Answers P X h γ w f vs r0 h0 := by
        unfold rated at hcall
        split at hcall
        · split at hcall
          · rename_i r1 h1 hcall1
            split at hcall
            · rename_i r2 ids hexp
              split at hcall
              · rename_i hcan
                cases hcall
                refine (hc f args h r1 h1 X γ w vs hcall1 hr hv).mono ?_
                rintro e w' ⟨v, γ1, rfl, hg, hv1⟩
                exact ⟨v, γ1, rfl, hg.trans (frzAll_goes hg.rel ids), exp1_sound hg.rel hcan expDepth hexp (fun j hj => hj) hv1⟩
              · cases hcall
            · cases hcall
          · cases hcall
        · exact hc f args h r0 h0 X γ w vs hcall hr hv
      split at e
      · rename_i hgc; obtain ⟨hb, hgc⟩ := hgc
        cases e
        refine hA.mono ?_
        rintro e w' ⟨v, γ1, rfl, hg, hv1⟩
        obtain ⟨k1, k2⟩ := forget hr hg hgc hb hv1
        exact ⟨v, _, rfl, k1, k2⟩
      · cases e; exact hA
    · cases e
theorem bothK_inv {x y : Option (AV × AHeap)} {r : AV × AHeap} (e : bothK x y = some r) : x = some r ∧ y = some r := by
  unfold bothK at e
  split at e
  · split at e
    · split at e
      · rename_i h; cases e; exact ⟨rfl, by rw [← h]⟩
      · cases e
    · cases e
  · cases e
theorem doCall_sound {md : FuncId → Nat} {call : CallF} (hc : CallOk P call) {f : FuncId} {args : List AV} {r : AV} {vs : Array Value} (e : doCall md call f args h = some (r, h')) (hr : R X h γ w) (hv : VA w (Ow X h γ) γ args vs) :
    Answers P X h γ w f vs r h' := by
  unfold doCall at e
  split at e
  · rename_i as bs hsp
    obtain ⟨e1, e2⟩ := bothK_inv e
    unfold splitNil at hsp
    split at hsp
    · split at hsp
      · rename_i full rest
        cases hsp
        have hlt : 0 < vs.size := by rw [← hv.1]; simp
        have h0 := hv.2 0 (.slc full []) vs[0] rfl (by simp [hlt])
        have rep : ∀ {a : AV}, V w (Ow X h γ) γ a vs[0] → VA w (Ow X h γ) γ (a :: rest) vs := by
          intro a ha
          refine ⟨by simpa using hv.1, fun i x v hx hv' => ?_⟩
          cases i with
          | zero =>
            cases hx
            rw [Array.getElem?_eq_getElem hlt] at hv'
            cases hv'; exact ha
          | succ n => exact hv.2 (n + 1) x v (by simpa using hx) hv'
        generalize vs[0] = v0 at h0 rep
        cases h0 with
        | slc0 _ a =>
          cases a with
          | none => exact hc f _ h r h' X γ w vs e1 hr (rep (.val _))
          | some a => exact hc f _ h r h' X γ w vs e2 hr (rep (.emp _ _))
        | slc _ _ b o cap k vals _ _ _ _ _ => exact hc f _ h r h' X γ w vs e2 hr (rep (.emp _ _))
      · cases hsp
    · cases hsp
  · exact doCall0_sound hc e hr hv
end
end Go.Ab
namespace Go.Ab
section
variable {P : Program} {md : FuncId → Nat} {fg : FuncId → Nat → List Bool} {M : Nat → List Bool} {X O : Nat → Prop} {h h' : AHeap} {γ γ' : Ghost} {w w' : World}

def vBool : Value → Option Bool
  | .bool b => some b
  | _ => none
theorem yielded_eq (ops : Array Oper) (tmps : Array Value) (j : Nat) : yielded ops tmps j = ((ops[j]?).bind (·.dst)).bind fun d => vBool (tmps.getD d undef) := by
  unfold yielded
  cases hd : (ops[j]?).bind (·.dst) with
  | none => rfl
  | some d =>
    simp only [Option.bind_some]
    by_cases hl : d < tmps.size
    · have e1 : tmps[d]? = some (tmps.getD d undef) := by simp [hl]
      rw [e1]
      cases tmps.getD d undef <;> rfl
    · have e1 : tmps[d]? = none := Array.getElem?_eq_none (Nat.le_of_not_lt hl)
      have e2 : tmps.getD d undef = undef := by simp [Array.getD, hl]
      rw [e1, e2]; rfl
theorem guard_eq {ops : Array Oper} {env : Env} {a : Act} (he : VA w O γ env a.tmps) {o : Oper} {b : Bool} (h : aguard ops env o = some b) : Region.wanted o (yielded ops a.tmps) = b := by
  unfold aguard at h
  unfold Region.wanted
  cases hg : o.guard with
  | none => rw [hg] at h; cases h; rfl
  | some p =>
    obtain ⟨j, want⟩ := p
    rw [hg] at h
    dsimp only at h ⊢
    rw [yielded_eq]
    cases hd : (ops[j]?).bind (·.dst) with
    | none => rw [hd] at h; cases h; rfl
    | some d =>
      rw [hd] at h
      dsimp only [Option.bind_some] at h ⊢
      have hv := he.get d
      generalize env.getD d .und = av at h hv
      generalize a.tmps.getD d undef = u at hv
      cases hv with
      | unk v => cases h
      | val _ => cases u <;> cases h <;> rfl
      | _ => cases h; rfl
theorem VA.put {env : Env} {a : Act} (he : VA w O γ env a.tmps) {v : AV} {u : Value} (hv : V w O γ v u) (d : Option Tmp) : VA w O γ (aput env d v) (a.put d u).tmps := by
  cases d with
  | none => exact he
  | some d => exact he.set hv d
theorem put_defers (a : Act) (d : Option Tmp) (u : Value) : (a.put d u).defers = a.defers := by cases d <;> rfl
/-- One operation, and what follows. -/
theorem step_sound {call : CallF} (hc : CallOk P call) (r : R X h γ w) {env : Env} {a : Act} (he : VA w (Ow X h γ) γ env a.tmps) {o : Oper} {v : AV} (e : astep P md call env h o = some (v, h')) {K : Act → World → Prop} {Q : Exit → Act → World → Prop}
    (hK : ∀ u w' γ', Goes X h γ w h' γ' w' → V w' (Ow X h' γ') γ' v u → K (a.put o.dst u) w') : o.wp P a w K Q := by
  unfold astep at e
  split at e
  · rename_i v' h1 hop
    cases e
    obtain ⟨u, w', γ', h1, h2, h3⟩ := op_value r he hop
    unfold Oper.wp
    rcases h1 with h1 | ⟨h1, rfl⟩
    · rw [h1, Oper.upon_value]; exact hK u w' γ' h2 h3
    · rw [h1, Oper.upon_skip]; exact hK undef w' γ' h2 h3
  · rename_i f args h1 hop
    obtain ⟨rfl, _, vs, hrun, hva⟩ := op_call he hop
    unfold Oper.wp
    rw [hrun, Oper.upon_enter]
    refine (doCall_sound hc e r hva).mono ?_
    rintro e w' ⟨u, γ', rfl, h2, h3⟩
    exact hK u w' γ' h2 h3
  · cases e
theorem runOps_sound {call : CallF} (hc : CallOk P call) (ops : Array Oper) : ∀ (l : List Oper) {env env' : Env} {h h' : AHeap} {γ : Ghost} {w : World} {a : Act} {Q : Exit → Act → World → Prop},
    runOps P md call ops l env h = some (env', h') → R X h γ w → VA w (Ow X h γ) γ env a.tmps →
    (∀ a' w' γ', VA w' (Ow X h' γ') γ' env' a'.tmps → Goes X h γ w h' γ' w' → a'.defers = a.defers → Q .normal a' w') → wpList P ops Q l a w := by
  intro l
  induction l with
  | nil => intro env env' h h' γ w a Q e r he hQ; cases e; exact hQ a w γ he (Goes.refl r) rfl
  | cons o l ih =>
    intro env env' h h' γ w a Q e r he hQ
    simp only [runOps] at e
    unfold wpList
    split at e
    · rename_i hg0
      rw [if_pos (guard_eq he hg0)]
      split at e
      · rename_i v h1 hs
        refine .inl (step_sound hc r he hs fun u w' γ' hg hv => ?_)
        refine ih e hg.rel ((he.goes hg).put hv o.dst) fun a' w2 γ2 h1 h2 h3 => hQ a' w2 γ2 h1 (hg.trans h2) (by rw [h3, put_defers])
      · cases e
    · rename_i hg0
      rw [if_neg (by rw [guard_eq he hg0]; simp)]
      exact ih e r (he.put (.val _) o.dst) fun a' w2 γ2 h1 h2 h3 => hQ a' w2 γ2 h1 h2 (by rw [h3, put_defers])
    · cases e

def toExit : Ex → Exit
  | .norm => .normal
  | .exit id => .exit id
  | .ret => .ret
/-- Where the code comes to. -/
def Comes1 (X : Nat → Prop) (h : AHeap) (γ : Ghost) (w : World) (a : Act) (x : Ex) (env' : Env) (h' : AHeap) (e : Exit) (a' : Act) (w' : World) : Prop :=
  e = toExit x ∧ ∃ γ', VA w' (Ow X h' γ') γ' env' a'.tmps ∧ Goes X h γ w h' γ' w' ∧ a'.defers = a.defers
def DrawOk (P : Program) (md : FuncId → Nat) : Prop :=
  ∀ (call : CallF), CallOk P call → ∀ (ops : Array Oper) (L : Bool) (sq : List Nat) (m : Nat) (U : Nat → List Nat), (if L then drawOkG P md ops sq m U else drawOk1 P md ops false) = true → ∀ {env env' : Env} {h h' : AHeap} {γ : Ghost} {w : World} {a : Act} {X : Nat → Prop} {Q : Exit → Act → World → Prop} (id : Nat),
    (if L then runGA P md call ops sq m U env h else runDraw P md call ops ops.toList env h) = some (env', h') → R X h γ w → VA w (Ow X h γ) γ env a.tmps →
    (∀ a' w' γ', VA w' (Ow X h' γ') γ' env' a'.tmps → Goes X h γ w h' γ' w' → a'.defers = a.defers → Q .normal a' w') → (Code.region id ops true).wp P Q a w
theorem then_norm {K : Act → World → Prop} {Q : Exit → Act → World → Prop} (a : Act) (w : World) : Exit.then K Q .normal a w = K a w := rfl
theorem maskR_inv {m : List Bool} {r : RunR} {x : Ex} {env' : Env} {h' : AHeap} (e : maskR m r = some (x, env', h')) : ∃ env1, r = some (x, env1, h') ∧ env' = mask m env1 := by
  unfold maskR at e
  cases r with
  | none => cases e
  | some p => obtain ⟨a, b, c⟩ := p; cases e; exact ⟨b, rfl, rfl⟩
theorem run_sound (hd : DrawOk P md) {call : CallF} (hc : CallOk P call) (n : Nat) : ∀ (code : Code) {k : List Bool} {env env' : Env} {h h' : AHeap} {γ : Ghost} {w : World} {a : Act} {x : Ex} {X : Nat → Prop},
    run P md M call n code k env h = some (x, env', h') → drawsOk P md M code = true → R X h γ w → VA w (Ow X h γ) γ env a.tmps → code.wp P (Comes1 X h γ w a x env' h') a w := by
  intro code
  induction code with
  | skip => intro k env env' h h' γ w a x X e _ r he; cases e; exact wp_skip ⟨rfl, γ, he, Goes.refl r, rfl⟩
  | region id ops d =>
    intro k env env' h h' γ w a x X e hok r he
    simp only [run] at e
    obtain ⟨env1, e', rfl⟩ := maskR_inv e
    replace e := e'
    cases d with
    | false =>
      simp only [Bool.false_eq_true, if_false] at e
      unfold normK at e
      cases ho : runOps P md call ops ops.toList env h with
      | none => rw [ho] at e; cases e
      | some p => rw [ho] at e; cases e; exact wp_region_list (runOps_sound hc ops _ ho r he fun a' w' γ' h1 h2 h3 => ⟨rfl, γ', h1.mask _, h2, h3⟩)
    | true =>
      simp only [if_true] at e
      unfold normK at e
      cases ho : (if looseAt M id then runGA P md call ops (seqAt M id) (allocsAt M id) (unordAt M id) env h else runDraw P md call ops ops.toList env h) with
      | none => rw [ho] at e; cases e
      | some p =>
        rw [ho] at e; cases e
        exact hd call hc ops (looseAt M id) _ _ _ (by simpa only [drawsOk, Bool.not_true, Bool.false_or] using hok) id ho r he fun a' w' γ' h1 h2 h3 => ⟨rfl, γ', h1.mask _, h2, h3⟩
  | seq c1 c2 ih1 ih2 =>
    intro k env env' h h' γ w a x X e hok r he
    simp only [drawsOk, Bool.and_eq_true] at hok
    simp only [run] at e
    unfold seqK at e
    split at e
    · rename_i e1 h1 hr1
      refine wp_seq (wp_mono (ih1 hr1 hok.1 r he) ?_)
      rintro ex a' w' ⟨rfl, γ', k1, k2, k3⟩
      show c2.wp P _ a' w'
      refine wp_mono (ih2 e hok.2 k2.rel k1) ?_
      rintro ex a2 w2 ⟨rfl, γ2, m1, m2, m3⟩
      exact ⟨rfl, γ2, m1, k2.trans m2, by rw [m3, k3]⟩
    · rename_i hn
      refine wp_seq (wp_mono (ih1 e hok.1 r he) ?_)
      rintro ex a' w' ⟨rfl, γ', k1, k2, k3⟩
      cases x with
      | norm => exact absurd e (by intro e; exact hn _ _ e)
      | exit id => exact ⟨rfl, γ', k1, k2, k3⟩
      | ret => exact ⟨rfl, γ', k1, k2, k3⟩
  | cond c c1 c2 ih1 ih2 =>
    intro k env env' h h' γ w a x X e hok r he
    simp only [drawsOk, Bool.and_eq_true] at hok
    simp only [run] at e
    unfold condK at e
    split at e
    · rename_i t ht
      have hv := he.oval c
      rw [ht] at hv
      refine wp_cond (t := t) hv.val_inv ?_
      cases t with
      | true => exact ih1 e hok.1 r he
      | false => exact ih2 e hok.2 r he
    · cases e
  | block id c ih =>
    intro k env env' h h' γ w a x X e hok r he
    simp only [run] at e
    unfold blockK at e
    split at e
    · rename_i i e1 h1 hr1
      refine wp_block (wp_mono (ih hr1 hok r he) ?_)
      rintro ex a' w' ⟨rfl, γ', k1, k2, k3⟩
      show Exit.inBlock id _ (.exit i) a' w'
      simp only [Exit.inBlock]
      split at e
      · rename_i hi; cases e; rw [if_pos hi]; exact ⟨rfl, γ', k1, k2, k3⟩
      · rename_i hi; cases e; rw [if_neg hi]; exact ⟨rfl, γ', k1, k2, k3⟩
    · rename_i hn
      refine wp_block (wp_mono (ih e hok r he) ?_)
      rintro ex a' w' ⟨rfl, γ', k1, k2, k3⟩
      cases x with
      | norm => exact ⟨rfl, γ', k1, k2, k3⟩
      | exit i => exact absurd e (by intro e; exact hn _ _ _ e)
      | ret => exact ⟨rfl, γ', k1, k2, k3⟩
  | loop c ih =>
    intro k env env' h h' γ w a x X e hok r he
    simp only [run] at e
    obtain ⟨env1, e', rfl⟩ := maskR_inv e
    replace e := e'
    refine wp_mono (Q := Comes1 X h γ w a x env1 h') ?_ fun ex a' w' ⟨h1, γ', h2, h3, h4⟩ => ⟨h1, γ', h2.mask _, h3, h4⟩
    refine wp_loop_rounds n ?_
    have key : ∀ (m : Nat) {env : Env} {h1 : AHeap} {γ1 : Ghost} {w1 : World} {a1 : Act}, iter (fun e h => run P md M call n c k (mask k e) h) m env h1 = some (x, env1, h') → VA w1 (Ow X h1 γ1) γ1 env a1.tmps → Goes X h γ w h1 γ1 w1 → a1.defers = a.defers →
        Code.rounds P c (Comes1 X h γ w a x env1 h') m a1 w1 := by
      intro m
      induction m with
      | zero => intro env h1 γ1 w1 a1 e; cases e
      | succ m ihm =>
        intro env h1 γ1 w1 a1 e he1 hg1 hd1
        rw [rounds_succ]
        simp only [iter] at e
        unfold seqK at e
        split at e
        · rename_i e2 h2 hr2
          refine wp_mono (ih hr2 hok hg1.rel (he1.mask k)) ?_
          rintro ex a' w' ⟨rfl, γ', k1, k2, k3⟩
          exact ihm e k1 (hg1.trans k2) (by rw [k3, hd1])
        · rename_i hn
          refine wp_mono (ih e hok hg1.rel (he1.mask k)) ?_
          rintro ex a' w' ⟨rfl, γ', k1, k2, k3⟩
          cases x with
          | norm => exact absurd e (by intro e; exact hn _ _ e)
          | exit id => exact ⟨rfl, γ', k1, hg1.trans k2, by rw [k3, hd1]⟩
          | ret => exact ⟨rfl, γ', k1, hg1.trans k2, by rw [k3, hd1]⟩
    exact key n e he (Goes.refl r) rfl
  | exit id => intro k env env' h h' γ w a x X e _ r he; cases e; exact wp_exit ⟨rfl, γ, he, Goes.refl r, rfl⟩
  | ret => intro k env env' h h' γ w a x X e _ r he; cases e; exact wp_ret ⟨rfl, γ, he, Goes.refl r, rfl⟩
  | rangeFunc _ _ _ _ _ _ => intro k env env' h h' γ w a x X e; cases e
  | scope _ _ => intro k env env' h h' γ w a x X e; cases e
  | label _ => intro k env env' h h' γ w a x X e; cases e
  | goto _ => intro k env env' h h' γ w a x X e; cases e
  | refuse _ => intro k env env' h h' γ w a x X e; cases e

/-! ### Results -/
def resF (tmps : Array Value) : ResultVar → Sem Value
  | .tmp t => pure (tmps.getD t undef)
  | .cell a t => do loadVar t (← asAddr (tmps.getD a undef))
theorem results_resF (fn : Func) (tmps : Array Value) : results fn tmps = (do let vs ← fn.results.mapM (resF tmps); pure (if h : vs.size = 1 then vs[0] else .tuple vs)) := by
  have e : (fun | .tmp t => pure (tmps.getD t undef) | .cell a t => do loadVar t (← asAddr (tmps.getD a undef)) : ResultVar → Sem Value) = resF tmps := by
    funext x; cases x <;> rfl
  rw [← e]; rfl
theorem aresults_sound (r : R X h γ w) {env : Env} {tmps : Array Value} (he : VA w (Ow X h γ) γ env tmps) : ∀ (rs : List ResultVar) {l : List AV}, aresults P rs env h = some l →
    ∃ vs : List Value, (rs.mapM (resF tmps) : Sem (List Value)).run P w = .ok vs w ∧ VA w (Ow X h γ) γ l vs.toArray
  | [], l, e => by cases e; exact ⟨[], rfl, VA.nil⟩
  | .tmp t :: rs, l, e => by
    simp only [aresults] at e
    cases hr : aresults P rs env h with
    | none => rw [hr] at e; cases e
    | some l' =>
      rw [hr] at e; cases e
      obtain ⟨vs, h1, h2⟩ := aresults_sound r he rs hr
      refine ⟨tmps.getD t undef :: vs, ?_, ?_⟩
      · simp only [List.mapM_cons, Sem.run_bind, resF, Sem.run_pure, Result.andThen_ok]
        rw [h1]; rfl
      · refine ⟨by simpa using h2.1, fun i a v ha hv => ?_⟩
        cases i with
        | zero => simp at ha hv; subst ha; subst hv; simpa using he.get t
        | succ n => exact h2.2 n a v (by simpa using ha) (by simpa using hv)
  | .cell c t :: rs, l, e => by
    simp only [aresults] at e
    split at e
    · rename_i v l' hl hr
      cases e
      obtain ⟨vs, h1, h2⟩ := aresults_sound r he rs hr
      obtain ⟨u, h3, h4⟩ := aload_sound r (he.get c) hl
      refine ⟨u :: vs, ?_, ?_⟩
      · have h5 : (resF tmps (.cell c t)).run P w = .ok u w := by
          show (do loadVar t (← asAddr (tmps.getD c undef)) : Sem Value).run P w = .ok u w
          generalize tmps.getD c undef = x at h3 ⊢
          cases x <;> first
            | (simp [Instr.loadAt, Instr.sureAddr] at h3; done)
            | (rename_i o
               cases o with
               | none => simp [Instr.loadAt, Instr.sureAddr] at h3
               | some p => simpa [Instr.loadAt, Instr.sureAddr, asAddr] using h3)
        simp only [List.mapM_cons, Sem.run_bind, h5, Result.andThen_ok, h1, Sem.run_pure]
      · refine ⟨by simpa using h2.1, fun i a v ha hv => ?_⟩
        cases i with
        | zero => simp at ha hv; subst ha; subst hv; exact h4
        | succ n => exact h2.2 n a v (by simpa using ha) (by simpa using hv)
    · cases e
theorem results_sound (r : R X h γ w) {env : Env} {tmps : Array Value} (he : VA w (Ow X h γ) γ env tmps) {fn : Func} {l : List AV} (e : aresults P fn.results.toList env h = some l) :
    ∃ v, (results fn tmps).run P w = .ok v w ∧ V w (Ow X h γ) γ (tupOf l) v := by
  obtain ⟨vs, h1, h2⟩ := aresults_sound (P := P) r he _ e
  have hm : (fn.results.mapM (resF tmps) : Sem (Array Value)).run P w = .ok vs.toArray w := by
    rw [Array.mapM_eq_mapM_toList]
    simp only [Sem.run_map, h1, Result.andThen_ok]
  refine ⟨if hs : vs.toArray.size = 1 then vs.toArray[0] else .tuple vs.toArray, ?_, ?_⟩
  · rw [results_resF]
    simp only [Sem.run_bind, hm, Result.andThen_ok, Sem.run_pure]
  · cases l with
    | nil =>
      have h0 : vs = [] := List.eq_nil_of_length_eq_zero (by simpa using h2.1.symm)
      subst h0
      exact .tup [] #[] rfl fun i c v hi => by simp at hi
    | cons a t =>
      cases t with
      | nil =>
        have hl1 : vs.length = 1 := by simpa using h2.1.symm
        rw [dif_pos (by simpa using hl1)]
        exact h2.2 0 a _ rfl (by simp [hl1])
      | cons b t =>
        have hl1 : vs.length = t.length + 2 := by simpa using h2.1.symm
        rw [dif_neg (by simp [hl1])]
        exact .tup _ _ h2.1 h2.2
theorem acall_ok (hd : DrawOk P md) : ∀ n, CallOk P (acall P md fg n) := by
  intro n
  induction n with
  | zero => intro f args h r h' X γ w vs e; cases e
  | succ n ih =>
    intro f args h r h' X γ w vs e hr hv
    rw [acall] at e
    split at e
    · rename_i hok
      split at e
      · rename_i fn hfn
        split at e
        · rename_i code hb
          have hdr : drawsOk P md (fg f) code = true := by simpa [fnOk, hfn, hb] using hok
          have he : VA w (Ow X h γ) γ (env0 fn.ntmps args) (vs ++ Array.replicate (fn.ntmps - vs.size) undef) := by
            have hl := hv.1
            unfold env0
            rw [hl]
            exact hv.append (VA.unks _ _ (by simp))
          unfold finish at e
          have fin : ∀ (x : Ex) (env1 : Env) (h1 : AHeap), (x = .norm ∨ x = .ret) → run P md (fg f) (acall P md fg n) n code [] (env0 fn.ntmps args) h = some (x, env1, h1) → (aresults P fn.results.toList env1 h1).map (fun l => (tupOf l, h1)) = some (r, h') → Answers P X h γ w f vs r h' := by
            intro x env1 h1 hx hrun hres
            cases ha : aresults P fn.results.toList env1 h1 with
            | none => rw [ha] at hres; cases hres
            | some l =>
              rw [ha] at hres; cases hres
              refine calls_of_wp hfn hb (wp_mono (run_sound (a := { tmps := vs ++ Array.replicate (fn.ntmps - vs.size) undef, defers := [] }) hd ih n code hrun hdr hr he) ?_)
              rintro ex a' w' ⟨rfl, γ', k1, k2, k3⟩
              obtain ⟨v, h3, h4⟩ := results_sound k2.rel k1 ha
              rcases hx with rfl | rfl
              · exact ⟨k3, v, h3, v, γ', rfl, k2, h4⟩
              · exact ⟨k3, v, h3, v, γ', rfl, k2, h4⟩
          split at e
          · rename_i e1 h1 hrun; exact fin _ _ _ (.inl rfl) hrun e
          · rename_i e1 h1 hrun; exact fin _ _ _ (.inr rfl) hrun e
          · cases e
        · cases e
      · cases e
    · cases e
end
end Go.Ab
