/-
  Each operation of the abstract machine is one of the model's: new memory, stores, appends.
-/
import Derived.Test.YtlpkfeplbcadbaaAb7
namespace Go.Ab
section
variable {P : Program} {X O : Nat → Prop} {h : AHeap} {γ : Ghost} {w : World}

/-! ### Values built of parts -/
/-- Cells of a value, side by side. -/
def CV (w : World) (O : Nat → Prop) (γ : Ghost) (cs : List AV) (vs : Array Value) : Prop :=
  cs.length = vs.size ∧ (∀ (i : Nat) (c : AV), cs[i]? = some c → isCell c = true) ∧ ∀ (i : Nat) (c : AV) (v : Value), cs[i]? = some c → vs[i]? = some v → V w O γ c v
theorem V.cv {a : AV} {v : Value} (ha : V w O γ a v) (hk : okVal a = true) : CV w O γ a.cells v.cells := by
  obtain ⟨h1, h2⟩ := ha.cells hk
  refine ⟨h1, fun i c hi => (h2 i c hi).1, fun i c u hi hu => ?_⟩
  obtain ⟨_, u', e1, e2⟩ := h2 i c hi
  rw [hu] at e1; cases e1; exact e2
theorem CV.set {cs : List AV} {vs : Array Value} (hc : CV w O γ cs vs) {a : AV} {v : Value} (ha : V w O γ a v) (hk : isCell a = true) (i : Nat) : CV w O γ (cs.set i a) (vs.setIfInBounds i v) := by
  have hva : VA w O γ cs vs := ⟨hc.1, hc.2.2⟩
  have := hva.set ha i
  refine ⟨this.1, fun j c hj => ?_, this.2⟩
  by_cases e : i = j
  · subst e
    rw [List.getElem?_set] at hj
    simp at hj
    obtain ⟨_, rfl⟩ := hj
    exact hk
  · rw [List.getElem?_set_ne e] at hj
    exact hc.2.1 j c hj
theorem foldl_put (us : List Value) : ∀ (vs : Array Value) (off j0 : Nat),
    (us.zipIdx j0).foldl (fun (cs : Array Value) (p : Value × Nat) => cs.setIfInBounds (off + p.2) p.1) vs = us.zipIdx.foldl (fun (cs : Array Value) (p : Value × Nat) => cs.setIfInBounds (off + j0 + p.2) p.1) vs := by
  induction us with
  | nil => intro vs off j0; rfl
  | cons u r ih =>
    intro vs off j0
    simp only [List.zipIdx_cons, List.foldl_cons]
    rw [ih _ off (j0 + 1), ih _ (off + j0) (0 + 1)]
    simp only [Nat.add_assoc, Nat.zero_add, Nat.add_zero]
theorem CV.putAt (us : List AV) : ∀ {cs : List AV} {vs : Array Value} {off : Nat} {ws : List Value}, CV w O γ cs vs → us.length = ws.length → (∀ (i : Nat) (c : AV), us[i]? = some c → isCell c = true) →
    (∀ (i : Nat) (c : AV) (v : Value), us[i]? = some c → ws[i]? = some v → V w O γ c v) →
    CV w O γ (putAt cs off us) (ws.zipIdx.foldl (fun (cs : Array Value) (p : Value × Nat) => cs.setIfInBounds (off + p.2) p.1) vs) := by
  induction us with
  | nil =>
    intro cs vs off ws hc hl _ _
    cases ws with
    | nil => exact hc
    | cons _ _ => simp at hl
  | cons u r ih =>
    intro cs vs off ws hc hl hk hv
    cases ws with
    | nil => simp at hl
    | cons x t =>
      simp only [List.zipIdx_cons, List.foldl_cons, Nat.add_zero, Nat.zero_add]
      rw [foldl_put]
      exact ih (hc.set (hv 0 u x rfl rfl) (hk 0 u rfl) off) (by simpa using hl) (fun i c hi => hk (i + 1) c (by simpa using hi)) (fun i c v hi hu => hv (i + 1) c v (by simpa using hi) (by simpa using hu))
theorem putAt_length (us : List AV) : ∀ (cs : List AV) (off : Nat), (putAt cs off us).length = cs.length := by
  induction us with
  | nil => intro cs off; rfl
  | cons u r ih => intro cs off; simp [putAt, ih]
theorem zipIdx_foldl_array (vs : Array Value) (cs : Array Value) (off : Nat) :
    vs.zipIdx.foldl (fun (cs : Array Value) (p : Value × Nat) => cs.setIfInBounds (off + p.2) p.1) cs = vs.toList.zipIdx.foldl (fun (cs : Array Value) (p : Value × Nat) => cs.setIfInBounds (off + p.2) p.1) cs := by
  rw [← Array.foldl_toList, Array.toList_zipIdx]
theorem afill_sound {place : Nat → Option (Nat × Nat)} : ∀ (parts : List (Nat × AV)) (vparts : List (Nat × Value)) {cs cs' : List AV} {vs : Array Value}, CV w O γ cs vs →
    parts.length = vparts.length → (∀ (i : Nat) (p : Nat × AV) (q : Nat × Value), parts[i]? = some p → vparts[i]? = some q → p.1 = q.1 ∧ V w O γ p.2 q.2) → afill place cs parts = some cs' →
    ∃ vs', Instr.fill place vs vparts = some vs' ∧ CV w O γ cs' vs' := by
  intro parts
  induction parts with
  | nil =>
    intro vparts cs cs' vs hc hl _ e
    cases vparts with
    | nil => cases e; exact ⟨vs, rfl, hc⟩
    | cons _ _ => simp at hl
  | cons p r ih =>
    intro vparts cs cs' vs hc hl hv e
    cases vparts with
    | nil => simp at hl
    | cons q t =>
      obtain ⟨i, v⟩ := p
      obtain ⟨i', u⟩ := q
      obtain ⟨rfl, hvu⟩ := hv 0 _ _ rfl rfl
      simp only [afill] at e
      split at e
      · rename_i off size hp
        split at e
        · rename_i hcd; obtain ⟨h1, h2, h3⟩ := hcd
          have hcv := hvu.cv h2
          have hsz : u.cells.size = size := by rw [← hcv.1]; exact h1
          simp only [Instr.fill, hp]
          rw [if_neg (by simp only [ne_eq, Bool.or_eq_true, decide_eq_true_eq, not_or, Decidable.not_not]; refine ⟨hsz, ?_⟩; have := hc.1; omega)]
          refine ih t ?_ (by simpa using hl) (fun i p q hp hq => hv (i + 1) p q (by simpa using hp) (by simpa using hq)) e
          rw [zipIdx_foldl_array]
          exact CV.putAt _ hc (by simpa using hcv.1) hcv.2.1 (fun i c v hi hu => hcv.2.2 i c v hi (by simpa using hu))
        · cases e
      · cases e
theorem tzero_all {t : TypeId} {z : AV} (e : tzero P t = some z) : ∃ i zv, P.info? t = some i ∧ i.zero = some zv ∧ z = ofVal zv ∧ okVal z = true ∧ z.cells.all isCell = true := by
  unfold tzero at e
  split at e
  · rename_i i hi
    cases hzero : i.zero with
    | none => rw [hzero] at e; cases e
    | some zv =>
      rw [hzero] at e
      simp only [Option.map_some, Option.bind_some, zeroOk] at e
      split at e
      · rename_i hok
        cases e
        simp only [Bool.and_eq_true] at hok
        exact ⟨i, zv, hi, hzero, rfl, hok.1, hok.2⟩
      · cases e
  · cases e
theorem run_zeroValue {t : TypeId} {i : TypeInfo} {zv : Value} (hi : P.info? t = some i) (hz : i.zero = some zv) (w : World) : (zeroValue t).run P w = .ok zv w := by
  simp [zeroValue, typeInfo, hi, hz]
theorem run_mapM_places (fs : List Field) (hall : ∀ f ∈ fs, (P.info? f.type).isSome = true) (w : World) :
    (fs.mapM (fun f => do pure (f.offset, ← sizeOf f.type)) : Sem (List (Nat × Nat))).run P w = .ok (fs.map fun f => (f.offset, tsize P f.type)) w := by
  induction fs with
  | nil => rfl
  | cons f r ih =>
    have hf := hall f (by simp)
    cases hi : P.info? f.type with
    | none => rw [hi] at hf; cases hf
    | some i =>
      have := ih fun g hg => hall g (by simp [hg])
      simp only [List.mapM_cons, Sem.run_bind, run_sizeOf' hi, Result.andThen_ok, Sem.run_pure, this, List.map_cons]
theorem abuild_sound {t : TypeId} {parts : List (Nat × AV)} {vparts : Array (Nat × Value)} {v : AV} (hl : parts.length = vparts.size)
    (hv : ∀ (i : Nat) (p : Nat × AV) (q : Nat × Value), parts[i]? = some p → vparts[i]? = some q → p.1 = q.1 ∧ V w O γ p.2 q.2) (e : abuild P t parts = some v) :
    ∃ x, (Instr.build t vparts).run P w = .ok x w ∧ V w O γ v x := by
  unfold abuild at e
  have hv' : ∀ (i : Nat) (p : Nat × AV) (q : Nat × Value), parts[i]? = some p → vparts.toList[i]? = some q → p.1 = q.1 ∧ V w O γ p.2 q.2 := fun i p q hp hq => hv i p q hp (by simpa using hq)
  split at e
  · rename_i z pl hz hpl
    obtain ⟨i, zv, hi, hzero, rfl, hok, hcells⟩ := tzero_all hz
    have hcv : CV w O γ (ofVal zv).cells zv.cells := (ofVal_V zv hcells).cv hok
    cases hf : afill (fun i => pl[i]?) (ofVal zv).cells parts with
    | none => rw [hf] at e; cases e
    | some cs' =>
      rw [hf] at e; cases e
      obtain ⟨vs', h1, h2⟩ := afill_sound parts vparts.toList hcv (by simpa using hl) hv' hf
      refine ⟨.agg vs', ?_, .agg _ _ h2.1 h2.2.1 h2.2.2⟩
      unfold tplaces at hpl
      split at hpl
      · rename_i fs hu
        split at hpl
        · rename_i hall
          cases hpl
          have hall' : ∀ f ∈ fs.toList, (P.info? f.type).isSome = true := by
            intro f hf'
            exact (Array.all_eq_true_iff_forall_mem.1 hall) f (by simpa using hf')
          have hm : (fs.mapM (fun f => do pure (f.offset, ← sizeOf f.type)) : Sem (Array (Nat × Nat))).run P w = .ok (fs.toList.map fun f => (f.offset, tsize P f.type)).toArray w := by
            rw [Array.mapM_eq_mapM_toList]
            simp only [Sem.run_map, run_mapM_places fs.toList hall', Result.andThen_ok]
          simp only [Instr.build, Sem.run_bind, run_zeroValue hi hzero, Result.andThen_ok, run_underlying hu, hm]
          have : Instr.fill (fun x => (fs.toList.map fun f => (f.offset, tsize P f.type)).toArray[x]?) zv.cells vparts.toList = some vs' := by
            simpa using h1
          simp only [this, Sem.run_pure]
        · cases hpl
      · cases hpl
  · rename_i z n el hz hpl hta
    split at e
    · rename_i hs
      obtain ⟨i, zv, hi, hzero, rfl, hok, hcells⟩ := tzero_all hz
      have hcv : CV w O γ (ofVal zv).cells zv.cells := (ofVal_V zv hcells).cv hok
      cases hf : afill (fun i => some (i * tsize P el, tsize P el)) (ofVal zv).cells parts with
      | none => rw [hf] at e; cases e
      | some cs' =>
        rw [hf] at e; cases e
        obtain ⟨vs', h1, h2⟩ := afill_sound parts vparts.toList hcv (by simpa using hl) hv' hf
        refine ⟨.agg vs', ?_, .agg _ _ h2.1 h2.2.1 h2.2.2⟩
        simp only [Instr.build, Sem.run_bind, run_zeroValue hi hzero, Result.andThen_ok, run_underlying (tarr_iff hta), run_sizeOf_pos hs, h1, Sem.run_pure]
    · cases e
  · cases e
end
end Go.Ab
