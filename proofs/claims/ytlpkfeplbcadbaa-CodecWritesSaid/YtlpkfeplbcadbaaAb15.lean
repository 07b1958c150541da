/-
  Calls: by value and by reference.
-/
import Derived.Test.YtlpkfeplbcadbaaAb14
namespace Go.Ab
section
variable {P : Program} {X O O' : Nat → Prop} {h h' : AHeap} {γ γ' : Ghost} {w w' : World}

/-! ### What is new is forgotten -/
theorem belowL_mem {n : Nat} : ∀ {cs : List AV}, belowL n cs = true → ∀ c ∈ cs, below n c = true
  | [], _, _, hc => by cases hc
  | x :: r, hs, c, hc => by
    simp only [belowL, Bool.and_eq_true] at hs
    rcases List.mem_cons.1 hc with rfl | hc
    · exact hs.1
    · exact belowL_mem hs.2 c hc
theorem belowL_of {n : Nat} : ∀ {cs : List AV}, (∀ (i : Nat) (c : AV), cs[i]? = some c → below n c = true) → belowL n cs = true
  | [], _ => rfl
  | x :: r, h => by
    simp only [belowL, Bool.and_eq_true]
    exact ⟨h 0 x rfl, belowL_of fun i c hi => h (i + 1) c (by simpa using hi)⟩
theorem below_elem {n k : Nat} {e : AV} (_ : e.cells.length = k) (hc : ∀ (j : Nat) (c : AV), e.cells[j]? = some c → below n c = true) (hk : okVal e = true) : below n e = true := by
  cases e with
  | agg cs => simp only [below]; exact belowL_of hc
  | tup _ => simp [okVal] at hk
  | _ => exact hc 0 _ rfl
theorem below_cells {n : Nat} {e : AV} (hs : below n e = true) {j : Nat} {c : AV} (hj : e.cells[j]? = some c) : below n c = true := by
  cases e with
  | agg cs => exact belowL_mem (cs := cs) (by simpa [below] using hs) c (List.mem_of_getElem? hj)
  | _ =>
    have hm := List.mem_of_getElem? hj
    simp only [AV.cells, List.mem_singleton] at hm
    subst hm; exact hs
theorem V.isBelow {n : Nat} {a : AV} {v : Value} (hv : V w O γ a v) (hd : ∀ id g p, γ id g = some p → id < n) : Ab.below n a = true := by
  induction hv with
  | unk v => rfl
  | val v => rfl
  | agg cs vs hl hc _ ih =>
    simp only [Ab.below]
    exact belowL_of fun i c hi => by
      have hlt : i < vs.size := by rw [← hl]; exact (List.getElem?_eq_some_iff.1 hi).1
      exact ih i c vs[i] hi (by simp [hlt])
  | tup cs vs hl _ ih =>
    simp only [Ab.below]
    exact belowL_of fun i c hi => by
      have hlt : i < vs.size := by rw [← hl]; exact (List.getElem?_eq_some_iff.1 hi).1
      exact ih i c vs[i] hi (by simp [hlt])
  | slc0 full a0 => rfl
  | slc full es b o cap k vals hcap hfull hk hc _ ih =>
    simp only [Ab.below]
    exact belowL_of fun i e hi => below_elem (hk i e hi).2 (fun j c hj => ih i j e c hi hj) (hk i e hi).1
  | sptr cs off b o vals hc _ ih => simp only [Ab.below]; exact belowL_of fun i c hi => ih i c hi
  | ptr id off b o hg => simp only [Ab.below, decide_eq_true_eq]; exact hd _ _ _ hg
  | eptr id g k idx off b o hg => simp only [Ab.below, decide_eq_true_eq]; exact hd _ _ _ hg
  | arr id off len g k b o cap o' hg _ _ _ => simp only [Ab.below, decide_eq_true_eq]; exact hd _ _ _ hg
  | clo f first caps fs cs hf hc _ _ ih1 ih2 =>
    simp only [Ab.below, Bool.and_eq_true]
    refine ⟨belowL_of fun i c hi => ?_, belowL_of fun i c hi => ?_⟩
    · have hlt : i < fs.size := by rw [← hf]; exact (List.getElem?_eq_some_iff.1 hi).1
      exact ih1 i c fs[i] hi (by simp [hlt])
    · have hlt : i < cs.size := by rw [← hc]; exact (List.getElem?_eq_some_iff.1 hi).1
      exact ih2 i c cs[i] hi (by simp [hlt])
def Ghost.upto (γ : Ghost) (n : Nat) : Ghost := fun id g => if id < n then γ id g else none
theorem upto_some {n id g : Nat} {p : Nat × Nat} (e : γ.upto n id g = some p) : id < n ∧ γ id g = some p := by
  unfold Ghost.upto at e
  split at e
  · rename_i hl; exact ⟨hl, e⟩
  · cases e
theorem upto_of {n id g : Nat} {p : Nat × Nat} (hl : id < n) (e : γ id g = some p) : γ.upto n id g = some p := by
  unfold Ghost.upto; rw [if_pos hl]; exact e
theorem V.upto {n : Nat} {a : AV} {v : Value} (hv : V w O γ a v) (hb : Ab.below n a = true) (hO : ∀ b, O' b → O b) : V w O' (γ.upto n) a v := by
  induction hv with
  | unk v => exact .unk v
  | val v => exact .val v
  | agg cs vs hl hc _ ih => exact .agg cs vs hl hc fun i c v hi hu => ih i c v hi hu (belowL_mem (by simpa [Ab.below] using hb) c (List.mem_of_getElem? hi))
  | tup cs vs hl _ ih => exact .tup cs vs hl fun i c v hi hu => ih i c v hi hu (belowL_mem (by simpa [Ab.below] using hb) c (List.mem_of_getElem? hi))
  | slc0 full a0 => exact .slc0 full a0
  | slc full es b o cap k vals hcap hfull hk hc _ ih =>
    have hes : belowL n es = true := by simpa [Ab.below] using hb
    exact .slc full es b o cap k vals hcap hfull hk (fun i j e c he hj => ⟨(hc i j e c he hj).1, fun ho => (hc i j e c he hj).2.1 (hO _ ho), (hc i j e c he hj).2.2⟩)
      fun i j e c he hj => ih i j e c he hj (below_cells (belowL_mem hes e (List.mem_of_getElem? he)) hj)
  | sptr cs off b o vals hc _ ih =>
    have hes : belowL n cs = true := by simpa [Ab.below] using hb
    exact .sptr cs off b o vals (fun j c hj => ⟨(hc j c hj).1, fun ho => (hc j c hj).2.1 (hO _ ho), (hc j c hj).2.2⟩) fun j c hj => ih j c hj (belowL_mem hes c (List.mem_of_getElem? hj))
  | ptr id off b o hg => exact .ptr id off b o (upto_of (by simpa [Ab.below] using hb) hg)
  | eptr id g k idx off b o hg => exact .eptr id g k idx off b o (upto_of (by simpa [Ab.below] using hb) hg)
  | arr id off len g k b o cap o' hg hcap ho hrow => exact .arr id off len g k b o cap o' (upto_of (by simpa [Ab.below] using hb) hg) hcap ho hrow
  | clo f first caps fs cs hf hc _ _ ih1 ih2 =>
    simp only [Ab.below, Bool.and_eq_true] at hb
    exact .clo f first caps fs cs hf hc (fun i c v hi hu => ih1 i c v hi hu (belowL_mem hb.1 c (List.mem_of_getElem? hi))) (fun i c v hi hu => ih2 i c v hi hu (belowL_mem hb.2 c (List.mem_of_getElem? hi)))
theorem OkObj.below {n id : Nat} {o : AObj} (hk : OkObj w O γ id o) (hd : ∀ id g p, γ id g = some p → id < n) : belowO n o = true := by
  cases o with
  | dead => rfl
  | vars cs => obtain ⟨b, p, _, _, h3⟩ := hk; exact belowL_of fun i c hi => by obtain ⟨_, v, _, hv⟩ := h3 i c hi; exact hv.isBelow hd
  | arr k es g =>
    obtain ⟨b, p, _, _, h3⟩ := hk
    exact belowL_of fun i e hi => below_elem (h3.1 i e hi).2 (fun j c hj => by obtain ⟨_, v, _, hv⟩ := h3.2 i j e c hi hj; exact hv.isBelow hd) (h3.1 i e hi).1
  | frz k es g =>
    obtain ⟨b, p, _, h3, _⟩ := hk
    exact belowL_of fun i e hi => below_elem (h3.1 i e hi).2 (fun j c hj => by obtain ⟨_, v, _, hv⟩ := h3.2 i j e c hi hj; exact hv.isBelow hd) (h3.1 i e hi).1
theorem OkObj.upto {n id : Nat} {o : AObj} (hk : OkObj w O γ id o) (hb : belowO n o = true) (hl : id < n) (hO : ∀ b, O' b → O b) : OkObj w O' (γ.upto n) id o := by
  cases o with
  | dead => trivial
  | vars cs =>
    obtain ⟨b, p, h1, h2, h3⟩ := hk
    refine ⟨b, p, upto_of hl h1, h2, fun j c hj => ?_⟩
    obtain ⟨k1, v, k2, k3⟩ := h3 j c hj
    exact ⟨k1, v, k2, k3.upto (belowL_mem hb c (List.mem_of_getElem? hj)) hO⟩
  | arr k es g =>
    obtain ⟨b, p, h1, h2, h3⟩ := hk
    refine ⟨b, p, upto_of hl h1, h2, h3.1, fun i j e c he hj => ?_⟩
    obtain ⟨k1, v, k2, k3⟩ := h3.2 i j e c he hj
    exact ⟨k1, v, k2, k3.upto (below_cells (belowL_mem hb e (List.mem_of_getElem? he)) hj) hO⟩
  | frz k es g =>
    obtain ⟨b, p, h1, h3, h4⟩ := hk
    refine ⟨b, p, upto_of hl h1, ⟨h3.1, fun i j e c he hj => ?_⟩, fun i j e c he hj ho => h4 i j e c he hj (hO _ ho)⟩
    obtain ⟨k1, v, k2, k3⟩ := h3.2 i j e c he hj
    exact ⟨k1, v, k2, k3.upto (below_cells (belowL_mem hb e (List.mem_of_getElem? he)) hj) hO⟩
theorem hget_take {n id : Nat} : hget (h.take n) id = if id < n then hget h id else .dead := by
  simp only [hget, List.getD, List.getElem?_take]
  split <;> rfl
theorem forget (r : R X h γ w) {h0 : AHeap} {γ0 : Ghost} (g : Goes X h γ w h0 γ0 w') (hgc : GcOk h.length h h0) {a : AV} {v : Value} (hb : below h.length a = true) (hv : V w' (Ow X h0 γ0) γ0 a v) :
    Goes X h γ w (h0.take h.length) (γ0.upto h.length) w' ∧ V w' (Ow X (h0.take h.length) (γ0.upto h.length)) (γ0.upto h.length) a v := by
  have hown : ∀ b, Own (h0.take h.length) (γ0.upto h.length) b → Own h0 γ0 b := by
    rintro b ⟨id, g', p, e1, e2⟩
    rw [hget_take] at e1
    split at e1
    · exact ⟨id, g', p, e1, (upto_some e2).2⟩
    · cases e1
  have hO : ∀ b, Ow X (h0.take h.length) (γ0.upto h.length) b → Ow X h0 γ0 b := fun b ho => ho.imp (fun e => e) (hown b)
  refine ⟨⟨⟨?_, ?_, ?_, ?_, ?_, g.rel.xin⟩, ?_, g.step, fun b hb ho => g.fresh b hb (hown b ho)⟩, hv.upto hb hO⟩
  · intro id g' p e
    obtain ⟨hl, e⟩ := upto_some e
    have := g.rel.dom _ _ _ e
    simp; omega
  · intro id k es g1 g' p e1 e2
    rw [hget_take] at e1
    split at e1
    · exact g.rel.gens id k es g1 g' p e1 (upto_some e2).2
    · cases e1
  · intro id
    rw [hget_take]
    split
    · rename_i hl
      refine (g.rel.obj id).upto ?_ hl hO
      rcases hgc id hl with e | e
      · have : hget h0 id = hget h id := by simp [hget, List.getD, e]
        rw [this]
        exact (r.obj id).below r.dom
      · exact e
    · trivial
  · intro id id' g1 g2 b p p' e1 e2 e3 e4
    rw [hget_take] at e1 e3
    split at e1
    · split at e3
      · exact g.rel.inj _ _ _ _ _ _ _ e1 (upto_some e2).2 e3 (upto_some e4).2
      · cases e3
    · cases e1
  · intro b ho; exact g.rel.apart b (hown b ho)
  · intro id g' p e
    exact upto_of (r.dom _ _ _ e) (g.ext _ _ _ e)

/-! ### Calls -/
def Answers (P : Program) (X : Nat → Prop) (h : AHeap) (γ : Ghost) (w : World) (f : FuncId) (vs : Array Value) (r : AV) (h' : AHeap) : Prop :=
  Calls P f vs w fun e w' => ∃ v γ', e = .returned v ∧ Goes X h γ w h' γ' w' ∧ V w' (Ow X h' γ') γ' r v
def CallOk (P : Program) (call : CallF) : Prop :=
  ∀ (f : FuncId) (args : List AV) (h : AHeap) (r : AV) (h' : AHeap) (X : Nat → Prop) (γ : Ghost) (w : World) (vs : Array Value),
    call f args h = some (r, h') → R X h γ w → VA w (Ow X h γ) γ args vs → Answers P X h γ w f vs r h'
/-- The memory of a call that is handed values alone: none of ours. -/
theorem empty_R (hx : ∀ b, X b → b < w.heap.size) : R X [] (fun _ _ => none) w :=
  ⟨fun id g p e => (by cases e), fun id k es g g' p e => (by cases e), fun id => trivial, fun id id' g g' b o o' e => (by cases e), fun b ⟨id, g, o, e, _⟩ => (by cases e), hx⟩
theorem own_nil {b : Nat} : ¬ Own [] γ b := fun ⟨id, g, o, e, _⟩ => by cases e
theorem VA.exp (r : R X h γ w) {IDS : List Nat} (hcan : canFrz h IDS = true) {d : Nat} {as as' : List AV} {ids : List Nat} {vs : Array Value} (e : expL (exp1 h d) as = some (as', ids)) (hids : ∀ j ∈ ids, j ∈ IDS)
    (hv : VA w (Ow X h γ) γ as vs) : VA w (Ow X (frzAll h IDS) γ) γ' as' vs := by
  obtain ⟨hl, hmap⟩ := expL_inv e
  refine ⟨by rw [hl]; exact hv.1, fun i a v ha hu => ?_⟩
  have hlt : i < as.length := by have := (List.getElem?_eq_some_iff.1 ha).1; omega
  obtain ⟨y, js, h1, h2, h3⟩ := hmap i _ (List.getElem?_eq_getElem hlt)
  rw [ha] at h2; cases h2
  exact exp1_sound r hcan d h1 (fun j hj => hids j (h3 j hj)) (hv.2 i _ v (List.getElem?_eq_getElem hlt) hu)
theorem doCall_sound {md : FuncId → Nat} {call : CallF} (hc : CallOk P call) {f : FuncId} {args : List AV} {r : AV} {vs : Array Value} (e : doCall md call f args h = some (r, h')) (hr : R X h γ w) (hv : VA w (Ow X h γ) γ args vs) :
    Answers P X h γ w f vs r h' := by
  unfold doCall at e
  split at e
  · -- by value
    split at e
    · rename_i as ids hexp
      split at e
      · rename_i hcan
        split at e
        · rename_i r' hpure
          cases e
          unfold pureRes at hpure
          split at hpure
          · rename_i r0 h1 hcall
            split at hpure
            · rename_i r1 ids1 hexp1
              split at hpure
              · rename_i hcan1
                cases hpure
                have hR0 : R (Ow X (frzAll h ids) γ) [] (fun _ _ => none) w := empty_R fun b ho => by
                  rcases ho with hx | ho
                  · exact hr.xin b hx
                  · exact hr.own_lt (own_frzAll ids ho)
                have hva : VA w (Ow (Ow X (frzAll h ids) γ) [] (fun _ _ => none)) (fun _ _ => none) as vs := by
                  have := VA.exp (γ' := fun _ _ => none) hr hcan hexp (fun j hj => hj) hv
                  refine this.mono ⟨fun _ _ _ e => e, fun b off v hO hv => ⟨fun ho => ?_, hv⟩, fun _ c _ z hh => ⟨c, z, hh, rfl⟩⟩
                  rcases ho with ho | ho
                  · exact hO ho
                  · exact own_nil ho
                refine (hc f as [] r0 h1 _ _ w vs hcall hR0 hva).mono ?_
                rintro e w' ⟨v, γ1, rfl, hg, hv1⟩
                have hstep : Step w w' (fun _ => False) := ⟨hg.step.os, hg.step.tape, hg.step.output, hg.step.size, fun b hb _ => hg.step.keep b hb own_nil, hg.step.row⟩
                have hv2 : V w' (Ow X (frzAll h ids) γ) γ r v := by
                  have := exp1_sound (γ' := γ) hg.rel hcan1 expDepth hexp1 (fun j hj => hj) hv1
                  exact this.mono ⟨fun _ _ _ e => e, fun b off v hO hv => ⟨fun ho => hO (.inl ho), hv⟩, fun _ c _ z hh => ⟨c, z, hh, rfl⟩⟩
                by_cases hfl : flat r = true
                · rw [if_pos hfl]
                  exact ⟨v, γ, rfl, quiet_goes hr hstep, flat_V hv2 hfl⟩
                · rw [if_neg hfl]
                  exact ⟨v, γ, rfl, (frzAll_goes hr ids).trans (quiet_goes (frzAll_R ids hr) hstep), hv2⟩
              · cases hpure
            · cases hpure
          · cases hpure
        · cases e
      · cases e
    · cases e
  · -- by reference
    split at e
    · rename_i r0 h0 hcall
      have hA := hc f args h r0 h0 X γ w vs hcall hr hv
      split at e
      · rename_i hgc; obtain ⟨hb, hgc⟩ := hgc
        cases e
        refine hA.mono ?_
        rintro e w' ⟨v, γ1, rfl, hg, hv1⟩
        obtain ⟨k1, k2⟩ := forget hr hg hgc hb hv1
        exact ⟨v, _, rfl, k1, k2⟩
      · cases e; exact hA
    · cases e
end
end Go.Ab
