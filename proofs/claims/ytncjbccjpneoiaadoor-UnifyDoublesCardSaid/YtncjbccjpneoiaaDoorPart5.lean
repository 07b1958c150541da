/- Parts of the proof, each with its own heading: Calls: by value and by reference. What the abstract machine answers, the model answers. A region whose order Go leaves open: whatever the order, it answers what it answers in the text's. -/
import Derived.Test.YtncjbccjpneoiaaDoorPart4
import Derived.LoopN
set_option linter.unusedSimpArgs false
set_option linter.unusedVariables false
namespace Go.Ab
section
variable {P : Program} {X O O' : Nat → Prop} {h h' : AHeap} {γ γ' : Ghost} {w w' : World}

/-! ### What is new is forgotten -/
theorem belowL_mem {n : Nat} : ∀ {cs : List AV}, belowL n cs = true → ∀ c ∈ cs, below n c = true
  | [], _, _, hc => by cases hc
  | x :: r, hs, c, hc => by
    simp only [belowL, Bool.and_eq_true] at hs
    rcases List.mem_cons.1 hc with rfl | hc
    · exact hs.1
    · exact belowL_mem hs.2 c hc
theorem belowL_of {n : Nat} : ∀ {cs : List AV}, (∀ (i : Nat) (c : AV), cs[i]? = some c → below n c = true) → belowL n cs = true
  | [], _ => rfl
  | x :: r, h => by
    simp only [belowL, Bool.and_eq_true]
    exact ⟨h 0 x rfl, belowL_of fun i c hi => h (i + 1) c (by simpa using hi)⟩
theorem below_elem {n k : Nat} {e : AV} (_ : e.cells.length = k) (hc : ∀ (j : Nat) (c : AV), e.cells[j]? = some c → below n c = true) (hk : okVal e = true) : below n e = true := by
  cases e with
  | agg cs => simp only [below]; exact belowL_of hc
  | tup _ => simp [okVal] at hk
  | _ => exact hc 0 _ rfl
theorem below_cells {n : Nat} {e : AV} (hs : below n e = true) {j : Nat} {c : AV} (hj : e.cells[j]? = some c) : below n c = true := by
  cases e with
  | agg cs => exact belowL_mem (cs := cs) (by simpa [below] using hs) c (List.mem_of_getElem? hj)
  | _ =>
    have hm := List.mem_of_getElem? hj
    simp only [AV.cells, List.mem_singleton] at hm
    subst hm; exact hs
theorem V.isBelow {n : Nat} {a : AV} {v : Value} (hv : V w O γ a v) (hd : ∀ id g p, γ id g = some p → id < n) : Ab.below n a = true := by
  induction hv with
  | unk v => rfl
  | val v => rfl
  | agg cs vs hl hc _ ih =>
    simp only [Ab.below]
    exact belowL_of fun i c hi => by
      have hlt : i < vs.size := by rw [← hl]; exact (List.getElem?_eq_some_iff.1 hi).1
      exact ih i c vs[i] hi (by simp [hlt])
  | tup cs vs hl _ ih =>
    simp only [Ab.below]
    exact belowL_of fun i c hi => by
      have hlt : i < vs.size := by rw [← hl]; exact (List.getElem?_eq_some_iff.1 hi).1
      exact ih i c vs[i] hi (by simp [hlt])
  | slc0 full a0 => rfl
  | slc full es b o cap k vals hcap hfull hk hc _ ih =>
    simp only [Ab.below]
    exact belowL_of fun i e hi => below_elem (hk i e hi).2 (fun j c hj => ih i j e c hi hj) (hk i e hi).1
  | sptr cs off b o vals hc _ ih => simp only [Ab.below]; exact belowL_of fun i c hi => ih i c hi
  | ptr id off b o hg => simp only [Ab.below, decide_eq_true_eq]; exact hd _ _ _ hg
  | eptr id g k idx off b o hg => simp only [Ab.below, decide_eq_true_eq]; exact hd _ _ _ hg
  | arr id off len g k b o cap o' hg _ _ _ => simp only [Ab.below, decide_eq_true_eq]; exact hd _ _ _ hg
  | mp id b hg => simp only [Ab.below, decide_eq_true_eq]; exact hd _ _ _ hg
  | emp a cap => rfl
  | clo f first caps fs cs hf hc _ _ ih1 ih2 =>
    simp only [Ab.below, Bool.and_eq_true]
    refine ⟨belowL_of fun i c hi => ?_, belowL_of fun i c hi => ?_⟩
    · have hlt : i < fs.size := by rw [← hf]; exact (List.getElem?_eq_some_iff.1 hi).1
      exact ih1 i c fs[i] hi (by simp [hlt])
    · have hlt : i < cs.size := by rw [← hc]; exact (List.getElem?_eq_some_iff.1 hi).1
      exact ih2 i c cs[i] hi (by simp [hlt])
def Ghost.upto (γ : Ghost) (n : Nat) : Ghost := fun id g => if id < n then γ id g else none
theorem upto_some {n id g : Nat} {p : Nat × Nat} (e : γ.upto n id g = some p) : id < n ∧ γ id g = some p := by
  unfold Ghost.upto at e
  split at e
  · rename_i hl; exact ⟨hl, e⟩
  · cases e
theorem upto_of {n id g : Nat} {p : Nat × Nat} (hl : id < n) (e : γ id g = some p) : γ.upto n id g = some p := by
  unfold Ghost.upto; rw [if_pos hl]; exact e
theorem V.upto {n : Nat} {a : AV} {v : Value} (hv : V w O γ a v) (hb : Ab.below n a = true) (hO : ∀ b, O' b → O b) : V w O' (γ.upto n) a v := by
  induction hv with
  | unk v => exact .unk v
  | val v => exact .val v
  | agg cs vs hl hc _ ih => exact .agg cs vs hl hc fun i c v hi hu => ih i c v hi hu (belowL_mem (by simpa [Ab.below] using hb) c (List.mem_of_getElem? hi))
  | tup cs vs hl _ ih => exact .tup cs vs hl fun i c v hi hu => ih i c v hi hu (belowL_mem (by simpa [Ab.below] using hb) c (List.mem_of_getElem? hi))
  | slc0 full a0 => exact .slc0 full a0
  | slc full es b o cap k vals hcap hfull hk hc _ ih =>
    have hes : belowL n es = true := by simpa [Ab.below] using hb
    exact .slc full es b o cap k vals hcap hfull hk (fun i j e c he hj => ⟨(hc i j e c he hj).1, fun ho => (hc i j e c he hj).2.1 (hO _ ho), (hc i j e c he hj).2.2⟩)
      fun i j e c he hj => ih i j e c he hj (below_cells (belowL_mem hes e (List.mem_of_getElem? he)) hj)
  | sptr cs off b o vals hc _ ih =>
    have hes : belowL n cs = true := by simpa [Ab.below] using hb
    exact .sptr cs off b o vals (fun j c hj => ⟨(hc j c hj).1, fun ho => (hc j c hj).2.1 (hO _ ho), (hc j c hj).2.2⟩) fun j c hj => ih j c hj (belowL_mem hes c (List.mem_of_getElem? hj))
  | ptr id off b o hg => exact .ptr id off b o (upto_of (by simpa [Ab.below] using hb) hg)
  | eptr id g k idx off b o hg => exact .eptr id g k idx off b o (upto_of (by simpa [Ab.below] using hb) hg)
  | arr id off len g k b o cap o' hg hcap ho hrow => exact .arr id off len g k b o cap o' (upto_of (by simpa [Ab.below] using hb) hg) hcap ho hrow
  | emp a cap => exact .emp a cap
  | mp id b hg => exact .mp id b (upto_of (by simpa [Ab.below] using hb) hg)
  | clo f first caps fs cs hf hc _ _ ih1 ih2 =>
    simp only [Ab.below, Bool.and_eq_true] at hb
    exact .clo f first caps fs cs hf hc (fun i c v hi hu => ih1 i c v hi hu (belowL_mem hb.1 c (List.mem_of_getElem? hi))) (fun i c v hi hu => ih2 i c v hi hu (belowL_mem hb.2 c (List.mem_of_getElem? hi)))
theorem OkObj.below {n id : Nat} {o : AObj} (hk : OkObj w O γ id o) (hd : ∀ id g p, γ id g = some p → id < n) : belowO n o = true := by
  cases o with
  | dead => rfl
  | vars cs => obtain ⟨b, p, _, _, h3⟩ := hk; exact belowL_of fun i c hi => by obtain ⟨_, v, _, hv⟩ := h3 i c hi; exact hv.isBelow hd
  | arr k es g =>
    obtain ⟨b, p, _, _, h3⟩ := hk
    exact belowL_of fun i e hi => below_elem (h3.1 i e hi).2 (fun j c hj => by obtain ⟨_, v, _, hv⟩ := h3.2 i j e c hi hj; exact hv.isBelow hd) (h3.1 i e hi).1
  | frz k es g =>
    obtain ⟨b, p, _, h3, _⟩ := hk
    exact belowL_of fun i e hi => below_elem (h3.1 i e hi).2 (fun j c hj => by obtain ⟨_, v, _, hv⟩ := h3.2 i j e c hi hj; exact hv.isBelow hd) (h3.1 i e hi).1
  | map es c =>
    obtain ⟨b, _, xs, _, h3⟩ := hk
    simp only [belowO, List.all_eq_true, Bool.and_eq_true]
    intro e he
    obtain ⟨i, hi⟩ := List.mem_iff_getElem?.1 he
    have hlt : i < xs.size := by rw [← h3.1]; exact (List.getElem?_eq_some_iff.1 hi).1
    obtain ⟨_, _, _, k4, k5⟩ := h3.2 i e xs[i] hi (by simp [hlt])
    exact ⟨k4.isBelow hd, k5.isBelow hd⟩
  | iter m s l n =>
    obtain ⟨b, _, mm, _, h3⟩ := hk
    cases m with
    | none => rfl
    | some i => obtain ⟨b', hg, _⟩ := h3; simp only [belowO, decide_eq_true_eq]; exact hd _ _ _ hg
theorem OkObj.upto {n id : Nat} {o : AObj} (hk : OkObj w O γ id o) (hb : belowO n o = true) (hl : id < n) (hO : ∀ b, O' b → O b) : OkObj w O' (γ.upto n) id o := by
  cases o with
  | dead => trivial
  | vars cs =>
    obtain ⟨b, p, h1, h2, h3⟩ := hk
    refine ⟨b, p, upto_of hl h1, h2, fun j c hj => ?_⟩
    obtain ⟨k1, v, k2, k3⟩ := h3 j c hj
    exact ⟨k1, v, k2, k3.upto (belowL_mem hb c (List.mem_of_getElem? hj)) hO⟩
  | arr k es g =>
    obtain ⟨b, p, h1, h2, h3⟩ := hk
    refine ⟨b, p, upto_of hl h1, h2, h3.1, fun i j e c he hj => ?_⟩
    obtain ⟨k1, v, k2, k3⟩ := h3.2 i j e c he hj
    exact ⟨k1, v, k2, k3.upto (below_cells (belowL_mem hb e (List.mem_of_getElem? he)) hj) hO⟩
  | frz k es g =>
    obtain ⟨b, p, h1, h3, h4⟩ := hk
    refine ⟨b, p, upto_of hl h1, ⟨h3.1, fun i j e c he hj => ?_⟩, fun i j e c he hj ho => h4 i j e c he hj (hO _ ho)⟩
    obtain ⟨k1, v, k2, k3⟩ := h3.2 i j e c he hj
    exact ⟨k1, v, k2, k3.upto (below_cells (belowL_mem hb e (List.mem_of_getElem? he)) hj) hO⟩
  | map es c =>
    obtain ⟨b, h1, xs, h2, h3⟩ := hk
    simp only [belowO, List.all_eq_true, Bool.and_eq_true] at hb
    refine ⟨b, upto_of hl h1, xs, h2, h3.1, fun i e x he hx => ?_⟩
    obtain ⟨k1, k2, k3, k4, k5⟩ := h3.2 i e x he hx
    have := hb e (List.mem_of_getElem? he)
    exact ⟨k1, k2, k3, k4.upto this.1 hO, k5.upto this.2 hO⟩
  | iter m s l n =>
    obtain ⟨b, h1, mm, h2, h3⟩ := hk
    refine ⟨b, upto_of hl h1, mm, h2, ?_⟩
    cases m with
    | none => exact h3
    | some i => obtain ⟨b', hg, e⟩ := h3; exact ⟨b', upto_of (by simpa [belowO] using hb) hg, e⟩
theorem hget_take {n id : Nat} : hget (h.take n) id = if id < n then hget h id else .dead := by
  simp only [hget, List.getD, List.getElem?_take]
  split <;> rfl
theorem forget (r : R X h γ w) {h0 : AHeap} {γ0 : Ghost} (g : Goes X h γ w h0 γ0 w') (hgc : GcOk h.length h h0) {a : AV} {v : Value} (hb : below h.length a = true) (hv : V w' (Ow X h0 γ0) γ0 a v) :
    Goes X h γ w (h0.take h.length) (γ0.upto h.length) w' ∧ V w' (Ow X (h0.take h.length) (γ0.upto h.length)) (γ0.upto h.length) a v := by
  have hown : ∀ b, Own (h0.take h.length) (γ0.upto h.length) b → Own h0 γ0 b := by
    rintro b ⟨id, g', p, e1, e2⟩
    rw [hget_take] at e1
    split at e1
    · exact ⟨id, g', p, e1, (upto_some e2).2⟩
    · cases e1
  have hO : ∀ b, Ow X (h0.take h.length) (γ0.upto h.length) b → Ow X h0 γ0 b := fun b ho => ho.imp (fun e => e) (hown b)
  refine ⟨⟨⟨?_, ?_, ?_, ?_, ?_, g.rel.xin, ?_⟩, ?_, g.step, fun b hb ho => g.fresh b hb (hown b ho)⟩, hv.upto hb hO⟩
  · intro id g' p e
    obtain ⟨hl, e⟩ := upto_some e
    have := g.rel.dom _ _ _ e
    simp; omega
  · intro id k es g1 g' p e1 e2
    rw [hget_take] at e1
    split at e1
    · exact g.rel.gens id k es g1 g' p e1 (upto_some e2).2
    · cases e1
  · intro id
    rw [hget_take]
    split
    · rename_i hl
      refine (g.rel.obj id).upto ?_ hl hO
      rcases hgc id hl with e | e
      · have : hget h0 id = hget h id := by simp [hget, List.getD, e]
        rw [this]
        exact (r.obj id).below r.dom
      · exact e
    · trivial
  · intro id id' g1 g2 b p p' e1 e2 e3 e4
    rw [hget_take] at e1 e3
    split at e1
    · split at e3
      · exact g.rel.inj _ _ _ _ _ _ _ e1 (upto_some e2).2 e3 (upto_some e4).2
      · cases e3
    · cases e1
  · intro b ho; exact g.rel.apart b (hown b ho)
  · intro id g' p e
    obtain ⟨hl, e⟩ := upto_some e
    rw [hget_take, if_pos hl]; exact g.rel.dd _ _ _ e
  · intro id g' p e
    exact upto_of (r.dom _ _ _ e) (g.ext _ _ _ e)

/-! ### Calls -/
def Answers (P : Program) (X : Nat → Prop) (h : AHeap) (γ : Ghost) (w : World) (f : FuncId) (vs : Array Value) (r : AV) (h' : AHeap) : Prop :=
  Calls P f vs w fun e w' => ∃ v γ', e = .returned v ∧ Goes X h γ w h' γ' w' ∧ V w' (Ow X h' γ') γ' r v
def CallOk (P : Program) (call : CallF) : Prop :=
  ∀ (f : FuncId) (args : List AV) (h : AHeap) (r : AV) (h' : AHeap) (X : Nat → Prop) (γ : Ghost) (w : World) (vs : Array Value),
    call f args h = some (r, h') → R X h γ w → VA w (Ow X h γ) γ args vs → Answers P X h γ w f vs r h'
theorem empty_R (hx : ∀ b, X b → b < w.heap.size) : R X [] (fun _ _ => none) w :=
  ⟨fun id g p e => (by cases e), fun id k es g g' p e => (by cases e), fun id => trivial, fun id id' g g' b o o' e => (by cases e), fun b ⟨id, g, o, e, _⟩ => (by cases e), hx, fun id g p e => (by cases e)⟩
theorem own_nil {b : Nat} : ¬ Own [] γ b := fun ⟨id, g, o, e, _⟩ => by cases e
theorem VA.exp (r : R X h γ w) {IDS : List Nat} (hcan : canFrz h IDS = true) {d : Nat} {as as' : List AV} {ids : List Nat} {vs : Array Value} (e : expL (exp1 h d) as = some (as', ids)) (hids : ∀ j ∈ ids, j ∈ IDS)
    (hv : VA w (Ow X h γ) γ as vs) : VA w (Ow X (frzAll h IDS) γ) γ' as' vs := by
  obtain ⟨hl, hmap⟩ := expL_inv e
  refine ⟨by rw [hl]; exact hv.1, fun i a v ha hu => ?_⟩
  have hlt : i < as.length := by have := (List.getElem?_eq_some_iff.1 ha).1; omega
  obtain ⟨y, js, h1, h2, h3⟩ := hmap i _ (List.getElem?_eq_getElem hlt)
  rw [ha] at h2; cases h2
  exact exp1_sound r hcan d h1 (fun j hj => hids j (h3 j hj)) (hv.2 i _ v (List.getElem?_eq_getElem hlt) hu)
theorem doCall0_sound {md : FuncId → Nat} {call : CallF} (hc : CallOk P call) {f : FuncId} {args : List AV} {r : AV} {vs : Array Value} (e : doCall0 md call f args h = some (r, h')) (hr : R X h γ w) (hv : VA w (Ow X h γ) γ args vs) :
    Answers P X h γ w f vs r h' := by
  unfold doCall0 at e
  split at e
  · -- by value
    split at e
    · rename_i as ids hexp
      split at e
      · rename_i hcan
        split at e
        · rename_i r' hpure
          cases e
          unfold pureRes at hpure
          split at hpure
          · rename_i r0 h1 hcall
            split at hpure
            · rename_i r1 ids1 hexp1
              split at hpure
              · rename_i hcan1
                cases hpure
                have hR0 : R (Ow X (frzAll h ids) γ) [] (fun _ _ => none) w := empty_R fun b ho => by
                  rcases ho with hx | ho
                  · exact hr.xin b hx
                  · exact hr.own_lt (own_frzAll ids ho)
                have hva : VA w (Ow (Ow X (frzAll h ids) γ) [] (fun _ _ => none)) (fun _ _ => none) as vs := by
                  have := VA.exp (γ' := fun _ _ => none) hr hcan hexp (fun j hj => hj) hv
                  refine this.mono ⟨fun _ _ _ e => e, fun b off v hO hv => ⟨fun ho => ?_, hv⟩, fun _ c _ z hh => ⟨c, z, hh, rfl⟩⟩
                  rcases ho with ho | ho
                  · exact hO ho
                  · exact own_nil ho
                refine (hc f as [] r0 h1 _ _ w vs hcall hR0 hva).mono ?_
                rintro e w' ⟨v, γ1, rfl, hg, hv1⟩
                have hstep : Step w w' (fun _ => False) := ⟨hg.step.os, hg.step.tape, hg.step.output, hg.step.size, fun b hb _ => hg.step.keep b hb own_nil, hg.step.row⟩
                have hv2 : V w' (Ow X (frzAll h ids) γ) γ r v := by
                  have := exp1_sound (γ' := γ) hg.rel hcan1 expDepth hexp1 (fun j hj => hj) hv1
                  exact this.mono ⟨fun _ _ _ e => e, fun b off v hO hv => ⟨fun ho => hO (.inl ho), hv⟩, fun _ c _ z hh => ⟨c, z, hh, rfl⟩⟩
                by_cases hfl : flat r = true
                · rw [if_pos hfl]
                  exact ⟨v, γ, rfl, quiet_goes hr hstep, flat_V hv2 hfl⟩
                · rw [if_neg hfl]
                  exact ⟨v, γ, rfl, (frzAll_goes hr ids).trans (quiet_goes (frzAll_R ids hr) hstep), hv2⟩
              · cases hpure
            · cases hpure
          · cases hpure
        · cases e
      · cases e
    · cases e
  · -- by reference
    split at e
    · rename_i r0 h0 hcall
      have hA : Answers P X h γ w f vs r0 h0 := by
        unfold rated at hcall
        split at hcall
        · split at hcall
          · rename_i r1 h1 hcall1
            split at hcall
            · rename_i r2 ids hexp
              split at hcall
              · rename_i hcan
                cases hcall
                refine (hc f args h r1 h1 X γ w vs hcall1 hr hv).mono ?_
                rintro e w' ⟨v, γ1, rfl, hg, hv1⟩
                exact ⟨v, γ1, rfl, hg.trans (frzAll_goes hg.rel ids), exp1_sound hg.rel hcan expDepth hexp (fun j hj => hj) hv1⟩
              · cases hcall
            · cases hcall
          · cases hcall
        · exact hc f args h r0 h0 X γ w vs hcall hr hv
      split at e
      · rename_i hgc; obtain ⟨hb, hgc⟩ := hgc
        cases e
        refine hA.mono ?_
        rintro e w' ⟨v, γ1, rfl, hg, hv1⟩
        obtain ⟨k1, k2⟩ := forget hr hg hgc hb hv1
        exact ⟨v, _, rfl, k1, k2⟩
      · cases e; exact hA
    · cases e
theorem bothK_inv {x y : Option (AV × AHeap)} {r : AV × AHeap} (e : bothK x y = some r) : x = some r ∧ y = some r := by
  unfold bothK at e
  split at e
  · split at e
    · split at e
      · rename_i h; cases e; exact ⟨rfl, by rw [← h]⟩
      · cases e
    · cases e
  · cases e
theorem doCall_sound {md : FuncId → Nat} {call : CallF} (hc : CallOk P call) {f : FuncId} {args : List AV} {r : AV} {vs : Array Value} (e : doCall md call f args h = some (r, h')) (hr : R X h γ w) (hv : VA w (Ow X h γ) γ args vs) :
    Answers P X h γ w f vs r h' := by
  unfold doCall at e
  split at e
  · rename_i as bs hsp
    obtain ⟨e1, e2⟩ := bothK_inv e
    unfold splitNil at hsp
    split at hsp
    · split at hsp
      · rename_i full rest
        cases hsp
        have hlt : 0 < vs.size := by rw [← hv.1]; simp
        have h0 := hv.2 0 (.slc full []) vs[0] rfl (by simp [hlt])
        have rep : ∀ {a : AV}, V w (Ow X h γ) γ a vs[0] → VA w (Ow X h γ) γ (a :: rest) vs := by
          intro a ha
          refine ⟨by simpa using hv.1, fun i x v hx hv' => ?_⟩
          cases i with
          | zero =>
            cases hx
            rw [Array.getElem?_eq_getElem hlt] at hv'
            cases hv'; exact ha
          | succ n => exact hv.2 (n + 1) x v (by simpa using hx) hv'
        generalize vs[0] = v0 at h0 rep
        cases h0 with
        | slc0 _ a =>
          cases a with
          | none => exact hc f _ h r h' X γ w vs e1 hr (rep (.val _))
          | some a => exact hc f _ h r h' X γ w vs e2 hr (rep (.emp _ _))
        | slc _ _ b o cap k vals _ _ _ _ _ => exact hc f _ h r h' X γ w vs e2 hr (rep (.emp _ _))
      · cases hsp
    · cases hsp
  · exact doCall0_sound hc e hr hv
end
section
variable {P : Program} {md : FuncId → Nat} {fg : FuncId → Nat → List Bool} {M : Nat → List Bool} {X O : Nat → Prop} {h h' : AHeap} {γ γ' : Ghost} {w w' : World}

def vBool : Value → Option Bool
  | .bool b => some b
  | _ => none
theorem yielded_eq (ops : Array Oper) (tmps : Array Value) (j : Nat) : yielded ops tmps j = ((ops[j]?).bind (·.dst)).bind fun d => vBool (tmps.getD d undef) := by
  unfold yielded
  cases hd : (ops[j]?).bind (·.dst) with
  | none => rfl
  | some d =>
    simp only [Option.bind_some]
    by_cases hl : d < tmps.size
    · have e1 : tmps[d]? = some (tmps.getD d undef) := by simp [hl]
      rw [e1]
      cases tmps.getD d undef <;> rfl
    · have e1 : tmps[d]? = none := Array.getElem?_eq_none (Nat.le_of_not_lt hl)
      have e2 : tmps.getD d undef = undef := by simp [Array.getD, hl]
      rw [e1, e2]; rfl
theorem guard_eq {ops : Array Oper} {env : Env} {a : Act} (he : VA w O γ env a.tmps) {o : Oper} {b : Bool} (h : aguard ops env o = some b) : Region.wanted o (yielded ops a.tmps) = b := by
  unfold aguard at h
  unfold Region.wanted
  cases hg : o.guard with
  | none => rw [hg] at h; cases h; rfl
  | some p =>
    obtain ⟨j, want⟩ := p
    rw [hg] at h
    dsimp only at h ⊢
    rw [yielded_eq]
    cases hd : (ops[j]?).bind (·.dst) with
    | none => rw [hd] at h; cases h; rfl
    | some d =>
      rw [hd] at h
      dsimp only [Option.bind_some] at h ⊢
      have hv := he.get d
      generalize env.getD d .und = av at h hv
      generalize a.tmps.getD d undef = u at hv
      cases hv with
      | unk v => cases h
      | val _ => cases u <;> cases h <;> rfl
      | _ => cases h; rfl
theorem VA.put {env : Env} {a : Act} (he : VA w O γ env a.tmps) {v : AV} {u : Value} (hv : V w O γ v u) (d : Option Tmp) : VA w O γ (aput env d v) (a.put d u).tmps := by
  cases d with
  | none => exact he
  | some d => exact he.set hv d
theorem put_defers (a : Act) (d : Option Tmp) (u : Value) : (a.put d u).defers = a.defers := by cases d <;> rfl
theorem step_sound {call : CallF} (hc : CallOk P call) (r : R X h γ w) {env : Env} {a : Act} (he : VA w (Ow X h γ) γ env a.tmps) {o : Oper} {v : AV} (e : astep P md call env h o = some (v, h')) {K : Act → World → Prop} {Q : Exit → Act → World → Prop}
    (hK : ∀ u w' γ', Goes X h γ w h' γ' w' → V w' (Ow X h' γ') γ' v u → K (a.put o.dst u) w') : o.wp P a w K Q := by
  unfold astep at e
  split at e
  · rename_i v' h1 hop
    cases e
    obtain ⟨u, w', γ', h1, h2, h3⟩ := op_value r he hop
    unfold Oper.wp
    rcases h1 with h1 | ⟨h1, rfl⟩
    · rw [h1, Oper.upon_value]; exact hK u w' γ' h2 h3
    · rw [h1, Oper.upon_skip]; exact hK undef w' γ' h2 h3
  · rename_i f args h1 hop
    obtain ⟨rfl, _, vs, hrun, hva⟩ := op_call he hop
    unfold Oper.wp
    rw [hrun, Oper.upon_enter]
    refine (doCall_sound hc e r hva).mono ?_
    rintro e w' ⟨u, γ', rfl, h2, h3⟩
    exact hK u w' γ' h2 h3
  · cases e
theorem runOps_sound {call : CallF} (hc : CallOk P call) (ops : Array Oper) : ∀ (l : List Oper) {env env' : Env} {h h' : AHeap} {γ : Ghost} {w : World} {a : Act} {Q : Exit → Act → World → Prop},
    runOps P md call ops l env h = some (env', h') → R X h γ w → VA w (Ow X h γ) γ env a.tmps →
    (∀ a' w' γ', VA w' (Ow X h' γ') γ' env' a'.tmps → Goes X h γ w h' γ' w' → a'.defers = a.defers → Q .normal a' w') → wpList P ops Q l a w := by
  intro l
  induction l with
  | nil => intro env env' h h' γ w a Q e r he hQ; cases e; exact hQ a w γ he (Goes.refl r) rfl
  | cons o l ih =>
    intro env env' h h' γ w a Q e r he hQ
    simp only [runOps] at e
    unfold wpList
    split at e
    · rename_i hg0
      rw [if_pos (guard_eq he hg0)]
      split at e
      · rename_i v h1 hs
        refine .inl (step_sound hc r he hs fun u w' γ' hg hv => ?_)
        refine ih e hg.rel ((he.goes hg).put hv o.dst) fun a' w2 γ2 h1 h2 h3 => hQ a' w2 γ2 h1 (hg.trans h2) (by rw [h3, put_defers])
      · cases e
    · rename_i hg0
      rw [if_neg (by rw [guard_eq he hg0]; simp)]
      exact ih e r (he.put (.val _) o.dst) fun a' w2 γ2 h1 h2 h3 => hQ a' w2 γ2 h1 h2 (by rw [h3, put_defers])
    · cases e

def toExit : Ex → Exit
  | .norm => .normal
  | .exit id => .exit id
  | .ret => .ret
def Comes1 (X : Nat → Prop) (h : AHeap) (γ : Ghost) (w : World) (a : Act) (x : Ex) (env' : Env) (h' : AHeap) (e : Exit) (a' : Act) (w' : World) : Prop :=
  e = toExit x ∧ ∃ γ', VA w' (Ow X h' γ') γ' env' a'.tmps ∧ Goes X h γ w h' γ' w' ∧ a'.defers = a.defers
def DrawOk (P : Program) (md : FuncId → Nat) : Prop :=
  ∀ (call : CallF), CallOk P call → ∀ (ops : Array Oper) (L : Bool) (sq : List Nat) (m : Nat) (U : Nat → List Nat), (if L then drawOkG P md ops sq m U else drawOk1 P md ops false) = true → ∀ {env env' : Env} {h h' : AHeap} {γ : Ghost} {w : World} {a : Act} {X : Nat → Prop} {Q : Exit → Act → World → Prop} (id : Nat),
    (if L then runGA P md call ops sq m U env h else runDraw P md call ops ops.toList env h) = some (env', h') → R X h γ w → VA w (Ow X h γ) γ env a.tmps →
    (∀ a' w' γ', VA w' (Ow X h' γ') γ' env' a'.tmps → Goes X h γ w h' γ' w' → a'.defers = a.defers → Q .normal a' w') → (Code.region id ops true).wp P Q a w
theorem maskR_inv {m : List Bool} {r : RunR} {x : Ex} {env' : Env} {h' : AHeap} (e : maskR m r = some (x, env', h')) : ∃ env1, r = some (x, env1, h') ∧ env' = mask m env1 := by
  unfold maskR at e
  cases r with
  | none => cases e
  | some p => obtain ⟨a, b, c⟩ := p; cases e; exact ⟨b, rfl, rfl⟩
theorem run_sound (hd : DrawOk P md) {call : CallF} (hc : CallOk P call) (n : Nat) : ∀ (code : Code) {k : List Bool} {env env' : Env} {h h' : AHeap} {γ : Ghost} {w : World} {a : Act} {x : Ex} {X : Nat → Prop},
    run P md M call n code k env h = some (x, env', h') → drawsOk P md M code = true → R X h γ w → VA w (Ow X h γ) γ env a.tmps → code.wp P (Comes1 X h γ w a x env' h') a w := by
  intro code
  induction code with
  | skip => intro k env env' h h' γ w a x X e _ r he; cases e; exact wp_skip ⟨rfl, γ, he, Goes.refl r, rfl⟩
  | region id ops d =>
    intro k env env' h h' γ w a x X e hok r he
    simp only [run] at e
    obtain ⟨env1, e', rfl⟩ := maskR_inv e
    replace e := e'
    cases d with
    | false =>
      simp only [Bool.false_eq_true, if_false] at e
      unfold normK at e
      cases ho : runOps P md call ops ops.toList env h with
      | none => rw [ho] at e; cases e
      | some p => rw [ho] at e; cases e; exact wp_region_list (runOps_sound hc ops _ ho r he fun a' w' γ' h1 h2 h3 => ⟨rfl, γ', h1.mask _, h2, h3⟩)
    | true =>
      simp only [if_true] at e
      unfold normK at e
      cases ho : (if looseAt M id then runGA P md call ops (seqAt M id) (allocsAt M id) (unordAt M id) env h else runDraw P md call ops ops.toList env h) with
      | none => rw [ho] at e; cases e
      | some p =>
        rw [ho] at e; cases e
        exact hd call hc ops (looseAt M id) _ _ _ (by simpa only [drawsOk, Bool.not_true, Bool.false_or] using hok) id ho r he fun a' w' γ' h1 h2 h3 => ⟨rfl, γ', h1.mask _, h2, h3⟩
  | seq c1 c2 ih1 ih2 =>
    intro k env env' h h' γ w a x X e hok r he
    simp only [drawsOk, Bool.and_eq_true] at hok
    simp only [run] at e
    unfold seqK at e
    split at e
    · rename_i e1 h1 hr1
      refine wp_seq (wp_mono (ih1 hr1 hok.1 r he) ?_)
      rintro ex a' w' ⟨rfl, γ', k1, k2, k3⟩
      show c2.wp P _ a' w'
      refine wp_mono (ih2 e hok.2 k2.rel k1) ?_
      rintro ex a2 w2 ⟨rfl, γ2, m1, m2, m3⟩
      exact ⟨rfl, γ2, m1, k2.trans m2, by rw [m3, k3]⟩
    · rename_i hn
      refine wp_seq (wp_mono (ih1 e hok.1 r he) ?_)
      rintro ex a' w' ⟨rfl, γ', k1, k2, k3⟩
      cases x with
      | norm => exact absurd e (by intro e; exact hn _ _ e)
      | exit id => exact ⟨rfl, γ', k1, k2, k3⟩
      | ret => exact ⟨rfl, γ', k1, k2, k3⟩
  | cond c c1 c2 ih1 ih2 =>
    intro k env env' h h' γ w a x X e hok r he
    simp only [drawsOk, Bool.and_eq_true] at hok
    simp only [run] at e
    unfold condK at e
    split at e
    · rename_i t ht
      have hv := he.oval c
      rw [ht] at hv
      refine wp_cond (t := t) hv.val_inv ?_
      cases t with
      | true => exact ih1 e hok.1 r he
      | false => exact ih2 e hok.2 r he
    · cases e
  | block id c ih =>
    intro k env env' h h' γ w a x X e hok r he
    simp only [run] at e
    unfold blockK at e
    split at e
    · rename_i i e1 h1 hr1
      refine wp_block (wp_mono (ih hr1 hok r he) ?_)
      rintro ex a' w' ⟨rfl, γ', k1, k2, k3⟩
      show Exit.inBlock id _ (.exit i) a' w'
      simp only [Exit.inBlock]
      split at e
      · rename_i hi; cases e; rw [if_pos hi]; exact ⟨rfl, γ', k1, k2, k3⟩
      · rename_i hi; cases e; rw [if_neg hi]; exact ⟨rfl, γ', k1, k2, k3⟩
    · rename_i hn
      refine wp_block (wp_mono (ih e hok r he) ?_)
      rintro ex a' w' ⟨rfl, γ', k1, k2, k3⟩
      cases x with
      | norm => exact ⟨rfl, γ', k1, k2, k3⟩
      | exit i => exact absurd e (by intro e; exact hn _ _ _ e)
      | ret => exact ⟨rfl, γ', k1, k2, k3⟩
  | loop c ih =>
    intro k env env' h h' γ w a x X e hok r he
    simp only [run] at e
    obtain ⟨env1, e', rfl⟩ := maskR_inv e
    replace e := e'
    refine wp_mono (Q := Comes1 X h γ w a x env1 h') ?_ fun ex a' w' ⟨h1, γ', h2, h3, h4⟩ => ⟨h1, γ', h2.mask _, h3, h4⟩
    refine wp_loop_rounds n ?_
    have key : ∀ (m : Nat) {env : Env} {h1 : AHeap} {γ1 : Ghost} {w1 : World} {a1 : Act}, iter (fun e h => run P md M call n c k (mask k e) h) m env h1 = some (x, env1, h') → VA w1 (Ow X h1 γ1) γ1 env a1.tmps → Goes X h γ w h1 γ1 w1 → a1.defers = a.defers →
        Code.rounds P c (Comes1 X h γ w a x env1 h') m a1 w1 := by
      intro m
      induction m with
      | zero => intro env h1 γ1 w1 a1 e; cases e
      | succ m ihm =>
        intro env h1 γ1 w1 a1 e he1 hg1 hd1
        rw [rounds_succ]
        simp only [iter] at e
        unfold seqK at e
        split at e
        · rename_i e2 h2 hr2
          refine wp_mono (ih hr2 hok hg1.rel (he1.mask k)) ?_
          rintro ex a' w' ⟨rfl, γ', k1, k2, k3⟩
          exact ihm e k1 (hg1.trans k2) (by rw [k3, hd1])
        · rename_i hn
          refine wp_mono (ih e hok hg1.rel (he1.mask k)) ?_
          rintro ex a' w' ⟨rfl, γ', k1, k2, k3⟩
          cases x with
          | norm => exact absurd e (by intro e; exact hn _ _ e)
          | exit id => exact ⟨rfl, γ', k1, hg1.trans k2, by rw [k3, hd1]⟩
          | ret => exact ⟨rfl, γ', k1, hg1.trans k2, by rw [k3, hd1]⟩
    exact key n e he (Goes.refl r) rfl
  | exit id => intro k env env' h h' γ w a x X e _ r he; cases e; exact wp_exit ⟨rfl, γ, he, Goes.refl r, rfl⟩
  | ret => intro k env env' h h' γ w a x X e _ r he; cases e; exact wp_ret ⟨rfl, γ, he, Goes.refl r, rfl⟩
  | rangeFunc _ _ _ _ _ _ => intro k env env' h h' γ w a x X e; cases e
  | scope _ _ => intro k env env' h h' γ w a x X e; cases e
  | label _ => intro k env env' h h' γ w a x X e; cases e
  | goto _ => intro k env env' h h' γ w a x X e; cases e
  | refuse _ => intro k env env' h h' γ w a x X e; cases e

/-! ### Results -/
def resF (tmps : Array Value) : ResultVar → Sem Value
  | .tmp t => pure (tmps.getD t undef)
  | .cell a t => do loadVar t (← asAddr (tmps.getD a undef))
theorem results_resF (fn : Func) (tmps : Array Value) : results fn tmps = (do let vs ← fn.results.mapM (resF tmps); pure (if h : vs.size = 1 then vs[0] else .tuple vs)) := by
  have e : (fun | .tmp t => pure (tmps.getD t undef) | .cell a t => do loadVar t (← asAddr (tmps.getD a undef)) : ResultVar → Sem Value) = resF tmps := by
    funext x; cases x <;> rfl
  rw [← e]; rfl
theorem aresults_sound (r : R X h γ w) {env : Env} {tmps : Array Value} (he : VA w (Ow X h γ) γ env tmps) : ∀ (rs : List ResultVar) {l : List AV}, aresults P rs env h = some l →
    ∃ vs : List Value, (rs.mapM (resF tmps) : Sem (List Value)).run P w = .ok vs w ∧ VA w (Ow X h γ) γ l vs.toArray
  | [], l, e => by cases e; exact ⟨[], rfl, VA.nil⟩
  | .tmp t :: rs, l, e => by
    simp only [aresults] at e
    cases hr : aresults P rs env h with
    | none => rw [hr] at e; cases e
    | some l' =>
      rw [hr] at e; cases e
      obtain ⟨vs, h1, h2⟩ := aresults_sound r he rs hr
      refine ⟨tmps.getD t undef :: vs, ?_, ?_⟩
      · simp only [List.mapM_cons, Sem.run_bind, resF, Sem.run_pure, Result.andThen_ok]
        rw [h1]; rfl
      · refine ⟨by simpa using h2.1, fun i a v ha hv => ?_⟩
        cases i with
        | zero => simp at ha hv; subst ha; subst hv; simpa using he.get t
        | succ n => exact h2.2 n a v (by simpa using ha) (by simpa using hv)
  | .cell c t :: rs, l, e => by
    simp only [aresults] at e
    split at e
    · rename_i v l' hl hr
      cases e
      obtain ⟨vs, h1, h2⟩ := aresults_sound r he rs hr
      obtain ⟨u, h3, h4⟩ := aload_sound r (he.get c) hl
      refine ⟨u :: vs, ?_, ?_⟩
      · have h5 : (resF tmps (.cell c t)).run P w = .ok u w := by
          show (do loadVar t (← asAddr (tmps.getD c undef)) : Sem Value).run P w = .ok u w
          generalize tmps.getD c undef = x at h3 ⊢
          cases x <;> first
            | (simp [Instr.loadAt, Instr.sureAddr] at h3; done)
            | (rename_i o
               cases o with
               | none => simp [Instr.loadAt, Instr.sureAddr] at h3
               | some p => simpa [Instr.loadAt, Instr.sureAddr, asAddr] using h3)
        simp only [List.mapM_cons, Sem.run_bind, h5, Result.andThen_ok, h1, Sem.run_pure]
      · refine ⟨by simpa using h2.1, fun i a v ha hv => ?_⟩
        cases i with
        | zero => simp at ha hv; subst ha; subst hv; exact h4
        | succ n => exact h2.2 n a v (by simpa using ha) (by simpa using hv)
    · cases e
theorem results_sound (r : R X h γ w) {env : Env} {tmps : Array Value} (he : VA w (Ow X h γ) γ env tmps) {fn : Func} {l : List AV} (e : aresults P fn.results.toList env h = some l) :
    ∃ v, (results fn tmps).run P w = .ok v w ∧ V w (Ow X h γ) γ (tupOf l) v := by
  obtain ⟨vs, h1, h2⟩ := aresults_sound (P := P) r he _ e
  have hm : (fn.results.mapM (resF tmps) : Sem (Array Value)).run P w = .ok vs.toArray w := by
    rw [Array.mapM_eq_mapM_toList]
    simp only [Sem.run_map, h1, Result.andThen_ok]
  refine ⟨if hs : vs.toArray.size = 1 then vs.toArray[0] else .tuple vs.toArray, ?_, ?_⟩
  · rw [results_resF]
    simp only [Sem.run_bind, hm, Result.andThen_ok, Sem.run_pure]
  · cases l with
    | nil =>
      have h0 : vs = [] := List.eq_nil_of_length_eq_zero (by simpa using h2.1.symm)
      subst h0
      exact .tup [] #[] rfl fun i c v hi => by simp at hi
    | cons a t =>
      cases t with
      | nil =>
        have hl1 : vs.length = 1 := by simpa using h2.1.symm
        rw [dif_pos (by simpa using hl1)]
        exact h2.2 0 a _ rfl (by simp [hl1])
      | cons b t =>
        have hl1 : vs.length = t.length + 2 := by simpa using h2.1.symm
        rw [dif_neg (by simp [hl1])]
        exact .tup _ _ h2.1 h2.2
theorem acall_ok (hd : DrawOk P md) : ∀ n, CallOk P (acall P md fg n) := by
  intro n
  induction n with
  | zero => intro f args h r h' X γ w vs e; cases e
  | succ n ih =>
    intro f args h r h' X γ w vs e hr hv
    rw [acall] at e
    split at e
    · rename_i hok
      split at e
      · rename_i fn hfn
        split at e
        · rename_i code hb
          have hdr : drawsOk P md (fg f) code = true := by simpa [fnOk, hfn, hb] using hok
          have he : VA w (Ow X h γ) γ (env0 fn.ntmps args) (vs ++ Array.replicate (fn.ntmps - vs.size) undef) := by
            have hl := hv.1
            unfold env0
            rw [hl]
            exact hv.append (VA.unks _ _ (by simp))
          unfold finish at e
          have fin : ∀ (x : Ex) (env1 : Env) (h1 : AHeap), (x = .norm ∨ x = .ret) → run P md (fg f) (acall P md fg n) n code [] (env0 fn.ntmps args) h = some (x, env1, h1) → (aresults P fn.results.toList env1 h1).map (fun l => (tupOf l, h1)) = some (r, h') → Answers P X h γ w f vs r h' := by
            intro x env1 h1 hx hrun hres
            cases ha : aresults P fn.results.toList env1 h1 with
            | none => rw [ha] at hres; cases hres
            | some l =>
              rw [ha] at hres; cases hres
              refine calls_of_wp hfn hb (wp_mono (run_sound (a := { tmps := vs ++ Array.replicate (fn.ntmps - vs.size) undef, defers := [] }) hd ih n code hrun hdr hr he) ?_)
              rintro ex a' w' ⟨rfl, γ', k1, k2, k3⟩
              obtain ⟨v, h3, h4⟩ := results_sound k2.rel k1 ha
              rcases hx with rfl | rfl
              · exact ⟨k3, v, h3, v, γ', rfl, k2, h4⟩
              · exact ⟨k3, v, h3, v, γ', rfl, k2, h4⟩
          split at e
          · rename_i e1 h1 hrun; exact fin _ _ _ (.inl rfl) hrun e
          · rename_i e1 h1 hrun; exact fin _ _ _ (.inr rfl) hrun e
          · cases e
        · cases e
      · cases e
    · cases e
end
end Go.Ab
namespace Go.Ab
set_option linter.unusedSimpArgs false
set_option linter.unusedVariables false
section
variable {P : Program} {md : FuncId → Nat}

/-! ### What an operation hangs on -/
theorem map_congr_oval {env env' : Env} {xs : Array Operand} (h : ∀ x ∈ xs, oval env x = oval env' x) : xs.toList.map (oval env) = xs.toList.map (oval env') :=
  List.map_congr_left fun x hx => h x (by simpa using hx)
theorem opt_congr_oval {env env' : Env} {x : Option Operand} (h : ∀ y ∈ x.toArray, oval env y = oval env' y) : x.map (oval env) = x.map (oval env') := by
  cases x with
  | none => rfl
  | some y => simp only [Option.map_some]; rw [h y (by simp)]
theorem parts_congr_oval {env env' : Env} {ps : Array (Nat × Operand)} (h : ∀ x ∈ (ps.toList.map (·.2)).toArray, oval env x = oval env' x) :
    (ps.toList.map fun p => (p.1, oval env p.2)) = ps.toList.map fun p => (p.1, oval env' p.2) :=
  List.map_congr_left fun p hp => by rw [h p.2 (by simp only [List.mem_toArray, List.mem_map]; exact ⟨p, hp, rfl⟩)]
theorem aop_congr {env env' : Env} {h : AHeap} {o : Oper} (hx : ∀ x ∈ o.op.operands, oval env x = oval env' x) : aop P env h o = aop P env' h o := by
  unfold aop
  cases hop : o.op with
  | move x => simp only; rw [hx x (by simp [hop, Op.operands])]
  | assign x => simp only; rw [hx x (by simp [hop, Op.operands])]
  | pick c a b => simp only; rw [hx c (by simp [hop, Op.operands]), hx a (by simp [hop, Op.operands]), hx b (by simp [hop, Op.operands])]
  | box t x => simp only; rw [hx x (by simp [hop, Op.operands])]
  | build t ps => simp only; rw [parts_congr_oval fun x h => hx x (by rw [hop]; exact h)]
  | buildSlice t n ps => simp only; rw [parts_congr_oval fun x h => hx x (by rw [hop]; exact h)]
  | load t x => simp only; rw [hx x (by simp [hop, Op.operands])]
  | store t x y => simp only; rw [hx x (by simp [hop, Op.operands]), hx y (by simp [hop, Op.operands])]
  | nilCheck x => simp only; rw [hx x (by simp [hop, Op.operands])]
  | binOp op t x y t' => simp only; rw [hx x (by simp [hop, Op.operands]), hx y (by simp [hop, Op.operands])]
  | unOp op t x => simp only; rw [hx x (by simp [hop, Op.operands])]
  | convert s d x => simp only; rw [hx x (by simp [hop, Op.operands])]
  | makeFunc fn first caps =>
    cases fn with
    | func f =>
      simp only
      rw [map_congr_oval fun x h => hx x (by rw [hop]; simp only [Op.operands, Array.mem_append]; exact .inl h), map_congr_oval fun x h => hx x (by rw [hop]; simp only [Op.operands, Array.mem_append]; exact .inr h)]
    | _ => rfl
  | makeSlice t l c => simp only; rw [hx l (by simp [hop, Op.operands]), hx c (by simp [hop, Op.operands])]
  | slice t x lo hi mx =>
    simp only
    rw [hx x (by simp [hop, Op.operands]), opt_congr_oval fun y h => hx y (by rw [hop]; simp only [Op.operands, Array.mem_append]; exact .inl (.inl (.inr h))), opt_congr_oval fun y h => hx y (by rw [hop]; simp only [Op.operands, Array.mem_append]; exact .inl (.inr h)),
      opt_congr_oval fun y h => hx y (by rw [hop]; simp only [Op.operands, Array.mem_append]; exact .inr h)]
  | fieldAddr s x f => simp only; rw [hx x (by simp [hop, Op.operands])]
  | field s x f => simp only; rw [hx x (by simp [hop, Op.operands])]
  | indexAddr t x i => simp only; rw [hx x (by simp [hop, Op.operands]), hx i (by simp [hop, Op.operands])]
  | index t x i => simp only; rw [hx x (by simp [hop, Op.operands]), hx i (by simp [hop, Op.operands])]
  | extract t i => simp only; rw [hx t (by simp [hop, Op.operands])]
  | makeMap t rsv => cases rsv <;> rfl
  | lookup t x k ok => simp only; rw [hx x (by simp [hop, Op.operands]), hx k (by simp [hop, Op.operands])]
  | mapUpdate t x k y => simp only; rw [hx x (by simp [hop, Op.operands]), hx k (by simp [hop, Op.operands]), hx y (by simp [hop, Op.operands])]
  | insert t x k y => simp only; rw [hx x (by simp [hop, Op.operands]), hx k (by simp [hop, Op.operands]), hx y (by simp [hop, Op.operands])]
  | mapEntry t x k => simp only; rw [hx x (by simp [hop, Op.operands]), hx k (by simp [hop, Op.operands])]
  | entryStore t x s y => simp only; rw [hx x (by simp [hop, Op.operands]), hx s (by simp [hop, Op.operands]), hx y (by simp [hop, Op.operands])]
  | range t x => simp only; rw [hx x (by simp [hop, Op.operands])]
  | next x s => cases s <;> simp only; rw [hx x (by simp [hop, Op.operands])]
  | entry x => simp only; rw [hx x (by simp [hop, Op.operands])]
  | call c =>
    simp only
    have hargs := map_congr_oval (env := env) (env' := env') (xs := c.args) fun x h => hx x (by rw [hop]; simp only [Op.operands, Call.operands, Array.mem_append]; exact .inr h)
    cases hc : c.callee with
    | value f => simp only; rw [hargs, hx f (by rw [hop]; simp [Op.operands, Call.operands, hc])]
    | builtin b => simp only; rw [hargs]
    | invoke _ _ => rfl
  | _ => rfl
theorem aop_pure {env : Env} {h h' : AHeap} {o : Oper} {v : AV} (he : effOp P md o = false) (hr : readOp P o = false) :
    (aop P env h o = some (.value v h') → h' = h ∧ ∀ h2, aop P env h2 o = some (.value v h2)) ∧ (∀ f as, aop P env h o ≠ some (.call f as h')) := by
  have one : ∀ {x : Option AV}, ato x h = some (.value v h') → h' = h ∧ ∀ h2, ato x h2 = some (.value v h2) := by
    intro x e
    obtain ⟨rfl, rfl⟩ := ato_inv e
    exact ⟨rfl, fun h2 => rfl⟩
  unfold aop
  unfold effOp at he
  unfold readOp at hr
  cases hop : o.op with
  | move x => simp only; exact ⟨fun e => (by cases e; exact ⟨rfl, fun _ => rfl⟩), fun f as e => (by cases e)⟩
  | assign x => simp only; exact ⟨fun e => (by cases e; exact ⟨rfl, fun _ => rfl⟩), fun f as e => (by cases e)⟩
  | pick c a b => simp only; exact ⟨one, fun f as e => ato_call e⟩
  | build t ps => simp only; exact ⟨one, fun f as e => ato_call e⟩
  | buildSlice t n ps =>
    simp only [hop] at he ⊢
    simp only [he, Bool.false_eq_true, if_false]
    exact ⟨one, fun f as e => ato_call e⟩
  | nilCheck x => simp only; exact ⟨one, fun f as e => ato_call e⟩
  | binOp op t x y t' => simp only; exact ⟨one, fun f as e => ato_call e⟩
  | unOp op t x => simp only; exact ⟨one, fun f as e => ato_call e⟩
  | convert s d x =>
    simp only [hop] at he hr ⊢
    refine ⟨fun e => ?_, fun f as e => ato2_call e⟩
    replace e := ato2_inv e
    unfold aconvert at e ⊢
    cases hs : P.underlying s <;> cases hd : P.underlying d <;> simp only [hs, hd] at e he hr ⊢ <;> first
      | (cases e; done)
      | skip
    rename_i ds dd
    cases ds <;> cases dd <;> simp only at e he hr ⊢ <;> first
      | (cases e; done)
      | (cases he; done)
      | (cases hr; done)
      | (split at e
         · cases e; exact ⟨rfl, fun _ => rfl⟩
         · cases e)
  | makeFunc fn first caps =>
    cases fn with
    | func f => simp only; exact ⟨fun e => (by cases e; exact ⟨rfl, fun _ => rfl⟩), fun f as e => (by cases e)⟩
    | _ => exact ⟨fun e => (by cases e), fun f as e => (by cases e)⟩
  | slice t x lo hi mx =>
    simp only [hop] at hr ⊢
    refine ⟨fun e => ?_, fun f as e => ato_call e⟩
    obtain ⟨e', rfl⟩ := ato_inv e
    refine ⟨rfl, fun h2 => ?_⟩
    cases hx : oval env x with
    | ptr id off =>
      rw [hx] at e'
      unfold asliceAt asliceArr at e'
      cases hta : tarr P t with
      | some p => rw [hta] at hr; cases hr
      | none => rw [hta] at e'; cases e'
    | _ => rw [hx] at e'; unfold asliceAt at e' ⊢; rw [e']; rfl
  | fieldAddr s x f => simp only; exact ⟨one, fun f as e => ato_call e⟩
  | field s x f => simp only; exact ⟨one, fun f as e => ato_call e⟩
  | indexAddr t x i => simp only; exact ⟨one, fun f as e => ato_call e⟩
  | index t x i => simp only; exact ⟨one, fun f as e => ato_call e⟩
  | extract t i =>
    simp only
    split
    · exact ⟨one, fun f as e => ato_call e⟩
    · exact ⟨fun e => (by cases e), fun f as e => (by cases e)⟩
  | call c =>
    simp only [hop] at he hr ⊢
    cases hc : c.callee with
    | value f => simp only [hc] at hr; cases hr
    | invoke _ _ => exact ⟨fun e => (by cases e), fun f as e => (by cases e)⟩
    | builtin b =>
      simp only [hc] at he hr ⊢
      refine ⟨fun e => ?_, fun f as e => ato2_call e⟩
      replace e := ato2_inv e
      generalize c.args.toList.map (oval env) = xs at e ⊢
      unfold abuiltin at e ⊢
      split at e
      · simp only at hr; rw [if_neg (by rw [hr]; simp)] at e; cases e
      · simp only at hr; rw [if_neg (by rw [hr]; simp)] at e; cases e
      · rename_i x _ _
        split at e
        · rename_i hts
          cases hl : alen P (argT c.argTypes 0) x with
          | none => rw [hl] at e; cases e
          | some z => rw [hl] at e; cases e; exact ⟨rfl, fun h2 => by simp [hts, hl, ato2]⟩
        · cases e
      · cases he
      · cases he
      · cases he
      · rename_i x r
        cases hl : afold amin2 x r with
        | none => rw [hl] at e; cases e
        | some z => rw [hl] at e; cases e; exact ⟨rfl, fun h2 => by simp [hl, ato2]⟩
      · rename_i x r
        cases hl : afold amax2 x r with
        | none => rw [hl] at e; cases e
        | some z => rw [hl] at e; cases e; exact ⟨rfl, fun h2 => by simp [hl, ato2]⟩
      · cases e
  | alloc t => simp only [hop] at he; cases he
  | box t x => simp only [hop] at he; cases he
  | store t x y => simp only [hop] at he; cases he
  | makeSlice t l c => simp only [hop] at he; cases he
  | makeMap t x => simp only [hop] at he; cases he
  | mapUpdate t x k y => simp only [hop] at he; cases he
  | insert t x k y => simp only [hop] at he; cases he
  | mapEntry t x k => simp only [hop] at he; cases he
  | entryStore t x k y => simp only [hop] at he; cases he
  | range t x => simp only [hop] at he; cases he
  | next x s => simp only [hop] at he; cases he
  | lookup t x k ok => simp only [hop] at hr; cases hr
  | entry x => simp only [hop] at hr; cases hr
  | load t x => simp only [hop] at hr; cases hr
  | _ => exact ⟨fun e => (by cases e), fun f as e => (by cases e)⟩

/-! ### The text's own run -/
structure Trace (P : Program) (md : FuncId → Nat) (call : CallF) (ops : Array Oper) (n : Nat) (E : Nat → Env) (H : Nat → AHeap) (v : Nat → AV) : Prop where
  step : ∀ i o, i < n → ops[i]? = some o → E (i + 1) = aput (E i) o.dst (v i) ∧
    ((aguard ops (E i) o = some true ∧ astep P md call (E i) (H i) o = some (v i, H (i + 1)) ∧ (effOp P md o = true ∨ H (i + 1) = H i)) ∨ (aguard ops (E i) o = some false ∧ v i = .und ∧ H (i + 1) = H i))
theorem trace_of {call : CallF} {ops : Array Oper} : ∀ (l : List Oper) (k : Nat) {env env' : Env} {h h' : AHeap}, (∀ j, l[j]? = ops[k + j]?) → runDraw P md call ops l env h = some (env', h') →
    ∃ (E : Nat → Env) (H : Nat → AHeap) (v : Nat → AV), E k = env ∧ H k = h ∧ E (k + l.length) = env' ∧ H (k + l.length) = h' ∧
      ∀ i o, k ≤ i → i < k + l.length → ops[i]? = some o → E (i + 1) = aput (E i) o.dst (v i) ∧
        ((aguard ops (E i) o = some true ∧ astep P md call (E i) (H i) o = some (v i, H (i + 1)) ∧ (effOp P md o = true ∨ H (i + 1) = H i)) ∨ (aguard ops (E i) o = some false ∧ v i = .und ∧ H (i + 1) = H i)) := by
  intro l
  induction l with
  | nil =>
    intro k env env' h h' _ e
    cases e
    exact ⟨fun _ => env, fun _ => h, fun _ => .und, rfl, rfl, rfl, rfl, fun i o h1 h2 => by simp at h2; omega⟩
  | cons o l ih =>
    intro k env env' h h' hl e
    have h0 : ops[k]? = some o := by simpa using (hl 0).symm
    have hl' : ∀ j, l[j]? = ops[k + 1 + j]? := fun j => by have := hl (j + 1); simpa [Nat.add_assoc, Nat.add_comm 1 j] using this
    have go : ∀ (v0 : AV) (h1 : AHeap), runDraw P md call ops l (aput env o.dst v0) h1 = some (env', h') →
        ((aguard ops env o = some true ∧ astep P md call env h o = some (v0, h1) ∧ (effOp P md o = true ∨ h1 = h)) ∨ (aguard ops env o = some false ∧ v0 = .und ∧ h1 = h)) →
        ∃ (E : Nat → Env) (H : Nat → AHeap) (v : Nat → AV), E k = env ∧ H k = h ∧ E (k + (o :: l).length) = env' ∧ H (k + (o :: l).length) = h' ∧
          ∀ i o', k ≤ i → i < k + (o :: l).length → ops[i]? = some o' → E (i + 1) = aput (E i) o'.dst (v i) ∧
            ((aguard ops (E i) o' = some true ∧ astep P md call (E i) (H i) o' = some (v i, H (i + 1)) ∧ (effOp P md o' = true ∨ H (i + 1) = H i)) ∨ (aguard ops (E i) o' = some false ∧ v i = .und ∧ H (i + 1) = H i)) := by
      intro v0 h1 hrun hst
      obtain ⟨E, H, v, e1, e2, e3, e4, e5⟩ := ih (k + 1) hl' hrun
      refine ⟨fun i => if i = k then env else E i, fun i => if i = k then h else H i, fun i => if i = k then v0 else v i, by simp, by simp, ?_, ?_, ?_⟩
      · simp only [List.length_cons]
        rw [if_neg (by omega), ← e3]; congr 1; omega
      · simp only [List.length_cons]
        rw [if_neg (by omega), ← e4]; congr 1; omega
      · intro i o' h2 h3 h4
        simp only [List.length_cons] at h3
        by_cases hik : i = k
        · subst hik
          rw [h0] at h4; cases h4
          simp only [if_true]
          rw [if_neg (by omega), if_neg (by omega), e1, e2]
          exact ⟨rfl, hst⟩
        · simp only [if_neg hik]
          rw [if_neg (by omega), if_neg (by omega)]
          exact e5 i o' (by omega) (by omega) h4
    simp only [runDraw] at e
    split at e
    · rename_i hw
      split at e
      · rename_i v0 h1 hs
        split at e
        · rename_i hq
          exact go v0 h1 e (.inl ⟨hw, hs, hq⟩)
        · cases e
      · cases e
    · rename_i hw
      exact go .und h e (.inr ⟨hw, rfl, rfl⟩)
    · cases e

/-! ### Puts, in the text's order -/
def puts (ops : Array Oper) (v : Nat → AV) (l : List Nat) (env : Env) : Env := l.foldl (fun e j => aput e ((ops[j]?).bind (·.dst)) (v j)) env
def writes (ops : Array Oper) (t : Nat) (j : Nat) : Bool := (ops[j]?).bind (·.dst) == some t
theorem aput_length (env : Env) (d : Option Tmp) (v : AV) : (aput env d v).length = env.length := by cases d <;> simp [aput]
theorem puts_length (ops : Array Oper) (v : Nat → AV) : ∀ (l : List Nat) (env : Env), (puts ops v l env).length = env.length
  | [], _ => rfl
  | j :: l, env => by
    have := puts_length ops v l (aput env ((ops[j]?).bind (·.dst)) (v j))
    rw [aput_length] at this; exact this
theorem aput_get (env : Env) (d : Option Tmp) (v : AV) (t : Nat) : (aput env d v)[t]? = if d = some t then (if t < env.length then some v else none) else env[t]? := by
  cases d with
  | none => simp [aput]
  | some d =>
    simp only [aput, List.getElem?_set, Option.some.injEq]
    split
    · rename_i h; subst h; simp
    · rfl
theorem puts_get (ops : Array Oper) (v : Nat → AV) (t : Nat) : ∀ (l : List Nat) (env : Env), (puts ops v l env)[t]? = (puts ops v (l.filter (writes ops t)) env)[t]? := by
  intro l
  induction l with
  | nil => intro env; rfl
  | cons j l ih =>
    intro env
    by_cases hw : writes ops t j = true
    · rw [List.filter_cons_of_pos hw]
      exact ih _
    · rw [List.filter_cons_of_neg hw]
      have h1 : (puts ops v (j :: l) env)[t]? = (puts ops v l (aput env ((ops[j]?).bind (·.dst)) (v j)))[t]? := rfl
      rw [h1, ih]
      -- the put ahead of them does not touch the slot
      have key : ∀ (m : List Nat) (e1 e2 : Env), e1.length = e2.length → e1[t]? = e2[t]? → (puts ops v m e1)[t]? = (puts ops v m e2)[t]? := by
        intro m
        induction m with
        | nil => intro e1 e2 _ h; exact h
        | cons i m ihm =>
          intro e1 e2 hl h
          refine ihm _ _ (by rw [aput_length, aput_length, hl]) ?_
          rw [aput_get, aput_get, hl, h]
      refine key _ _ _ (aput_length _ _ _) ?_
      rw [aput_get, if_neg]
      intro hd
      exact hw (by simp [writes, hd])
theorem filter_upto {n i : Nat} (hi : i ≤ n) {p q : Nat → Bool} (h : ∀ j, j < n → p j = true → (q j = true ↔ j < i)) : ((List.range n).filter q).filter p = (List.range i).filter p := by
  induction n with
  | zero => obtain rfl : i = 0 := by omega
            rfl
  | succ n ih =>
    by_cases hin : i = n + 1
    · subst hin
      rw [List.filter_filter]
      apply List.filter_congr
      intro j hj
      have hj' : j < n + 1 := by simpa using hj
      cases hp : p j with
      | false => rfl
      | true => simp [(h j hj' hp).2 hj']
    · rw [List.range_succ, List.filter_append, List.filter_append, ih (by omega) fun j hj => h j (by omega)]
      have : ([n].filter q).filter p = [] := by
        rw [List.filter_filter]
        cases hp : p n with
        | false => simp [hp]
        | true =>
          have := h n (by omega) hp
          have hq : q n = false := by cases hq : q n with
            | false => rfl
            | true => have := this.1 hq; omega
          simp [hp, hq]
      rw [this, List.append_nil]

/-! ### Any order -/
section any
variable {call : CallF} {ops : Array Oper} {E : Nat → Env} {H : Nat → AHeap} {v : Nat → AV}
def isEff (P : Program) (md : FuncId → Nat) (ops : Array Oper) (j : Nat) : Bool := match ops[j]? with | some o => effOp P md o | none => false
def lastH (H : Nat → AHeap) : List Nat → AHeap
  | [] => H 0
  | j :: r => match r with
    | [] => H (j + 1)
    | r => lastH H r
theorem lastH_mem (H : Nat → AHeap) : ∀ l : List Nat, lastH H l = H 0 ∨ ∃ j ∈ l, lastH H l = H (j + 1)
  | [] => .inl rfl
  | [a] => .inr ⟨a, by simp, rfl⟩
  | a :: b :: l => by
    rcases lastH_mem H (b :: l) with h | ⟨j, hj, h⟩
    · exact .inl (by simpa [lastH] using h)
    · exact .inr ⟨j, List.mem_cons_of_mem _ hj, by simpa [lastH] using h⟩
theorem lastH_snoc (H : Nat → AHeap) : ∀ (l : List Nat) (j : Nat), lastH H (l ++ [j]) = H (j + 1)
  | [], j => rfl
  | [a], j => rfl
  | a :: b :: l, j => by
    have := lastH_snoc H (b :: l) j
    simpa [lastH] using this
theorem H_eq (tr : Trace P md call ops ops.size E H v) : ∀ i, i ≤ ops.size → H i = lastH H ((List.range i).filter (isEff P md ops)) := by
  intro i
  induction i with
  | zero => intro _; rfl
  | succ i ih =>
    intro hi
    have hlt : i < ops.size := by omega
    have ho : ops[i]? = some ops[i] := by simp [hlt]
    rw [List.range_succ, List.filter_append]
    cases he : isEff P md ops i with
    | true => rw [List.filter_cons_of_pos he, List.filter_nil, lastH_snoc]
    | false =>
      rw [List.filter_cons_of_neg (by rw [he]; simp), List.filter_nil, List.append_nil, ← ih (by omega)]
      have hne : effOp P md ops[i] = false := by simpa [isEff, ho] using he
      obtain ⟨_, hst⟩ := tr.step i _ hlt ho
      rcases hst with ⟨_, _, h3⟩ | ⟨_, _, h3⟩
      · rcases h3 with h3 | h3
        · rw [hne] at h3; cases h3
        · exact h3
      · exact h3
theorem E_eq (tr : Trace P md call ops ops.size E H v) : ∀ i, i ≤ ops.size → E i = puts ops v (List.range i) (E 0) := by
  intro i
  induction i with
  | zero => intro _; rfl
  | succ i ih =>
    intro hi
    have hlt : i < ops.size := by omega
    have ho : ops[i]? = some ops[i] := by simp [hlt]
    rw [(tr.step i _ hlt ho).1, ih (by omega), List.range_succ]
    simp [puts, List.foldl_append, ho]
def on (listed : Array Bool) (j : Nat) : Bool := listed.getD j false
def envAt (ops : Array Oper) (v : Nat → AV) (e0 : Env) (listed : Array Bool) : Env := puts ops v ((List.range ops.size).filter (on listed)) e0
def heapAt (P : Program) (md : FuncId → Nat) (ops : Array Oper) (H : Nat → AHeap) (listed : Array Bool) : AHeap := lastH H (((List.range ops.size).filter (on listed)).filter (isEff P md ops))
theorem drawOk_parts {L : Bool} (hok : drawOk1 P md ops L = true) :
    Region.departs ops = false ∧ (∀ (i : Nat) (o : Oper), ops[i]? = some o → ∀ e ∈ o.after, e.on < i) ∧
    (∀ (i : Nat) (o : Oper) (j : Nat) (o' : Oper) (t : Nat), ops[i]? = some o → ops[j]? = some o' → t ∈ tmpsOf ops o → o'.dst = some t → i = j ∨ ordered (Region.before ops) i j = true) ∧
    (∀ (i : Nat) (o : Oper) (j : Nat) (o' : Oper), ops[i]? = some o → ops[j]? = some o' → effOp P md o = true → (effOp P md o' = true ∨ (readOp P o' = true ∧ ¬ (L = true ∧ isLoad o' = true))) → i = j ∨ ordered (Region.before ops) i j = true) := by
  simp only [drawOk1, Bool.and_eq_true, Bool.not_eq_true', List.all_eq_true, Array.all_eq_true_iff_forall_mem, decide_eq_true_eq, Bool.or_eq_true, beq_iff_eq, bne_iff_ne, Bool.not_eq_eq_eq_not, Bool.not_true] at hok
  obtain ⟨⟨⟨h1, h2⟩, h3⟩, h4⟩ := hok
  have mem : ∀ {i o}, ops[i]? = some o → (o, i) ∈ ops.toList.zipIdx := by
    intro i o h
    rw [List.mem_zipIdx_iff_getElem?]
    simpa using h
  refine ⟨h1, fun i o ho e he => h2 (o, i) (mem ho) e he, fun i o j o' t ho ho' ht hd => ?_, fun i o j o' ho ho' he hr => ?_⟩
  · rcases h3 (o, i) (mem ho) t ht (o', j) (mem ho') with (h | h) | h
    · exact .inl h
    · exact absurd hd h
    · exact .inr h
  · rcases h4 (o, i) (mem ho) with h | h
    · rw [he] at h; cases h
    · rcases h (o', j) (mem ho') with (h | h) | h
      · exact .inl h
      · exfalso
        rcases hr with hr | ⟨hr, hl⟩
        · simp [hr] at h
        · cases L <;> simp_all
      · exact .inr h
/-! ### What the edges order -/
def Closed (ops : Array Oper) (Y : Nat → Prop) : Prop := ∀ (j : Nat) (o : Oper), ops[j]? = some o → Y j → ∀ e ∈ o.after, Region.binds .any e = true → Y e.on
theorem getD_push (acc : Array Nat) (s j : Nat) : (acc.push s).getD j 0 = if j = acc.size then s else acc.getD j 0 := by
  simp only [Array.getD_eq_getD_getElem?, Array.getElem?_push]
  split <;> rfl
theorem before_closed {Y : Nat → Prop} (hc : Closed ops Y) {i j : Nat} (hb : ((Region.before ops).getD j 0).testBit i = true) (hj : Y j) : Y i := by
  have key : ∀ (l : List Oper) (acc : Array Nat), (∀ m, l[m]? = ops[acc.size + m]?) → (∀ j i, (acc.getD j 0).testBit i = true → Y j → Y i) →
      ∀ j i, ((l.foldl (fun acc o => acc.push (o.after.foldl (fun s e => if Region.binds .any e then s ||| 2 ^ e.on ||| acc.getD e.on 0 else s) 0)) acc).getD j 0).testBit i = true → Y j → Y i := by
    intro l
    induction l with
    | nil => intro acc _ h; exact h
    | cons o l ih =>
      intro acc hl h
      refine ih _ (fun m => ?_) ?_
      · have := hl (m + 1)
        simp only [Array.size_push]
        rw [show acc.size + 1 + m = acc.size + (m + 1) by omega, ← this]; rfl
      · intro j i hb hj
        rw [getD_push] at hb
        split at hb
        · rename_i hjs
          subst hjs
          have ho : ops[acc.size]? = some o := by have := hl 0; simpa using this.symm
          have hY := hc _ _ ho hj
          rw [← Array.foldl_toList] at hb
          have hY' : ∀ e ∈ o.after.toList, Region.binds .any e = true → Y e.on := fun e he => hY e (by simpa using he)
          revert hb
          have go : ∀ (es : List Edge) (s0 : Nat), (∀ e ∈ es, Region.binds .any e = true → Y e.on) → (s0.testBit i = true → Y i) → (es.foldl (fun s e => if Region.binds .any e then s ||| 2 ^ e.on ||| acc.getD e.on 0 else s) s0).testBit i = true → Y i := by
            intro es
            induction es with
            | nil => intro s0 _ h0 hb; exact h0 hb
            | cons e es ihe =>
              intro s0 hes h0 hb
              refine ihe _ (fun e' he' => hes e' (by simp [he'])) ?_ hb
              intro hb
              dsimp only at hb
              split at hb
              · rename_i hbd
                simp only [Nat.testBit_or, Bool.or_eq_true, Nat.testBit_two_pow, decide_eq_true_eq] at hb
                rcases hb with (hb | hb) | hb
                · exact h0 hb
                · rw [← hb]; exact hes e (by simp) hbd
                · exact h _ _ hb (hes e (by simp) hbd)
              · exact h0 hb
          exact go o.after.toList 0 hY' (fun hb => by simp at hb)
        · exact h j i hb hj
  have := key ops.toList #[] (fun m => by simp) (fun j i hb => by simp at hb) j i
  unfold Region.before at hb
  rw [← Array.foldl_toList] at hb
  exact this hb hj
theorem ordered_on {listed : Array Bool} (hcl : Closed ops fun j => on listed j = true) {i j : Nat} {o : Oper} (ho : ops[i]? = some o) (hi : on listed i = false) (hdeps : ∀ e ∈ o.after, Region.binds .any e = true → on listed e.on = true) (hne : i ≠ j)
    (hb : ordered (Region.before ops) i j = true) : on listed j = true ↔ j < i := by
  unfold ordered at hb
  rcases Nat.lt_or_gt_of_ne hne with hlt | hgt
  · rw [Nat.max_eq_right (by omega), Nat.min_eq_left (by omega)] at hb
    constructor
    · intro hj
      have := before_closed hcl hb hj
      rw [hi] at this; cases this
    · intro h; omega
  · rw [Nat.max_eq_left (by omega), Nat.min_eq_right (by omega)] at hb
    refine ⟨fun _ => hgt, fun _ => ?_⟩
    have hc : Closed ops fun k => on listed k = true ∨ k = i := by
      intro k o' ho' hk e he hbd
      rcases hk with hk | rfl
      · exact .inl (hcl k o' ho' hk e he hbd)
      · rw [ho] at ho'; cases ho'; exact .inl (hdeps e he hbd)
    rcases before_closed hc hb (.inr rfl) with h | h
    · exact h
    · exact absurd h.symm hne
theorem on_set {listed : Array Bool} {i : Nat} (hi : i < listed.size) (j : Nat) : on (listed.setIfInBounds i true) j = if j = i then true else on listed j := by
  unfold on
  simp only [Array.getD_eq_getD_getElem?, Array.getElem?_setIfInBounds]
  by_cases h : i = j
  · subst h; simp [hi]
  · rw [if_neg h, if_neg (fun e => h e.symm)]
theorem getD_of_get {e1 e2 : Env} {t : Nat} (h : e1[t]? = e2[t]?) : e1.getD t .und = e2.getD t .und := by simp only [List.getD, h]
def LooseTr (P : Program) (ops : Array Oper) (E : Nat → Env) (H : Nat → AHeap) (v : Nat → AV) : Prop :=
  ∀ i o, i < ops.size → ops[i]? = some o → isLoad o = true → aguard ops (E i) o = some true → ∀ j, j ≤ ops.size → aop P (E i) (H j) o = some (.value (v i) (H j))
theorem ready_step (tr : Trace P md call ops ops.size E H v) {L : Bool} (hok : drawOk1 P md ops L = true) (hlo : L = true → LooseTr P ops E H v) {listed : Array Bool} (hsz : listed.size = ops.size) (hcl : Closed ops fun j => on listed j = true) {i : Nat} {o : Oper} (ho : ops[i]? = some o)
    (hi : on listed i = false) (hdeps : ∀ e ∈ o.after, Region.binds .any e = true → on listed e.on = true) :
    aguard ops (envAt ops v (E 0) listed) o = aguard ops (E i) o ∧
    aput (envAt ops v (E 0) listed) o.dst (v i) = envAt ops v (E 0) (listed.setIfInBounds i true) ∧
    (aguard ops (E i) o = some true → astep P md call (envAt ops v (E 0) listed) (heapAt P md ops H listed) o = some (v i, heapAt P md ops H (listed.setIfInBounds i true))) ∧
    (aguard ops (E i) o = some false → v i = .und ∧ heapAt P md ops H (listed.setIfInBounds i true) = heapAt P md ops H listed) := by
  obtain ⟨_, _, hT, hM⟩ := drawOk_parts hok
  have hlt : i < ops.size := (Array.getElem?_eq_some_iff.1 ho).1
  have hil : i < listed.size := by omega
  -- the writers of a slot that the operation names
  have hw : ∀ t, t ∈ tmpsOf ops o → ∀ j, j < ops.size → writes ops t j = true → (on listed j = true ↔ j < i) := by
    intro t ht j hj hwr
    by_cases hij : i = j
    · subst hij; rw [hi]; simp
    · have hoj : ops[j]? = some ops[j] := by simp [hj]
      have hd : ops[j].dst = some t := by simpa [writes, hoj] using hwr
      rcases hT i o j _ t ho hoj ht hd with h | h
      · exact absurd h hij
      · exact ordered_on hcl ho hi hdeps hij h
  have hget : ∀ t, t ∈ tmpsOf ops o → (envAt ops v (E 0) listed)[t]? = (E i)[t]? := by
    intro t ht
    unfold envAt
    rw [puts_get, filter_upto (by omega) (hw t ht), ← puts_get, ← E_eq tr i (by omega)]
  have hopd : ∀ x ∈ o.op.operands, oval (envAt ops v (E 0) listed) x = oval (E i) x := by
    intro x hx
    cases x with
    | tmp t =>
      refine getD_of_get (hget t ?_)
      unfold tmpsOf Oper.looksAt
      refine List.mem_append_left _ (List.mem_append_left _ ?_)
      rw [List.mem_filterMap]
      exact ⟨.tmp t, by simpa using hx, rfl⟩
    | _ => rfl
  have hwant : aguard ops (envAt ops v (E 0) listed) o = aguard ops (E i) o := by
    unfold aguard
    cases hg : o.guard with
    | none => rfl
    | some p =>
      obtain ⟨g, wn⟩ := p
      dsimp only
      cases hd : (ops[g]?).bind (·.dst) with
      | none => rfl
      | some d =>
        dsimp only
        rw [getD_of_get (hget d ?_)]
        unfold tmpsOf Oper.looksAt
        refine List.mem_append_left _ (List.mem_append_right _ ?_)
        simp [hg, hd]
  have hlen : (envAt ops v (E 0) listed).length = (E 0).length := puts_length _ _ _ _
  have henv : aput (envAt ops v (E 0) listed) o.dst (v i) = envAt ops v (E 0) (listed.setIfInBounds i true) := by
    apply List.ext_getElem?
    intro t
    rw [aput_get]
    split
    · rename_i hd
      unfold envAt
      rw [puts_get ops v t (List.filter (on (listed.setIfInBounds i true)) (List.range ops.size)), filter_upto (i := i + 1) (by omega) (q := on (listed.setIfInBounds i true)), ← puts_get, ← E_eq tr (i + 1) (by omega), (tr.step i o hlt ho).1, aput_get, if_pos hd]
      · rw [puts_length, E_eq tr i (by omega), puts_length]
      · intro j hj hwr
        rw [on_set hil]
        by_cases hij : j = i
        · subst hij; simp
        · rw [if_neg hij, hw t (by unfold tmpsOf; exact List.mem_append_right _ (by simp [hd])) j hj hwr]; omega
    · rename_i hd
      unfold envAt
      rw [puts_get ops v t, puts_get ops v t (List.filter (on (listed.setIfInBounds i true)) (List.range ops.size))]
      congr 2
      rw [List.filter_filter, List.filter_filter]
      apply List.filter_congr
      intro j hj
      rw [on_set hil]
      by_cases hij : j = i
      · subst hij
        have : writes ops t j = false := by
          cases hwr : writes ops t j with
          | false => rfl
          | true => exact absurd (by simpa [writes, ho] using hwr) hd
        rw [this]; rfl
      · rw [if_neg hij]
  -- the memory
  have hmem : (effOp P md o = true ∨ (readOp P o = true ∧ ¬ (L = true ∧ isLoad o = true))) → heapAt P md ops H listed = H i ∧ heapAt P md ops H (listed.setIfInBounds i true) = H (i + 1) := by
    intro her
    have heff : ∀ j, j < ops.size → isEff P md ops j = true → j ≠ i → (on listed j = true ↔ j < i) := by
      intro j hj he hji
      have hoj : ops[j]? = some ops[j] := by simp [hj]
      have he' : effOp P md ops[j] = true := by simpa [isEff, hoj] using he
      rcases hM j _ i o hoj ho he' her with h | h
      · exact absurd h hji
      · refine ordered_on hcl ho hi hdeps (fun e => hji e.symm) ?_
        unfold ordered at h ⊢
        rw [Nat.max_comm, Nat.min_comm]; exact h
    constructor
    · unfold heapAt
      rw [filter_upto (i := i) (by omega), ← H_eq tr i (by omega)]
      intro j hj he
      by_cases hij : j = i
      · subst hij; rw [hi]; simp
      · exact heff j hj he hij
    · unfold heapAt
      rw [filter_upto (i := i + 1) (by omega), ← H_eq tr (i + 1) (by omega)]
      intro j hj he
      rw [on_set hil]
      by_cases hij : j = i
      · subst hij; simp
      · rw [if_neg hij, heff j hj he hij]; omega
  have hsame : effOp P md o = false → heapAt P md ops H (listed.setIfInBounds i true) = heapAt P md ops H listed := by
    intro he
    unfold heapAt
    congr 1
    rw [List.filter_filter, List.filter_filter]
    apply List.filter_congr
    intro j hj
    rw [on_set hil]
    by_cases hij : j = i
    · subst hij
      have : isEff P md ops j = false := by simpa [isEff, ho] using he
      rw [this]; rfl
    · rw [if_neg hij]
  obtain ⟨_, hst⟩ := tr.step i o hlt ho
  refine ⟨hwant, henv, fun hwn => ?_, fun hwn => ?_⟩
  · rcases hst with ⟨_, h2, h3⟩ | ⟨h1, _⟩
    · have hcong : astep P md call (envAt ops v (E 0) listed) (heapAt P md ops H listed) o = astep P md call (E i) (heapAt P md ops H listed) o := by
        unfold astep; rw [aop_congr hopd]
      rw [hcong]
      by_cases her : effOp P md o = true ∨ (readOp P o = true ∧ ¬ (L = true ∧ isLoad o = true))
      · obtain ⟨k1, k2⟩ := hmem her
        rw [k1, k2]; exact h2
      by_cases hll : L = true ∧ isLoad o = true
      · have he : effOp P md o = false := by cases h : effOp P md o with
          | false => rfl
          | true => exact absurd (.inl h) her
        rw [hsame he]
        have key : ∃ k, k ≤ ops.size ∧ heapAt P md ops H listed = H k := by
          unfold heapAt
          rcases lastH_mem H (((List.range ops.size).filter (on listed)).filter (isEff P md ops)) with h | ⟨j, hj, h⟩
          · exact ⟨0, Nat.zero_le _, h⟩
          · refine ⟨j + 1, ?_, h⟩
            rw [List.mem_filter, List.mem_filter] at hj
            have := List.mem_range.1 hj.1.1
            omega
        obtain ⟨k, hk, hh⟩ := key
        rw [hh]
        have := hlo hll.1 i o hlt ho hll.2 hwn k hk
        unfold astep; rw [this]
      · have he : effOp P md o = false := by cases h : effOp P md o with
          | false => rfl
          | true => exact absurd (.inl h) her
        have hr : readOp P o = false := by cases h : readOp P o with
          | false => rfl
          | true => exact absurd (.inr ⟨h, hll⟩) her
        rw [hsame he]
        unfold astep at h2 ⊢
        split at h2
        · rename_i v' h' hop
          cases h2
          obtain ⟨_, h5⟩ := (aop_pure he hr).1 hop
          rw [h5]
        · rename_i f as h' hop
          exact absurd hop ((aop_pure (v := .und) he hr).2 f as)
        · cases h2
    · rw [hwn] at h1; cases h1
  · rcases hst with ⟨h1, _⟩ | ⟨_, h2, h3⟩
    · rw [hwn] at h1; cases h1
    · refine ⟨h2, ?_⟩
      by_cases he : effOp P md o = true
      · obtain ⟨k1, k2⟩ := hmem (.inl he)
        rw [k1, k2, h3]
      · exact hsame (by simpa using he)
theorem ready_mem {listed : Array Bool} {i : Nat} (hr : i ∈ Region.ready .any ops listed) (hsz : listed.size = ops.size) :
    ∃ o, ops[i]? = some o ∧ on listed i = false ∧ ∀ e ∈ o.after, Region.binds .any e = true → on listed e.on = true := by
  unfold Region.ready at hr
  rw [List.mem_filter] at hr
  obtain ⟨hi, hr⟩ := hr
  have hlt : i < ops.size := by simpa using hi
  have ho : ops[i]? = some ops[i] := by simp [hlt]
  simp only [Bool.and_eq_true, Bool.not_eq_eq_eq_not, Bool.not_true] at hr
  refine ⟨_, ho, ?_, fun e he hbd => ?_⟩
  · have hil : i < listed.size := by omega
    have := hr.1
    unfold on
    simp only [Array.getD_eq_getD_getElem?, Array.getElem?_eq_getElem hil, Option.getD_some] at this ⊢
    exact this
  · have h2 := hr.2
    rw [ho] at h2
    simp only [Option.map_some, Option.getD_some, Array.all_eq_true_iff_forall_mem, Bool.or_eq_true] at h2
    rcases h2 e he with h | h
    · simp only [hbd] at h; cases h
    · exact h
theorem all_on {listed : Array Bool} (hd : ∀ (i : Nat) (o : Oper), ops[i]? = some o → ∀ e ∈ o.after, e.on < i) (hr : Region.ready .any ops listed = []) (hsz : listed.size = ops.size) : ∀ i, i < ops.size → on listed i = true := by
  intro i
  induction i using Nat.strongRecOn with
  | _ i ih =>
    intro hi
    cases hon : on listed i with
    | true => rfl
    | false =>
      exfalso
      have ho : ops[i]? = some ops[i] := by simp [hi]
      have : i ∈ Region.ready .any ops listed := by
        unfold Region.ready
        rw [List.mem_filter]
        refine ⟨by simpa using hi, ?_⟩
        simp only [Bool.and_eq_true, Bool.not_eq_eq_eq_not, Bool.not_true]
        constructor
        · unfold on at hon; simp only [Array.getD_eq_getD_getElem?] at hon ⊢
          have hl : i < listed.size := by omega
          simp [hl] at hon ⊢; exact hon
        · rw [ho]
          simp only [Option.map_some, Option.getD_some, Array.all_eq_true_iff_forall_mem, Bool.or_eq_true]
          intro e he
          have hlt := hd i _ ho e he
          exact .inr (ih e.on hlt (by omega))
      rw [hr] at this; cases this
theorem on_replicate (n j : Nat) : on (Array.replicate n false) j = false := by
  unfold on
  simp only [Array.getD_eq_getD_getElem?, Array.getElem?_replicate]
  split <;> rfl
theorem filter_all {n : Nat} {p : Nat → Bool} (h : ∀ i, i < n → p i = true) : (List.range n).filter p = List.range n :=
  List.filter_eq_self.2 fun i hi => h i (by simpa using hi)
end any
theorem drawText_holds (hmix : P.follows .mixedOrders = true) (call : CallF) (hc : CallOk P call) (ops : Array Oper) (hok : drawOk1 P md ops false = true) {env env' : Env} {h h' : AHeap} {γ : Ghost} {w : World} {a : Act} {X : Nat → Prop} {Q : Exit → Act → World → Prop} (id : Nat)
    (e : runDraw P md call ops ops.toList env h = some (env', h')) (r : R X h γ w) (he : VA w (Ow X h γ) γ env a.tmps)
    (hQ : ∀ a' w' γ', VA w' (Ow X h' γ') γ' env' a'.tmps → Goes X h γ w h' γ' w' → a'.defers = a.defers → Q .normal a' w') : (Code.region id ops true).wp P Q a w := by
  obtain ⟨E, H, v, e1, e2, e3, e4, e5⟩ := trace_of ops.toList 0 (fun j => by simp) e
  have hlo : false = true → LooseTr P ops E H v := fun h => by cases h
  simp only [Nat.zero_add, Array.length_toList] at e3 e4 e5
  have tr : Trace P md call ops ops.size E H v := ⟨fun i o hi ho => e5 i o (Nat.zero_le _) hi ho⟩
  obtain ⟨hdep, hback, _, _⟩ := drawOk_parts hok
  refine wp_region_any hmix ?_
  have hr0 : Goes X h γ w h γ w.drew := drew_goes r
  have fin : ∀ (listed : Array Bool) (a' : Act) (w' : World) (γ' : Ghost), (∀ i, i < ops.size → on listed i = true) → VA w' (Ow X (heapAt P md ops H listed) γ') γ' (envAt ops v (E 0) listed) a'.tmps →
      Goes X h γ w (heapAt P md ops H listed) γ' w' → a'.defers = a.defers → Q .normal a' w' := by
    intro listed a' w' γ' hall hva hg hdf
    have h1 : envAt ops v (E 0) listed = env' := by unfold envAt; rw [filter_all hall, ← E_eq tr _ (Nat.le_refl _), e3]
    have h2 : heapAt P md ops H listed = h' := by unfold heapAt; rw [filter_all hall, ← H_eq tr _ (Nat.le_refl _), e4]
    rw [h1, h2] at hva; rw [h2] at hg
    exact hQ a' w' γ' hva hg hdf
  have main : ∀ (fuel : Nat) (listed : Array Bool) (a' : Act) (w' : World) (γ' : Ghost), listed.size = ops.size → Closed ops (fun j => on listed j = true) → ((List.range ops.size).filter (fun j => !on listed j)).length ≤ fuel →
      VA w' (Ow X (heapAt P md ops H listed) γ') γ' (envAt ops v (E 0) listed) a'.tmps → Goes X h γ w (heapAt P md ops H listed) γ' w' → a'.defers = a.defers → wpAny P .any ops Q fuel listed a' w' := by
    intro fuel
    induction fuel with
    | zero =>
      intro listed a' w' γ' hsz hcl hcnt hva hg hdf
      have hall : ∀ i, i < ops.size → on listed i = true := by
        intro i hi
        have hnil : (List.range ops.size).filter (fun j => !on listed j) = [] := List.eq_nil_of_length_eq_zero (by omega)
        rw [List.filter_eq_nil_iff] at hnil
        have := hnil i (by simpa using hi)
        simpa using this
      refine ⟨?_, fin listed a' w' γ' hall hva hg hdf⟩
      unfold Region.ready
      rw [List.filter_eq_nil_iff]
      intro i hi
      have := hall i (by simpa using hi)
      have hl : i < listed.size := by have : i < ops.size := by simpa using hi
                                      omega
      unfold on at this
      simp only [Array.getD_eq_getD_getElem?] at this ⊢
      simp [hl] at this ⊢
      intro h; rw [this] at h; cases h
    | succ fuel ih =>
      intro listed a' w' γ' hsz hcl hcnt hva hg hdf
      refine ⟨fun hrdy => fin listed a' w' γ' (all_on hback hrdy hsz) hva hg hdf, fun i hi => ?_⟩
      obtain ⟨o, ho, hoff, hdeps⟩ := ready_mem hi hsz
      have hlt : i < ops.size := (Array.getElem?_eq_some_iff.1 ho).1
      obtain ⟨k1, k2, k3, k4⟩ := ready_step tr hok hlo hsz hcl ho hoff hdeps
      have hcl' : Closed ops (fun j => on (listed.setIfInBounds i true) j = true) := by
        intro j o' ho' hj e he hbd
        rw [on_set (by omega)] at hj ⊢
        by_cases hji : j = i
        · subst hji; rw [ho] at ho'; cases ho'
          split
          · rfl
          · exact hdeps e he hbd
        · rw [if_neg hji] at hj
          split
          · rfl
          · exact hcl j o' ho' hj e he hbd
      have hcnt' : ((List.range ops.size).filter (fun j => !on (listed.setIfInBounds i true) j)).length ≤ fuel := by
        have hsub : (List.range ops.size).filter (fun j => !on (listed.setIfInBounds i true) j) = ((List.range ops.size).filter (fun j => !on listed j)).filter (fun j => decide (j ≠ i)) := by
          rw [List.filter_filter]
          apply List.filter_congr
          intro j _
          rw [on_set (by omega)]
          by_cases hji : j = i
          · subst hji; simp
          · simp [hji]
        rw [hsub]
        have hmem : i ∈ (List.range ops.size).filter (fun j => !on listed j) := by
          rw [List.mem_filter]; exact ⟨by simpa using hlt, by simp [hoff]⟩
        have hlen : (((List.range ops.size).filter (fun j => !on listed j)).filter (fun j => decide (j ≠ i))).length < ((List.range ops.size).filter (fun j => !on listed j)).length := by
          apply List.length_filter_lt_length_iff_exists.2
          exact ⟨i, hmem, by simp⟩
        omega
      unfold wpOp
      rw [ho]
      dsimp only
      obtain ⟨wb, hwn⟩ : ∃ b, aguard ops (E i) o = some b := by
        obtain ⟨_, hst⟩ := tr.step i o hlt ho
        rcases hst with ⟨h1, _⟩ | ⟨h1, _⟩ <;> exact ⟨_, h1⟩
      have hwg := guard_eq hva (k1.trans hwn)
      cases wb with
      | true =>
        rw [if_pos hwg]
        refine .inl (step_sound hc hg.rel hva (k3 hwn) fun u w2 γ2 hg2 hv2 => ?_)
        refine ih _ _ _ γ2 (by simpa using hsz) hcl' hcnt' ?_ (hg.trans hg2) (by rw [put_defers, hdf])
        rw [← k2]
        exact (hva.goes hg2).put hv2 o.dst
      | false =>
        rw [if_neg (by rw [hwg]; simp)]
        obtain ⟨k5, k6⟩ := k4 hwn
        refine ih _ _ _ γ' (by simpa using hsz) hcl' hcnt' ?_ (by rw [k6]; exact hg) (by rw [put_defers, hdf])
        rw [← k2, k6]
        exact hva.put (by rw [k5]; exact .val _) o.dst
  have h0 : envAt ops v (E 0) (Array.replicate ops.size false) = env := by
    unfold envAt
    have : (List.range ops.size).filter (on (Array.replicate ops.size false)) = [] := by
      rw [List.filter_eq_nil_iff]; intro i hi; rw [on_replicate]; simp
    rw [this, ← e1]; rfl
  have h1 : heapAt P md ops H (Array.replicate ops.size false) = h := by
    unfold heapAt
    have : (List.range ops.size).filter (on (Array.replicate ops.size false)) = [] := by
      rw [List.filter_eq_nil_iff]; intro i hi; rw [on_replicate]; simp
    rw [this, ← e2]; rfl
  refine main ops.size _ a w.drew γ (by simp) (fun j o ho hj => by dsimp only at hj; rw [on_replicate] at hj; cases hj) (Nat.le_trans (List.length_filter_le _ _) (by simp)) ?_ (by rw [h1]; exact hr0) rfl
  rw [h0, h1]
  exact he.goes hr0
end
end Go.Ab
