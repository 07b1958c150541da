/-
  Calls: what is handed over, what comes back.
-/
import Derived.Test.YtlpkfeplbcadbaaAb13
namespace Go.Ab
set_option linter.unusedSimpArgs false
set_option linter.unusedVariables false
section
variable {P : Program} {X O O' : Nat → Prop} {h h' : AHeap} {γ γ' : Ghost} {w w' : World}

/-! ### What hangs on no ghost -/
theorem solidL_mem : ∀ {cs : List AV}, solidL cs = true → ∀ c ∈ cs, solid c = true
  | [], _, _, hc => by cases hc
  | x :: r, hs, c, hc => by
    simp only [solidL, Bool.and_eq_true] at hs
    rcases List.mem_cons.1 hc with rfl | hc
    · exact hs.1
    · exact solidL_mem hs.2 c hc
theorem solid_cells {e : AV} (hs : solid e = true) {j : Nat} {c : AV} (hj : e.cells[j]? = some c) : solid c = true := by
  cases e with
  | agg cs => exact solidL_mem (cs := cs) (by simpa [solid] using hs) c (List.mem_of_getElem? hj)
  | _ =>
    have hm := List.mem_of_getElem? hj
    simp only [AV.cells, List.mem_singleton] at hm
    subst hm; exact hs
theorem V.solid {a : AV} {v : Value} (hv : V w O γ a v) (hs : solid a = true) (hO : ∀ b, O' b → O b) : V w O' γ' a v := by
  induction hv with
  | unk v => exact .unk v
  | val v => exact .val v
  | agg cs vs hl hc _ ih => exact .agg cs vs hl hc fun i c v hi hu => ih i c v hi hu (solidL_mem (by simpa [Ab.solid] using hs) c (List.mem_of_getElem? hi))
  | tup cs vs hl _ ih => exact .tup cs vs hl fun i c v hi hu => ih i c v hi hu (solidL_mem (by simpa [Ab.solid] using hs) c (List.mem_of_getElem? hi))
  | slc0 full a0 => exact .slc0 full a0
  | slc full es b o cap k vals hcap hfull hk hc _ ih =>
    have hes : solidL es = true := by simp only [Ab.solid, Bool.and_eq_true] at hs; exact hs.2
    exact .slc full es b o cap k vals hcap hfull hk (fun i j e c he hj => ⟨(hc i j e c he hj).1, fun ho => (hc i j e c he hj).2.1 (hO _ ho), (hc i j e c he hj).2.2⟩)
      fun i j e c he hj => ih i j e c he hj (solid_cells (solidL_mem hes e (List.mem_of_getElem? he)) hj)
  | _ => simp [Ab.solid] at hs
theorem flat_V {a : AV} {v : Value} (hv : V w O γ a v) (hs : flat a = true) : V w' O' γ' a v := by
  have one : ∀ {c : AV} {u : Value}, flat1 c = true → V w O γ c u → V w' O' γ' c u := by
    intro c u hc hu
    cases c <;> first | (simp [flat1] at hc; done) | skip
    rw [hu.val_inv]; exact .val _
  cases hv with
  | val v => exact .val v
  | agg cs vs hl hc hv => exact .agg cs vs hl hc fun i c v hi hu => one (List.all_eq_true.1 hs c (List.mem_of_getElem? hi)) (hv i c v hi hu)
  | tup cs vs hl hv => exact .tup cs vs hl fun i c v hi hu => one (List.all_eq_true.1 hs c (List.mem_of_getElem? hi)) (hv i c v hi hu)
  | _ => simp [flat] at hs

/-! ### Quiet steps, and arrays that are handed away -/
theorem quiet_goes (r : R X h γ w) (s : Step w w' (fun _ => False)) : Goes X h γ w h γ w' := by
  have hsees : Sees w (Ow X h γ) γ w' (Ow X h γ) γ := ⟨fun _ _ _ e => e, fun b off v hO hv => ⟨hO, by rw [cell?_of_heap (s.keep b (lt_of_cell hv) id)]; exact hv⟩, s.row⟩
  exact ⟨⟨r.dom, r.gens, fun id => (r.obj id).keep hsees fun g b p e1 e2 => s.keep b (r.own_lt ⟨id, g, p, e2, e1⟩) (fun e => e), r.inj, r.apart, fun b hb => Nat.lt_of_lt_of_le (r.xin b hb) s.size⟩,
    fun _ _ _ e => e, ⟨s.os, s.tape, s.output, s.size, fun b hb _ => s.keep b hb (fun e => e), s.row⟩, fun _ _ e => e⟩
theorem own_frz1 {id b : Nat} (ho : Own (frz1 h id) γ b) : Own h γ b := by
  unfold frz1 at ho
  split at ho
  · rename_i k es g hid
    obtain ⟨i, g', p, e1, e2⟩ := ho
    by_cases hi : id = i
    · subst hi
      have hl : id < h.length := hget_lt hid (by simp)
      rw [hget_set_eq hl] at e1; cases e1
    · rw [hget_set_ne hi] at e1
      exact ⟨i, g', p, e1, e2⟩
  · exact ho
theorem own_frzAll {b : Nat} : ∀ (ids : List Nat) {h : AHeap}, Own (frzAll h ids) γ b → Own h γ b
  | [], _, ho => ho
  | id :: r, _, ho => own_frz1 (own_frzAll r ho)
theorem frz1_R {id : Nat} (r : R X h γ w) : R X (frz1 h id) γ w := by
  unfold frz1
  split
  · rename_i k es g hid
    have hl : id < h.length := hget_lt hid (by simp)
    have hsub : ∀ b, Own (h.set id (.frz k es g)) γ b → Own h γ b := by
      rintro b ⟨i, g', p, e1, e2⟩
      by_cases hi : id = i
      · subst hi; rw [hget_set_eq hl] at e1; cases e1
      · rw [hget_set_ne hi] at e1; exact ⟨i, g', p, e1, e2⟩
    have hsees : Sees w (Ow X h γ) γ w (Ow X (h.set id (.frz k es g)) γ) γ :=
      ⟨fun _ _ _ e => e, fun b off v hO hv => ⟨fun ho => hO (ho.imp (fun e => e) (hsub b)), hv⟩, fun _ c _ z hh => ⟨c, z, hh, rfl⟩⟩
    have hobj := r.obj id
    rw [hid] at hobj
    obtain ⟨b, o, hg, hf, hr⟩ := hobj
    refine ⟨fun i g' p e => by simpa using r.dom i g' p e, fun i k' es' g1 g' p e1 e2 => ?_, fun i => ?_, fun i i' g1 g2 b' p p' e1 e2 e3 e4 => ?_, fun b' ho => r.apart b' (hsub b' ho), r.xin⟩
    · by_cases hi : id = i
      · subst hi; rw [hget_set_eq hl] at e1; cases e1
      · rw [hget_set_ne hi] at e1; exact r.gens i k' es' g1 g' p e1 e2
    · by_cases hi : id = i
      · subst hi
        rw [hget_set_eq hl]
        refine ⟨b, o, hg, hr.mono hsees fun _ => rfl, fun _ _ _ _ _ _ ho => ?_⟩
        rcases ho with hx | ⟨i, g', p, e1, e2⟩
        · exact r.apart b ⟨id, g, o, by rw [hid]; rfl, hg⟩ hx
        · by_cases hi : id = i
          · subst hi; rw [hget_set_eq hl] at e1; cases e1
          · rw [hget_set_ne hi] at e1
            exact hi (r.inj _ _ _ _ _ _ _ (by rw [hid]; rfl) hg e1 e2)
      · rw [hget_set_ne hi]
        exact (r.obj i).keep hsees fun _ _ _ _ _ => rfl
    · by_cases hi : id = i
      · subst hi; rw [hget_set_eq hl] at e1; cases e1
      · by_cases hi' : id = i'
        · subst hi'; rw [hget_set_eq hl] at e3; cases e3
        · rw [hget_set_ne hi] at e1; rw [hget_set_ne hi'] at e3
          exact r.inj _ _ _ _ _ _ _ e1 e2 e3 e4
  · exact r
theorem frzAll_R : ∀ (ids : List Nat) {h : AHeap}, R X h γ w → R X (frzAll h ids) γ w
  | [], _, r => r
  | _ :: l, _, r => frzAll_R l (frz1_R r)
theorem frzAll_goes (r : R X h γ w) (ids : List Nat) : Goes X h γ w (frzAll h ids) γ w :=
  ⟨frzAll_R ids r, fun _ _ _ e => e, Step.refl _ _, fun _ _ ho => own_frzAll ids ho⟩
/-- An array that was handed away is owned no more. -/
theorem hget_frz1_self {id : Nat} {k g : Nat} {es : List AV} (hid : hget h id = .arr k es g) : hget (frz1 h id) id = .frz k es g := by
  unfold frz1; rw [hid]; exact hget_set_eq (hget_lt hid (by simp))
theorem hget_frz1_frz {id i : Nat} {k g : Nat} {es : List AV} (hid : hget h i = .frz k es g) : hget (frz1 h id) i = .frz k es g := by
  unfold frz1
  split
  · rename_i k' es' g' h1
    by_cases hi : id = i
    · subst hi; rw [h1] at hid; cases hid
    · rw [hget_set_ne hi]; exact hid
  · exact hid
theorem hget_frzAll_frz {i : Nat} {k g : Nat} {es : List AV} : ∀ (ids : List Nat) {h : AHeap}, hget h i = .frz k es g → hget (frzAll h ids) i = .frz k es g
  | [], _, e => e
  | _ :: r, _, e => hget_frzAll_frz r (hget_frz1_frz e)
theorem hget_frz1_ne {id i : Nat} (hi : id ≠ i) : hget (frz1 h id) i = hget h i := by
  unfold frz1; split
  · exact hget_set_ne hi
  · rfl
theorem hget_frzAll_mem {i : Nat} {k g : Nat} {es : List AV} : ∀ (ids : List Nat) {h : AHeap}, i ∈ ids → hget h i = .arr k es g → hget (frzAll h ids) i = .frz k es g
  | [], _, hi, _ => by cases hi
  | id :: r, h, hi, e => by
    by_cases he : id = i
    · subst he; exact hget_frzAll_frz r (hget_frz1_self e)
    · rcases List.mem_cons.1 hi with rfl | hi
      · exact absurd rfl he
      · exact hget_frzAll_mem r hi (by rw [hget_frz1_ne he]; exact e)
theorem frz_not_own (r : R X h γ w) {ids : List Nat} {i k g b o : Nat} {es : List AV} (hi : i ∈ ids) (hid : hget h i = .arr k es g) (hg : γ i g = some (b, o)) : ¬ Ow X (frzAll h ids) γ b := by
  rintro (hx | ho)
  · exact r.apart b ⟨i, g, o, by rw [hid]; rfl, hg⟩ hx
  · have r' := frzAll_R ids r
    obtain ⟨i', g', p, e1, e2⟩ := ho
    have e3 := hget_frzAll_mem ids hi hid
    -- in the old memory both own the block
    have ho' : Own h γ b := own_frzAll ids ⟨i', g', p, e1, e2⟩
    have back : ∀ (ids : List Nat) {h : AHeap}, ogen (hget (frzAll h ids) i') = some g' → ogen (hget h i') = some g' := by
      intro ids
      induction ids with
      | nil => intro h e; exact e
      | cons id r ih =>
        intro h e
        have e := ih e
        unfold frz1 at e
        split at e
        · rename_i k' es' g2 h1
          by_cases hne : id = i'
          · subst hne; rw [hget_set_eq (hget_lt h1 (by simp))] at e; cases e
          · rw [hget_set_ne hne] at e; exact e
        · exact e
    have e1' := back ids e1
    have : i' = i := r.inj _ _ _ _ _ _ _ e1' e2 (by rw [hid]; rfl) hg
    subst this
    rw [e3] at e1; cases e1

/-! ### Values as ones that nobody writes any more -/
theorem exp1_okVal {d : Nat} {a a' : AV} {ids : List Nat} (e : exp1 h d a = some (a', ids)) (hk : okVal a = true) : okVal a' = true := by
  cases d with
  | zero =>
    simp only [exp1] at e
    split at e
    · cases e; exact hk
    · cases e
  | succ d =>
    simp only [exp1] at e
    split at e
    · cases e; exact hk
    · split at e
      · cases hx : expL (exp1 h d) _ <;> rw [hx] at e <;> cases e; rfl
      · simp [okVal] at hk
      · cases hx : expL (exp1 h d) _ <;> rw [hx] at e <;> cases e; rfl
      · split at e
        · cases hx : expL (exp1 h d) _ <;> rw [hx] at e <;> cases e; rfl
        · cases e
      · cases e; rfl
      · cases e
theorem exp1_isCell {d : Nat} {a a' : AV} {ids : List Nat} (e : exp1 h d a = some (a', ids)) (hk : isCell a = true) : isCell a' = true := by
  cases d with
  | zero =>
    simp only [exp1] at e
    split at e
    · cases e; exact hk
    · cases e
  | succ d =>
    simp only [exp1] at e
    split at e
    · cases e; exact hk
    · split at e
      · simp [isCell] at hk
      · simp [isCell] at hk
      · cases hx : expL (exp1 h d) _ <;> rw [hx] at e <;> cases e; rfl
      · split at e
        · cases hx : expL (exp1 h d) _ <;> rw [hx] at e <;> cases e; rfl
        · cases e
      · cases e; rfl
      · cases e
theorem expL_inv {f : AV → Option (AV × List Nat)} : ∀ {l l' : List AV} {ids : List Nat}, expL f l = some (l', ids) →
    l'.length = l.length ∧ (∀ (i : Nat) (x : AV), l[i]? = some x → ∃ y js, f x = some (y, js) ∧ l'[i]? = some y ∧ ∀ j ∈ js, j ∈ ids)
  | [], l', ids, e => by cases e; exact ⟨rfl, fun i x hx => by simp at hx⟩
  | x :: r, l', ids, e => by
    unfold expL at e
    split at e
    · rename_i y i0 l1 j0 h1 h2
      cases e
      obtain ⟨a1, a2⟩ := expL_inv h2
      refine ⟨by simp [a1], fun i z hz => ?_⟩
      cases i with
      | zero => cases hz; exact ⟨y, i0, h1, rfl, fun j hj => List.mem_append_left _ hj⟩
      | succ n =>
        obtain ⟨y', js, b1, b2, b3⟩ := a2 n z (by simpa using hz)
        exact ⟨y', js, b1, by simpa using b2, fun j hj => List.mem_append_right _ (b3 j hj)⟩
    · cases e
/-- An element as a value. -/
theorem elem_value {e : AV} {k : Nat} {vals : Nat → Value} (hk : okVal e = true) (hl : e.cells.length = k) (hc : ∀ (j : Nat) (c : AV), e.cells[j]? = some c → isCell c = true ∧ V w O γ c (vals j)) :
    ∃ u, V w O γ e u ∧ ∀ j, j < k → u.cells[j]? = some (vals j) := by
  cases e with
  | agg cs =>
    refine ⟨.agg ((List.range k).map vals).toArray, .agg cs _ (by have : cs.length = k := hl; simpa using this) (fun i c hi => (hc i c hi).1) (fun i c v hi hu => ?_), fun j hj => by simp [Value.cells, hj]⟩
    have hi' : i < k := by have := (List.getElem?_eq_some_iff.1 hi).1; have hl' : cs.length = k := hl; omega
    simp [hi'] at hu; subst hu
    exact (hc i c hi).2
  | tup _ => simp [okVal] at hk
  | _ =>
    have hk1 : k = 1 := by rw [← hl]; rfl
    subst hk1
    have h0 := hc 0 _ rfl
    refine ⟨vals 0, h0.2, fun j hj => ?_⟩
    obtain rfl : j = 0 := by omega
    rw [(h0.2.cell_one h0.1).2.1]; rfl
/-- A row, its elements told anew. -/
theorem slc_exp {f : AV → Option (AV × List Nat)} {es es' : List AV} {ids : List Nat} {b o cap k : Nat} {vals : Nat → Nat → Value} (he : expL f es = some (es', ids)) (hcap : es.length ≤ cap)
    (hk : ∀ (i : Nat) (e : AV), es[i]? = some e → okVal e = true ∧ e.cells.length = k)
    (hc : ∀ (i j : Nat) (e c : AV), es[i]? = some e → e.cells[j]? = some c → isCell c = true ∧ ¬ O' b ∧ w.cell? ⟨b, o + i * k + j, none⟩ = some (vals i j))
    (hv : ∀ (i j : Nat) (e c : AV), es[i]? = some e → e.cells[j]? = some c → V w O γ c (vals i j))
    (hf : ∀ (i : Nat) (e e' : AV) (js : List Nat) (u : Value), es[i]? = some e → f e = some (e', js) → (∀ j ∈ js, j ∈ ids) → V w O γ e u → V w O' γ' e' u)
    (hok : ∀ (e e' : AV) (js : List Nat), f e = some (e', js) → okVal e = true → okVal e' = true) :
    V w O' γ' (.slc false es') (.slice (some ⟨b, o, none⟩) es.length cap) := by
  obtain ⟨hl, hmap⟩ := expL_inv he
  have key : ∀ (i : Nat) (e' : AV), es'[i]? = some e' → ∃ e u, es[i]? = some e ∧ V w O' γ' e' u ∧ okVal e' = true ∧ ∀ j, j < k → u.cells[j]? = some (vals i j) := by
    intro i e' hi
    have hlt : i < es.length := by have := (List.getElem?_eq_some_iff.1 hi).1; omega
    have hei : es[i]? = some es[i] := List.getElem?_eq_getElem hlt
    obtain ⟨y, js, h1, h2, h3⟩ := hmap i _ hei
    rw [hi] at h2; cases h2
    obtain ⟨hk1, hk2⟩ := hk i _ hei
    obtain ⟨u, hu, hcu⟩ := elem_value (vals := vals i) hk1 hk2 fun j c hj => ⟨(hc i j _ c hei hj).1, hv i j _ c hei hj⟩
    exact ⟨_, u, hei, hf i _ _ js u hei h1 h3 hu, hok _ _ _ h1 hk1, hcu⟩
  rw [← hl]
  have cells : ∀ (i j : Nat) (e' c : AV), es'[i]? = some e' → e'.cells[j]? = some c → j < k ∧ isCell c = true ∧ V w O' γ' c (vals i j) ∧ ∃ e c0, es[i]? = some e ∧ e.cells[j]? = some c0 := by
    intro i j e' c hi hj
    obtain ⟨e, u, h1, h2, h3, h4⟩ := key i e' hi
    have hcv := h2.cv h3
    have hek := (hk i e h1).2
    have hul : u.cells.size = k ∨ j < u.cells.size := .inr (by rw [← hcv.1]; exact (List.getElem?_eq_some_iff.1 hj).1)
    have hjs : j < u.cells.size := by rw [← hcv.1]; exact (List.getElem?_eq_some_iff.1 hj).1
    have hjk : j < k := by
      -- the value has as many cells as the element
      have : e'.cells.length = e.cells.length := by
        obtain ⟨u0, hu0, hcu0⟩ := elem_value (vals := vals i) (hk i e h1).1 hek fun j c hj => ⟨(hc i j _ c h1 hj).1, hv i j _ c h1 hj⟩
        obtain ⟨y, js, f1, f2, f3⟩ := hmap i _ h1
        rw [hi] at f2; cases f2
        have v1 := hf i _ _ js u0 h1 f1 f3 hu0
        rw [(v1.cv h3).1, ← (hu0.cv (hk i e h1).1).1]
      rw [← hek, ← this]; exact (List.getElem?_eq_some_iff.1 hj).1
    have hje : j < e.cells.length := by omega
    exact ⟨hjk, hcv.2.1 j c hj, hcv.2.2 j c _ hj (h4 j hjk), e, e.cells[j], h1, List.getElem?_eq_getElem hje⟩
  refine .slc false es' b o cap k vals (by omega) (fun hf => by cases hf) (fun i e' hi => ?_) (fun i j e' c hi hj => ?_) (fun i j e' c hi hj => (cells i j e' c hi hj).2.2.1)
  · obtain ⟨e, u, h1, h2, h3, h4⟩ := key i e' hi
    refine ⟨h3, ?_⟩
    obtain ⟨u0, hu0, hcu0⟩ := elem_value (vals := vals i) (hk i e h1).1 (hk i e h1).2 fun j c hj => ⟨(hc i j _ c h1 hj).1, hv i j _ c h1 hj⟩
    obtain ⟨y, js, f1, f2, f3⟩ := hmap i _ h1
    rw [hi] at f2; cases f2
    have v1 := hf i _ _ js u0 h1 f1 f3 hu0
    rw [(v1.cv h3).1, ← (hu0.cv (hk i e h1).1).1]; exact (hk i e h1).2
  · obtain ⟨_, h1, _, e, c0, h2, h3⟩ := cells i j e' c hi hj
    exact ⟨h1, (hc i j e c0 h2 h3).2⟩
theorem exp1_sound (r : R X h γ w) {IDS : List Nat} (hcan : canFrz h IDS = true) : ∀ (d : Nat) {a a' : AV} {ids : List Nat} {u : Value}, exp1 h d a = some (a', ids) → (∀ j ∈ ids, j ∈ IDS) →
    V w (Ow X h γ) γ a u → V w (Ow X (frzAll h IDS) γ) γ' a' u := by
  have hO : ∀ b, Ow X (frzAll h IDS) γ b → Ow X h γ b := fun b ho => ho.imp (fun e => e) (own_frzAll IDS)
  intro d
  induction d with
  | zero =>
    intro a a' ids u e _ hv
    simp only [exp1] at e
    split at e
    · rename_i hs; cases e; exact hv.solid hs hO
    · cases e
  | succ d ih =>
    intro a a' ids u e hids hv
    simp only [exp1] at e
    split at e
    · rename_i hs; cases e; exact hv.solid hs hO
    · split at e
      · -- agg
        rename_i cs _
        cases hx : expL (exp1 h d) cs with
        | none => rw [hx] at e; cases e
        | some p =>
          rw [hx] at e; cases e
          obtain ⟨hl, hmap⟩ := expL_inv hx
          cases hv with
          | agg cs vs hl' hc hv =>
            have key : ∀ (i : Nat) (c' : AV), p.1[i]? = some c' → ∃ c js, cs[i]? = some c ∧ exp1 h d c = some (c', js) ∧ ∀ j ∈ js, j ∈ p.2 := by
              intro i c' hi
              have hlt : i < cs.length := by have := (List.getElem?_eq_some_iff.1 hi).1; omega
              obtain ⟨y, js, h1, h2, h3⟩ := hmap i _ (List.getElem?_eq_getElem hlt)
              rw [hi] at h2; cases h2
              exact ⟨_, js, List.getElem?_eq_getElem hlt, h1, h3⟩
            refine .agg _ vs (by omega) (fun i c' hi => ?_) (fun i c' v hi hu => ?_)
            · obtain ⟨c, js, h1, h2, _⟩ := key i c' hi
              exact exp1_isCell h2 (hc i c h1)
            · obtain ⟨c, js, h1, h2, h3⟩ := key i c' hi
              exact ih h2 (fun j hj => hids j (h3 j hj)) (hv i c v h1 hu)
      · -- tup
        rename_i cs _
        cases hx : expL (exp1 h d) cs with
        | none => rw [hx] at e; cases e
        | some p =>
          rw [hx] at e; cases e
          obtain ⟨hl, hmap⟩ := expL_inv hx
          cases hv with
          | tup cs vs hl' hv =>
            refine .tup _ vs (by omega) (fun i c' v hi hu => ?_)
            have hlt : i < cs.length := by have := (List.getElem?_eq_some_iff.1 hi).1; omega
            obtain ⟨y, js, h1, h2, h3⟩ := hmap i _ (List.getElem?_eq_getElem hlt)
            rw [hi] at h2; cases h2
            exact ih h1 (fun j hj => hids j (h3 j hj)) (hv i _ v (List.getElem?_eq_getElem hlt) hu)
      · -- slc
        rename_i full es _
        cases hx : expL (exp1 h d) es with
        | none => rw [hx] at e; cases e
        | some p =>
          rw [hx] at e; cases e
          cases hv with
          | slc0 full a0 => cases hx; exact .slc0 false a0
          | slc full es b o cap k vals hcap hfull hk hc hv =>
            exact slc_exp hx hcap hk (fun i j e c he hj => ⟨(hc i j e c he hj).1, fun ho => (hc i j e c he hj).2.1 (hO _ ho), (hc i j e c he hj).2.2⟩) hv
              (fun i e e' js u _ he hjs hu => ih he (fun j hj => hids j (hjs j hj)) hu) (fun e e' js he hk => exp1_okVal he hk)
      · -- arr
        rename_i id off len g k _
        split at e
        · rename_i es hview
          cases hx : expL (exp1 h d) es with
          | none => rw [hx] at e; cases e
          | some p =>
            rw [hx] at e; cases e
            have hidm : id ∈ IDS := hids id (by simp)
            have hids' : ∀ j ∈ p.2, j ∈ IDS := fun j hj => hids j (by simp [hj])
            obtain ⟨a0, cap, rfl, hcap, hh⟩ := sview_sound r hv hview
            rcases hh with rfl | ⟨b, o, k', rfl, hr⟩
            · cases hx
              cases hv with
              | arr _ _ _ _ _ b o cap o' _ _ _ _ => exact .slc false [] b o' cap 0 (fun _ _ => undef) (Nat.zero_le _) (fun h => by cases h) (fun i e hi => by simp at hi) (fun i j e c hi => by simp at hi) (fun i j e c hi => by simp at hi)
            · -- the block is nobody's
              have hnot : ∀ (i j : Nat) (e c : AV), es[i]? = some e → e.cells[j]? = some c → ¬ Ow X (frzAll h IDS) γ b := by
                intro i j e c he hj
                cases hv with
                | arr _ _ _ _ _ b o1 cap o' hg hcap' ho hrow =>
                  have hcan1 := List.all_eq_true.1 hcan id hidm
                  cases hid : hget h id with
                  | arr k1 es1 g1 =>
                    simp only [sview, hid] at hview
                    split at hview
                    · rename_i hc; obtain ⟨_, rfl, _⟩ := hc
                      exact frz_not_own r hidm hid hg
                    · cases hview
                  | frz k1 es1 g1 =>
                    simp only [sview, hid] at hview
                    split at hview
                    · rename_i hc; obtain ⟨_, rfl, _⟩ := hc
                      have hview := Option.some.inj hview
                      obtain ⟨_, hn⟩ := r.frz hid hg
                      rw [← hview] at he
                      exact fun ho => hn _ _ _ _ (take_drop_get he).2 hj (hO _ ho)
                    · cases hview
                  | vars _ => rw [hid] at hcan1; cases hcan1
                  | dead => rw [hid] at hcan1; cases hcan1
              refine slc_exp (vals := fun i j => (w.cell? ⟨b, o + i * k' + j, none⟩).getD undef) hx hcap hr.1 (fun i j e c he hj => ?_) (fun i j e c he hj => ?_)
                (fun i e e' js u _ he hjs hu => ih he (fun j hj => hids' j (hjs j hj)) hu) (fun e e' js he hk => exp1_okVal he hk)
              · obtain ⟨h1, v, h2, h3⟩ := hr.2 i j e c he hj
                exact ⟨h1, hnot i j e c he hj, by rw [h2]; rfl⟩
              · obtain ⟨h1, v, h2, h3⟩ := hr.2 i j e c he hj
                rw [h2]; exact h3
        · cases e
      · rename_i f _
        cases e
        cases hv with
        | clo f first caps fs cs hf hc hvf hvc => exact .clo f [] [] fs cs hf hc (fun i c v hi => by simp at hi) (fun i c v hi => by simp at hi)
      · cases e
end
end Go.Ab
