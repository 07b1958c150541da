/-
  From what comes in, read as data, to abstract values; a law's row out of what the abstract machine answers.
-/
import Derived.Test.YtlpkfeplbcadbaaAb17
import Derived.ProofKit
import Derived.OpenShut
import Derived.ShutString
import Derived.ChangeOld
import Derived.Below
import Derived.Carry
namespace Go.Ab
open Go.RowKit Go.ChangeShapes
section
variable {P : Program}

/-- A value of some cells. -/
def ofCells (P : Program) (t : TypeId) (cs : List AV) : AV := match tagg P t with | some true => .agg cs | _ => cs.headD .und
/-- An abstract value of a type of plain data. -/
def WT (P : Program) : Nat → TypeId → AV → Prop
  | 0, _, _ => False
  | n + 1, t, a => match P.underlying t with
    | some .bool => ∃ b, a = .val (.bool b)
    | some (.int k) => ∃ x, a = .val (.int k x) ∧ (Lit.int k x).wf = true
    | some .string => ∃ s : ByteArray, a = .val (.string s) ∧ s.size ≤ maxLen
    | some (.slice e) => ∃ es, a = .slc false es ∧ es.length ≤ maxLen ∧ ∀ x ∈ es, WT P n e x
    | some (.struct fs) => ∃ cs, a = .agg cs ∧ cs.length = P.cellsOf t ∧ ∀ f ∈ fs, WT P n f.type (ofCells P f.type ((cs.drop f.offset).take (P.cellsOf f.type)))
    | some (.array len e) => ∃ cs, a = .agg cs ∧ cs.length = P.cellsOf t ∧ ∀ i, i < len → WT P n e (ofCells P e ((cs.drop (i * P.cellsOf e)).take (P.cellsOf e)))
    | _ => False
/-- The fields lie behind one another. -/
def tiles (P : Program) : List Field → Nat → Nat → Bool
  | [], o, n => o == n
  | f :: r, o, n => f.offset == o && tiles P r (o + P.cellsOf f.type) n
def plainTypes (P : Program) (ts : List TypeId) : Bool :=
  ts.all fun t => match P.underlying t with
    | some .bool | some (.int _) | some .string => true
    | some (.slice e) => ts.contains e && decide (0 < P.cellsOf e)
    | some (.struct fs) => fs.toList.all (fun f => ts.contains f.type) && tiles P fs.toList 0 (P.cellsOf t)
    | some (.array len e) => ts.contains e && len * P.cellsOf e == P.cellsOf t
    | _ => false
theorem mapM_range {α : Type} {f : Nat → Option α} {n : Nat} {l : List α} (e : (List.range n).mapM f = some l) : ∀ i, i < n → ∃ x, f i = some x := by
  have key : ∀ (l0 : List Nat) (l : List α), l0.mapM f = some l → ∀ i ∈ l0, ∃ x, f i = some x := by
    intro l0
    induction l0 with
    | nil => intro l _ i hi; cases hi
    | cons a r ih =>
      intro l e i hi
      rw [List.mapM_cons] at e
      cases ha : f a with
      | none => rw [ha] at e; cases e
      | some x =>
        rw [ha] at e
        cases hr : r.mapM f with
        | none => rw [hr] at e; cases e
        | some l' =>
          rcases List.mem_cons.1 hi with rfl | hi
          · exact ⟨x, ha⟩
          · exact ih l' hr i hi
  intro i hi
  exact key _ l e i (by simpa using hi)
theorem mapM_mem {α β : Type} {f : α → Option β} : ∀ {l0 : List α} {l : List β}, l0.mapM f = some l → ∀ a ∈ l0, ∃ x, f a = some x
  | [], _, _, a, ha => by cases ha
  | b :: r, l, e, a, ha => by
    rw [List.mapM_cons] at e
    cases hb : f b with
    | none => rw [hb] at e; cases e
    | some x =>
      rw [hb] at e
      cases hr : r.mapM f with
      | none => rw [hr] at e; cases e
      | some l' =>
        rcases List.mem_cons.1 ha with rfl | ha
        · exact ⟨x, hb⟩
        · exact mapM_mem hr a ha
theorem mapM_get {α β : Type} {f : α → Option β} : ∀ {l0 : List α} {l : List β}, l0.mapM f = some l → ∀ (i : Nat) (x : β), l[i]? = some x → ∃ a, l0[i]? = some a ∧ f a = some x
  | [], l, e, i, x, hi => by cases e; simp at hi
  | b :: r, l, e, i, x, hi => by
    rw [List.mapM_cons] at e
    cases hb : f b with
    | none => rw [hb] at e; cases e
    | some y =>
      rw [hb] at e
      cases hr : r.mapM f with
      | none => rw [hr] at e; cases e
      | some l' =>
        rw [hr] at e; cases e
        cases i with
        | zero => simp at hi; subst hi; exact ⟨b, rfl, hb⟩
        | succ n => exact mapM_get hr n x (by simpa using hi)
theorem mapM_length {α β : Type} {f : α → Option β} : ∀ {l0 : List α} {l : List β}, l0.mapM f = some l → l.length = l0.length
  | [], l, e => by cases e; rfl
  | b :: r, l, e => by
    rw [List.mapM_cons] at e
    cases hb : f b with
    | none => rw [hb] at e; cases e
    | some y =>
      rw [hb] at e
      cases hr : r.mapM f with
      | none => rw [hr] at e; cases e
      | some l' => rw [hr] at e; cases e; simp [mapM_length hr]
theorem choice_list {α : Type} {Q : Nat → α → Prop} : ∀ (n : Nat), (∀ i, i < n → ∃ x, Q i x) → ∃ l : List α, l.length = n ∧ ∀ i x, l[i]? = some x → Q i x
  | 0, _ => ⟨[], rfl, fun i x h => by simp at h⟩
  | n + 1, h => by
    obtain ⟨l, hl, hq⟩ := choice_list n fun i hi => h i (by omega)
    obtain ⟨x, hx⟩ := h n (by omega)
    refine ⟨l ++ [x], by simp [hl], fun i y hy => ?_⟩
    by_cases hi : i < n
    · rw [List.getElem?_append_left (by omega)] at hy; exact hq i y hy
    · rw [List.getElem?_append_right (by omega)] at hy
      have : i = n := by
        have := (List.getElem?_eq_some_iff.1 hy).1; simp at this; omega
      subst this
      simp [hl] at hy; subst hy; exact hx
/-- What a value's cells are, told as an abstract value. -/
def Is (w : World) (O : Nat → Prop) (γ : Ghost) (a : AV) (cs : List Value) : Prop :=
  okVal a = true ∧ a.cells.length = cs.length ∧ ∀ (i : Nat) (c : AV) (v : Value), a.cells[i]? = some c → cs[i]? = some v → isCell c = true ∧ V w O γ c v
theorem WT.agg {n : Nat} {t : TypeId} {a : AV} (h : WT P n t a) {O : Nat → Prop} {γ : Ghost} {w : World} {cs : List Value} (hi : Is w O γ a cs) : ofCells P t a.cells = a := by
  cases n with
  | zero => exact h.elim
  | succ n =>
    unfold WT at h
    unfold ofCells tagg
    split at h
    · rename_i hu; obtain ⟨b, rfl⟩ := h; rw [hu]; rfl
    · rename_i hu; obtain ⟨b, rfl, _⟩ := h; rw [hu]; rfl
    · rename_i hu; obtain ⟨b, rfl, _⟩ := h; rw [hu]; rfl
    · rename_i hu; obtain ⟨b, rfl, _⟩ := h; rw [hu]; rfl
    · rename_i hu; obtain ⟨b, rfl, _⟩ := h; rw [hu]; rfl
    · rename_i hu; obtain ⟨b, rfl, _⟩ := h; rw [hu]; rfl
    · exact h.elim
/-- Parts behind one another. -/
theorem tile_parts {w : World} {O : Nat → Prop} {γ : Ghost} {cs : List Value} {n : Nat} : ∀ (fs : List Field) (o : Nat), tiles P fs o cs.length = true →
    (∀ f ∈ fs, ∃ a, WT P n f.type a ∧ Is w O γ a ((cs.drop f.offset).take (P.cellsOf f.type))) →
    ∃ as : List AV, as.length = cs.length - o ∧ o ≤ cs.length ∧ (∀ f ∈ fs, o ≤ f.offset ∧ WT P n f.type (ofCells P f.type ((as.drop (f.offset - o)).take (P.cellsOf f.type)))) ∧
      ∀ (i : Nat) (c : AV) (v : Value), as[i]? = some c → cs[o + i]? = some v → isCell c = true ∧ V w O γ c v
  | [], o, ht, _ => by
    simp only [tiles, beq_iff_eq] at ht
    exact ⟨[], by simp [ht], by omega, fun f hf => (by cases hf), fun i c v hi => by simp at hi⟩
  | f :: r, o, ht, h => by
    simp only [tiles, Bool.and_eq_true, beq_iff_eq] at ht
    obtain ⟨hfo, ht⟩ := ht
    obtain ⟨as, h1, h2, h3, h4⟩ := tile_parts r (o + P.cellsOf f.type) ht fun g hg => h g (by simp [hg])
    obtain ⟨a, hwt, ha⟩ := h f (by simp)
    have hal : a.cells.length = P.cellsOf f.type := by rw [ha.2.1, hfo]; simp; omega
    refine ⟨a.cells ++ as, by simp [hal, h1]; omega, by omega, fun g hg => ?_, fun i c v hi hv => ?_⟩
    · rcases List.mem_cons.1 hg with rfl | hg
      · refine ⟨by omega, ?_⟩
        rw [hfo, Nat.sub_self, List.drop_zero, List.take_append_of_le_length (by omega), List.take_of_length_le (by omega), hwt.agg ha]
        exact hwt
      · obtain ⟨k1, k2⟩ := h3 g hg
        refine ⟨by omega, ?_⟩
        rw [show g.offset - o = a.cells.length + (g.offset - (o + P.cellsOf f.type)) by omega, List.drop_append]
        have : List.drop (a.cells.length + (g.offset - (o + P.cellsOf f.type))) a.cells = [] := List.drop_eq_nil_of_le (by omega)
        rw [this, List.nil_append, Nat.add_sub_cancel_left]
        exact k2
    · by_cases hlt : i < a.cells.length
      · rw [List.getElem?_append_left hlt] at hi
        refine ha.2.2 i c v hi ?_
        rw [List.getElem?_take_of_lt (by omega), List.getElem?_drop, hfo]; exact hv
      · rw [List.getElem?_append_right (by omega)] at hi
        refine h4 _ c v hi ?_
        rw [show o + P.cellsOf f.type + (i - a.cells.length) = o + i by omega]; exact hv
theorem array_parts {w : World} {O : Nat → Prop} {γ : Ghost} {cs : List Value} {n k : Nat} {e : TypeId} (hk : P.cellsOf e = k) : ∀ (len : Nat), len * k ≤ cs.length →
    (∀ i, i < len → ∃ a, WT P n e a ∧ Is w O γ a ((cs.drop (i * k)).take k)) →
    ∃ as : List AV, as.length = len * k ∧ (∀ i, i < len → WT P n e (ofCells P e ((as.drop (i * k)).take k))) ∧
      ∀ (i : Nat) (c : AV) (v : Value), as[i]? = some c → cs[i]? = some v → isCell c = true ∧ V w O γ c v
  | 0, _, _ => ⟨[], by simp, fun i hi => by omega, fun i c v hi => by simp at hi⟩
  | len + 1, hl, h => by
    rw [Nat.add_mul, Nat.one_mul] at hl
    obtain ⟨as, h1, h2, h3⟩ := array_parts hk len (by omega) fun i hi => h i (by omega)
    obtain ⟨a, hwt, ha⟩ := h len (by omega)
    have hal : a.cells.length = k := by rw [ha.2.1]; simp; omega
    refine ⟨as ++ a.cells, by simp [h1, hal, Nat.add_mul], fun i hi => ?_, fun i c v hi hv => ?_⟩
    · by_cases hlt : i < len
      · have hfit : i * k + k ≤ len * k := by
          have := Nat.mul_le_mul_right k hlt; rw [Nat.succ_mul] at this; exact this
        rw [List.drop_append_of_le_length (by omega), List.take_append_of_le_length (by simp; omega)]
        exact h2 i hlt
      · obtain rfl : i = len := by omega
        rw [← h1, List.drop_left, List.take_of_length_le (by omega), hwt.agg ha]
        exact hwt
    · by_cases hlt : i < as.length
      · rw [List.getElem?_append_left hlt] at hi; exact h3 i c v hi hv
      · rw [List.getElem?_append_right (by omega)] at hi
        refine ha.2.2 _ c v hi ?_
        have hlt2 : i - as.length < k := by have := (List.getElem?_eq_some_iff.1 hi).1; omega
        rw [List.getElem?_take_of_lt hlt2, List.getElem?_drop, ← h1, show as.length + (i - as.length) = i by omega]; exact hv
theorem cell_spot {w : World} {a : Addr} {v : Value} (h : w.cell? a = some v) : a.spot = none := by
  unfold World.cell? at h
  split at h
  · split at h
    · cases h
    · rename_i hs; cases hsp : a.spot with
      | none => rfl
      | some x => rw [hsp] at hs; simp at hs
  · cases h
theorem trod_AV {H : Type} {enc : TypeId × Value → H} {W : World} {O : Nat → Prop} (hO : ∀ b, ¬ O b) {γ : Ghost} {ts : List TypeId} (hts : plainTypes P ts = true) : ∀ (fuel : Nat) {t : TypeId} {cs : List Value} {x : DataW H × List MemPlace}, t ∈ ts →
    DataW.trod enc P W 0 (fun _ => true) true fuel t cs = some x → ∃ a, WT P fuel t a ∧ Is W O γ a cs := by
  intro fuel
  induction fuel with
  | zero => intro t cs x _ e; cases e
  | succ fuel ih =>
    intro t cs x ht e
    have hpl := List.all_eq_true.1 hts t ht
    unfold DataW.trod at e
    unfold WT
    split at e
    · -- bool
      rename_i b hu; rw [hu]
      exact ⟨.val (.bool b), ⟨b, rfl⟩, rfl, rfl, fun i c v hi hv => by cases i <;> simp [AV.cells] at hi hv; subst hi; subst hv; exact ⟨rfl, .val _⟩⟩
    · rename_i k k' n hu
      split at e
      · rename_i hc; obtain ⟨rfl, hwf⟩ := hc
        rw [hu]
        exact ⟨.val (.int k' n), ⟨n, rfl, hwf⟩, rfl, rfl, fun i c v hi hv => by cases i <;> simp [AV.cells] at hi hv; subst hi; subst hv; exact ⟨rfl, .val _⟩⟩
      · cases e
    · rename_i k k' n hu; rw [hu] at hpl; cases hpl
    · rename_i s hu
      split at e
      · rename_i hs
        rw [hu]
        exact ⟨.val (.string s), ⟨s, rfl, hs⟩, rfl, rfl, fun i c v hi hv => by cases i <;> simp [AV.cells] at hi hv; subst hi; subst hv; exact ⟨rfl, .val _⟩⟩
      · cases e
    · rename_i hu; rw [hu] at hpl; cases hpl
    · rename_i hu; rw [hu] at hpl; cases hpl
    · -- nil slice
      rename_i el hu; rw [hu]
      refine ⟨.slc false [], ⟨[], rfl, by simp, fun x hx => by cases hx⟩, rfl, rfl, fun i c v hi hv => ?_⟩
      cases i <;> simp [AV.cells] at hi hv
      subst hi; subst hv; exact ⟨rfl, .slc0 false none⟩
    · -- slice
      rename_i el a len cap hu
      rw [hu] at hpl ⊢
      simp only [Bool.and_eq_true, List.contains_iff_mem, decide_eq_true_eq] at hpl
      obtain ⟨hel, hk⟩ := hpl
      dsimp only at e
      split at e
      · rename_i hc; obtain ⟨_, hlc, hcap⟩ := hc
        cases hm : (List.range len).mapM fun i => (W.cells? 0 (a.add (i * P.cellsOf el)) (P.cellsOf el)).bind (DataW.trod enc P W 0 (fun _ => true) true fuel el) with
        | none => rw [hm] at e; cases e
        | some elems =>
          rw [hm] at e
          simp only [Option.bind_some, if_true] at e
          cases hm2 : (List.range (cap - len)).mapM fun j => (W.cells? 0 (a.add ((len + j) * P.cellsOf el)) (P.cellsOf el)).bind (DataW.trod enc P W 0 (fun _ => true) true fuel el) with
          | none => rw [hm2] at e; cases e
          | some rest =>
            -- an element that is there
            have elem : ∀ i, i < cap → ∃ csi x, W.cells? 0 (a.add (i * P.cellsOf el)) (P.cellsOf el) = some csi ∧ DataW.trod enc P W 0 (fun _ => true) true fuel el csi = some x := by
              intro i hi
              by_cases hl : i < len
              · obtain ⟨x, hx⟩ := mapM_range hm i hl
                cases hcs : W.cells? 0 (a.add (i * P.cellsOf el)) (P.cellsOf el) with
                | none => rw [hcs] at hx; cases hx
                | some csi => rw [hcs] at hx; exact ⟨csi, x, rfl, hx⟩
              · obtain ⟨x, hx⟩ := mapM_range hm2 (i - len) (by omega)
                rw [show len + (i - len) = i by omega] at hx
                cases hcs : W.cells? 0 (a.add (i * P.cellsOf el)) (P.cellsOf el) with
                | none => rw [hcs] at hx; cases hx
                | some csi => rw [hcs] at hx; exact ⟨csi, x, rfl, hx⟩
            have cells : ∀ {i : Nat} {csi : List Value}, W.cells? 0 (a.add (i * P.cellsOf el)) (P.cellsOf el) = some csi → csi.length = P.cellsOf el ∧ ∀ (j : Nat) (v : Value), csi[j]? = some v → W.cell? ((a.add (i * P.cellsOf el)).add j) = some v := by
              intro i csi hcs
              unfold World.cells? at hcs
              rw [if_pos (Nat.zero_le _)] at hcs
              refine ⟨by simpa using mapM_length hcs, fun j v hj => ?_⟩
              obtain ⟨m, h1, h2⟩ := mapM_get hcs j v hj
              have hjl : j < P.cellsOf el := by have := (List.getElem?_eq_some_iff.1 h1).1; simpa using this
              rw [List.getElem?_range hjl] at h1
              cases h1; exact h2
            by_cases h0 : cap = 0
            · subst h0
              obtain rfl : len = 0 := by omega
              refine ⟨.slc false [], ⟨[], rfl, by simp, fun x hx => by cases hx⟩, rfl, rfl, fun i c v hi hv => ?_⟩
              cases i <;> simp [AV.cells] at hi hv
              subst hi; subst hv; exact ⟨rfl, .slc0 false (some a)⟩
            · have hspot : a.spot = none := by
                obtain ⟨csi, x, h1, _⟩ := elem 0 (by omega)
                obtain ⟨h2, h3⟩ := cells h1
                have : 0 < csi.length := by omega
                have h4 := h3 0 csi[0] (by simp)
                simp [Addr.add] at h4
                exact cell_spot h4
              obtain ⟨b, o, sp⟩ := a
              subst hspot
              obtain ⟨as, hal, has⟩ := choice_list (Q := fun i y => ∃ csi, csi.length = P.cellsOf el ∧ (∀ (j : Nat) (v : Value), csi[j]? = some v → W.cell? ⟨b, o + i * P.cellsOf el + j, none⟩ = some v) ∧ WT P fuel el y ∧ Is W O γ y csi) len fun i hi => by
                obtain ⟨csi, x, h1, h2⟩ := elem i (by omega)
                obtain ⟨h3, h4⟩ := cells h1
                obtain ⟨y, h5, h6⟩ := ih hel h2
                exact ⟨y, csi, h3, fun j v hj => by have := h4 j v hj; rw [addr_add, addr_add] at this; exact this, h5, h6⟩
              refine ⟨.slc false as, ⟨as, rfl, by rw [hal]; omega, fun x hx => ?_⟩, rfl, rfl, fun i c v hi hv => ?_⟩
              · obtain ⟨i, hi⟩ := List.getElem?_of_mem hx
                obtain ⟨_, _, _, h, _⟩ := has i x hi
                exact h
              · cases i <;> simp [AV.cells] at hi hv
                subst hi; subst hv
                refine ⟨rfl, ?_⟩
                have := V.slc (w := W) (O := O) (γ := γ) false as b o cap (P.cellsOf el) (fun i j => (W.cell? ⟨b, o + i * P.cellsOf el + j, none⟩).getD undef) (by omega) (fun h => by cases h)
                  (fun i e he => by obtain ⟨csi, h1, _, _, h3, h4, _⟩ := has i e he; exact ⟨h3, by rw [h4, h1]⟩)
                  (fun i j e c he hj => by
                    obtain ⟨csi, h1, h2, _, h3, h4, h5⟩ := has i e he
                    have hjl : j < csi.length := by rw [← h4]; exact (List.getElem?_eq_some_iff.1 hj).1
                    have hcell := h2 j csi[j] (List.getElem?_eq_getElem hjl)
                    exact ⟨(h5 j c csi[j] hj (List.getElem?_eq_getElem hjl)).1, hO b, by rw [hcell]; rfl⟩)
                  (fun i j e c he hj => by
                    obtain ⟨csi, h1, h2, _, h3, h4, h5⟩ := has i e he
                    have hjl : j < csi.length := by rw [← h4]; exact (List.getElem?_eq_some_iff.1 hj).1
                    have hcell := h2 j csi[j] (List.getElem?_eq_getElem hjl)
                    rw [hcell]
                    exact (h5 j c csi[j] hj (List.getElem?_eq_getElem hjl)).2)
                rw [hal] at this
                exact this
      · cases e
    · -- struct
      rename_i cs _ _ fs hu
      rw [hu] at hpl ⊢
      simp only [Bool.and_eq_true, List.all_eq_true, List.contains_iff_mem] at hpl
      obtain ⟨hfs, htile⟩ := hpl
      split at e
      · rename_i hl
        cases hm : fs.toList.mapM fun f => DataW.trod enc P W 0 (fun _ => true) true fuel f.type ((cs.drop f.offset).take (P.cellsOf f.type)) with
        | none => rw [hm] at e; cases e
        | some xs =>
          obtain ⟨as, h1, _, h3, h4⟩ := tile_parts (n := fuel) (w := W) (O := O) (γ := γ) (cs := cs) fs.toList 0 (by rw [hl]; exact htile) fun f hf => by
            obtain ⟨y, hy⟩ := mapM_mem hm f hf
            exact ih (hfs f hf) hy
          refine ⟨.agg as, ⟨as, rfl, by rw [h1]; omega, fun f hf => ?_⟩, rfl, by rw [show (AV.agg as).cells = as from rfl, h1]; omega, fun i c v hi hv => h4 i c v hi (by rw [Nat.zero_add]; exact hv)⟩
          have := (h3 f (by simpa using hf)).2
          simpa using this
      · cases e
    · -- array
      rename_i cs _ _ len el hu
      rw [hu] at hpl ⊢
      simp only [Bool.and_eq_true, List.contains_iff_mem, beq_iff_eq] at hpl
      obtain ⟨hel, hsz⟩ := hpl
      split at e
      · rename_i hl
        cases hm : (List.range len).mapM fun i => DataW.trod enc P W 0 (fun _ => true) true fuel el ((cs.drop (i * P.cellsOf el)).take (P.cellsOf el)) with
        | none => rw [hm] at e; cases e
        | some xs =>
          obtain ⟨as, h1, h2, h3⟩ := array_parts (P := P) (n := fuel) (w := W) (O := O) (γ := γ) (cs := cs) (e := el) rfl len (by omega) fun i hi => by
            obtain ⟨y, hy⟩ := mapM_range hm i hi
            exact ih hel hy
          exact ⟨.agg as, ⟨as, rfl, by rw [h1, hsz], h2⟩, rfl, by rw [show (AV.agg as).cells = as from rfl, h1, hl, hsz], h3⟩
      · cases e
    all_goals (first | (rename_i hu; rw [hu] at hpl; cases hpl; done) | (cases e; done) | skip)

/-! ### A law's row -/
def WTAll (P : Program) : List TypeId → List AV → Prop
  | [], [] => True
  | t :: ts, a :: as => (∃ n, WT P n t a) ∧ WTAll P ts as
  | _, _ => False
theorem Is.value {W : World} {O : Nat → Prop} {γ : Ghost} {a : AV} {v : Value} {n base : Nat} {t : TypeId} (hi : Is W O γ a v.cells.toList) (hw : WT P n t a) (hv : Value.okWide P W .any base t v) : V W O γ a v := by
  have single : (∀ cs, v ≠ .agg cs) → a.cells = [a] → V W O γ a v := by
    intro hne ha
    have hc : v.cells = #[v] := by cases v <;> first | rfl | exact absurd rfl (hne _)
    have := hi.2.2 0 a v (by rw [ha]; rfl) (by rw [hc]; rfl)
    exact this.2
  cases n with
  | zero => exact hw.elim
  | succ n =>
    unfold WT at hw
    unfold Value.okWide at hv
    split at hw
    · rename_i hu; rw [hu] at hv; obtain ⟨b, rfl⟩ := hw
      exact single (fun cs e => by subst e; simp [Cell.okWide, hu, Cell.ok] at hv) rfl
    · rename_i hu; rw [hu] at hv; obtain ⟨b, rfl, _⟩ := hw
      exact single (fun cs e => by subst e; simp [Cell.okWide, hu, Cell.ok] at hv) rfl
    · rename_i hu; rw [hu] at hv; obtain ⟨b, rfl, _⟩ := hw
      exact single (fun cs e => by subst e; simp [Cell.okWide, hu, Cell.ok] at hv) rfl
    · rename_i hu; rw [hu] at hv; obtain ⟨b, rfl, _⟩ := hw
      exact single (fun cs e => by subst e; simp [Cell.okWide, hu, Cell.ok] at hv) rfl
    · rename_i hu; rw [hu] at hv; obtain ⟨as, rfl, _⟩ := hw
      obtain ⟨cs, rfl, _⟩ := hv
      exact .agg as cs (by simpa [AV.cells, Value.cells] using hi.2.1) (fun i c hc => by
        have hlt : i < cs.size := by have := hi.2.1; have h2 := (List.getElem?_eq_some_iff.1 hc).1; simp [AV.cells, Value.cells] at this; omega
        exact (hi.2.2 i c cs[i] hc (by simp [Value.cells, hlt])).1) (fun i c u hc hu => (hi.2.2 i c u hc (by simpa [Value.cells] using hu)).2)
    · rename_i hu; rw [hu] at hv; obtain ⟨as, rfl, _⟩ := hw
      obtain ⟨cs, rfl, _⟩ := hv
      exact .agg as cs (by simpa [AV.cells, Value.cells] using hi.2.1) (fun i c hc => by
        have hlt : i < cs.size := by have := hi.2.1; have h2 := (List.getElem?_eq_some_iff.1 hc).1; simp [AV.cells, Value.cells] at this; omega
        exact (hi.2.2 i c cs[i] hc (by simp [Value.cells, hlt])).1) (fun i c u hc hu => (hi.2.2 i c u hc (by simpa [Value.cells] using hu)).2)
    · exact hw.elim
theorem args_AV {H : Type} {enc : TypeId × Value → H} {W : World} {O : Nat → Prop} (hO : ∀ b, ¬ O b) {γ : Ghost} {ts : List TypeId} (hts : plainTypes P ts = true) {base : Nat} : ∀ {params : List TypeId} {args : List Value} {ds : List (DataW H)} {ps : List MemPlace},
    (∀ t ∈ params, t ∈ ts) → DataW.TrodAll enc P W 0 (fun _ => true) true params args ds ps → (∀ (j : Nat) t v, params[j]? = some t → args[j]? = some v → Value.okWide P W .any base t v) →
    ∃ avs, WTAll P params avs ∧ VA W O γ avs args.toArray
  | [], args, ds, ps, _, h, _ => by
    obtain ⟨rfl, _, _⟩ := trodAll_nil h
    exact ⟨[], trivial, VA.nil⟩
  | t :: params, args, ds, ps, hp, h, hv => by
    obtain ⟨v, vs, d, ds', p, q, rfl, rfl, rfl, h0, h1⟩ := trodAll_cons h
    obtain ⟨fuel, hf⟩ := h0
    obtain ⟨a, hwt, hi⟩ := trod_AV (P := P) hO (γ := γ) hts fuel (hp t (by simp)) hf
    have hva := hi.value hwt (hv 0 t v rfl rfl)
    obtain ⟨avs, k1, k2⟩ := args_AV hO hts (fun t ht => hp t (by simp [ht])) h1 fun j t v ht hvj => hv (j + 1) t v (by simpa using ht) (by simpa using hvj)
    refine ⟨a :: avs, ⟨⟨fuel, hwt⟩, k1⟩, by simpa using k2.1, fun i x u hx hu => ?_⟩
    cases i with
    | zero => simp at hx hu; subst hx; subst hu; exact hva
    | succ n => exact k2.2 n x u (by simpa using hx) (by simpa using hu)
theorem exp1_true {h : AHeap} {d : Nat} {v : AV} {ids : List Nat} {b : Bool} (e : exp1 h d v = some (.val (.bool b), ids)) : v = .val (.bool b) := by
  cases d with
  | zero =>
    simp only [exp1] at e
    split at e
    · cases e; rfl
    · cases e
  | succ d =>
    simp only [exp1] at e
    split at e
    · cases e; rfl
    · split at e
      · cases hx : expL (exp1 h d) _ <;> rw [hx] at e <;> cases e
      · cases hx : expL (exp1 h d) _ <;> rw [hx] at e <;> cases e
      · cases hx : expL (exp1 h d) _ <;> rw [hx] at e <;> cases e
      · split at e
        · cases hx : expL (exp1 h d) _ <;> rw [hx] at e <;> cases e
        · cases e
      · cases e
      · cases e
theorem law_calls {md : FuncId → Nat} {fg : FuncId → Nat → List Bool} {H : Type} {enc : TypeId × Value → H} (hmix : P.follows .mixedOrders = true) {ts : List TypeId} (hts : plainTypes P ts = true) {f : FuncId} {params : List TypeId} (hp : ∀ t ∈ params, t ∈ ts)
    (hall : ∀ avs, WTAll P params avs → pcall P md fg f avs = some (.val (.bool true))) {W : World} {base : Nat} {args : Array Value} {ds : List (DataW H)} {ps : List MemPlace}
    (hA : DataW.TrodAll enc P W 0 (fun _ => true) true params args.toList ds ps) (hval : ∀ (j : Nat) t v, params[j]? = some t → args[j]? = some v → Value.okWide P W .any base t v) :
    Calls P f args W fun e W' => e = .returned (.bool true) ∧ Below W.heap.size W W' := by
  have hr : R (fun _ => False) [] (fun _ _ => none) W := empty_R fun b hb => hb.elim
  obtain ⟨avs, hwt, hva⟩ := args_AV (P := P) (O := Ow (fun _ => False) [] (fun _ _ => none)) (γ := fun _ _ => none) (fun b hb => hb.elim (fun h => h) own_nil) hts hp hA (fun j t v ht hv => hval j t v ht (by simpa using hv))
  have he := hall avs hwt
  unfold pcall pureRes at he
  split at he
  · rename_i v h1 hav
    split at he
    · rename_i v' ids hexp
      split at he
      · cases he
        have hv := exp1_true hexp
        subst hv
        refine (aval_sound hmix hav hr (by simpa using hva)).mono ?_
        rintro e w' ⟨u, γ', rfl, hg, hu⟩
        refine ⟨by rw [hu.val_inv], hg.step.os, hg.step.tape, hg.step.output, hg.step.size, fun k hk => hg.step.keep k hk own_nil⟩
      · cases he
    · cases he
  · cases he
theorem trodAll_stays {H : Type} {enc : TypeId × Value → H} (hl : laidOutB P = true) {W W' : World} (hb : Below W.heap.size W W') : ∀ {params : List TypeId} {args : List Value} {ds : List (DataW H)} {ps : List MemPlace},
    (∀ t ∈ params, P.readableRec t = true ∧ t < P.types.size) → DataW.TrodAll enc P W 0 (fun _ => true) true params args ds ps → DataW.TrodAll enc P W' 0 (fun b => decide (b < W.heap.size)) true params args ds ps
  | [], args, ds, ps, _, h => by
    obtain ⟨rfl, rfl, rfl⟩ := trodAll_nil h
    exact trodAll_mk0
  | t :: params, args, ds, ps, hp, h => by
    obtain ⟨v, vs, d, ds', p, q, rfl, rfl, rfl, h0, h1⟩ := trodAll_cons h
    have hlt : ∀ x ∈ p, x.block < W.heap.size := by obtain ⟨m, hm⟩ := h0; exact DataW.trod_lt m _ _ _ hm
    exact trodAll_cons_mk (Below.trod hl (hp t (by simp)).1 (hp t (by simp)).2 h0 hb hlt) (trodAll_stays hl hb (fun t ht => hp t (by simp [ht])) h1)
theorem trodAll_len {H : Type} {enc : TypeId × Value → H} {W : World} {base : Nat} {spare : Nat → Bool} {held : Bool} : ∀ {params : List TypeId} {args : List Value} {ds : List (DataW H)} {ps : List MemPlace},
    DataW.TrodAll enc P W base spare held params args ds ps → ds.length = params.length
  | [], args, ds, ps, h => by obtain ⟨_, rfl, _⟩ := trodAll_nil h; rfl
  | t :: params, args, ds, ps, h => by
    obtain ⟨v, vs, d, ds', p, q, rfl, rfl, rfl, h0, h1⟩ := trodAll_cons h
    simp [trodAll_len h1]
theorem law_lifted {C : Checked} {md : FuncId → Nat} {fg : FuncId → Nat → List Bool} {os : Os} {H : Type} {enc : TypeId × Value → H} {f : FuncId} {fn : Func} {s : ChangeSpec} {conds : List PathCond}
    (own : ownKnob C.prog.godebug = none) (started : os.Started) (noInit : C.prog.inits.idxOf? f = none) (hfn : C.prog.funcs[f]? = some fn)
    (witness : ∃ (w : World) (tape : Tape) (i : Input), w.os = os ∧ (w.forCall tape i).Shaped C.prog ∧ i.vars = [] ∧ Input.okWide C.prog (w.forCall tape i) .any w.heap.size f i ∧
      s.pre6 enc C.prog fn conds false (w.forCall tape i).memory i.args ∧ ({} : Assume).holds C.prog (lone (Frame.enter C.prog f i.args .normal) [] (w.forCall tape i)))
    (hvars : s.vars = []) {bt : TypeId} (hres : fn.resultTypes = #[bt]) (hbt : C.prog.underlying bt = some .bool) (hmix : C.prog.follows .mixedOrders = true) {ts : List TypeId} (hts : plainTypes C.prog ts = true)
    (hp : ∀ t ∈ fn.params.toList, t ∈ ts) (hrd : ∀ t ∈ fn.params.toList, C.prog.readableRec t = true ∧ t < C.prog.types.size) (laid : laidOutB C.prog = true)
    (hspec : ∀ ds : List (DataW H), ds.length = fn.params.toList.length → s.fn H (ds ++ []) = { results := [.lit (.bool true)], args := ds })
    (hall : ∀ avs, WTAll C.prog fn.params.toList avs → pcall C.prog md fg f avs = some (.val (.bool true))) :
    ReturnsInHanded {} C os f .any (s.pre6 enc C.prog fn conds false) (s.post enc C.prog fn false true false false) := by
  refine returnsInHanded_of_change own started noInit hfn witness ?_
  intro W base args ds gs before hval hW _ _
  have hW' := hW
  obtain ⟨p, q, hA, hV, rfl, hfz, hnd⟩ := hW
  rw [hvars] at hV
  obtain ⟨rfl, rfl⟩ : gs = [] ∧ q = [] := by
    cases gs with
    | nil => exact ⟨rfl, hV⟩
    | cons _ _ => exact hV.elim
  refine (law_calls hmix hts hp hall hA (fun j t v ht hv => hval j t v (by simpa using ht) hv)).mono fun e W' ⟨he, bel⟩ => ?_
  subst he
  have hs := hspec ds (trodAll_len hA)
  refine ⟨_, rfl, ds, [], p ++ [], [], p, [], hW', ?_, ?_, ?_, bel.frame _, fun h => by cases h⟩
  · rw [hs, hres]
    exact trodAll_mk1 (shut_bool hbt _)
  · rw [hs]; exact trodAll_stays laid bel hrd hA
  · rw [hs, hvars]; rfl
end
end Go.Ab
