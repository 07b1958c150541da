/-
  What an abstract value stands for in a world; what steps keep.
-/
import Derived.Test.YtlpkfeplbcadbaaAb2
import Derived.Tactics
import Derived.Laws.World
import Derived.Laws.Cells
namespace Go.Ab
set_option linter.unusedSimpArgs false
set_option linter.unusedVariables false

/-- Where the array of a number lay behind so many appends: its block, and the cell with which it begins. -/
abbrev Ghost := Nat → Nat → Option (Nat × Nat)

inductive V (w : World) (O : Nat → Prop) (γ : Ghost) : AV → Value → Prop
  | unk (v : Value) : V w O γ .unk v
  | val (v : Value) : V w O γ (.val v) v
  | agg (cs : List AV) (vs : Array Value) (hl : cs.length = vs.size) (hc : ∀ (i : Nat) (c : AV), cs[i]? = some c → isCell c = true)
      (hv : ∀ (i : Nat) (c : AV) (v : Value), cs[i]? = some c → vs[i]? = some v → V w O γ c v) : V w O γ (.agg cs) (.agg vs)
  | tup (cs : List AV) (vs : Array Value) (hl : cs.length = vs.size)
      (hv : ∀ (i : Nat) (c : AV) (v : Value), cs[i]? = some c → vs[i]? = some v → V w O γ c v) : V w O γ (.tup cs) (.tuple vs)
  | slc0 (full : Bool) (a : Option Addr) : V w O γ (.slc full []) (.slice a 0 0)
  | slc (full : Bool) (es : List AV) (b o cap k : Nat) (vals : Nat → Nat → Value) (hcap : es.length ≤ cap) (hfull : full = true → cap = es.length)
      (hk : ∀ (i : Nat) (e : AV), es[i]? = some e → okVal e = true ∧ e.cells.length = k)
      (hc : ∀ (i j : Nat) (e c : AV), es[i]? = some e → e.cells[j]? = some c → isCell c = true ∧ ¬ O b ∧ w.cell? ⟨b, o + i * k + j, none⟩ = some (vals i j))
      (hv : ∀ (i j : Nat) (e c : AV), es[i]? = some e → e.cells[j]? = some c → V w O γ c (vals i j)) : V w O γ (.slc full es) (.slice (some ⟨b, o, none⟩) es.length cap)
  | sptr (cs : List AV) (off b o : Nat) (vals : Nat → Value)
      (hc : ∀ (j : Nat) (c : AV), cs[j]? = some c → isCell c = true ∧ ¬ O b ∧ w.cell? ⟨b, o + j, none⟩ = some (vals j))
      (hv : ∀ (j : Nat) (c : AV), cs[j]? = some c → V w O γ c (vals j)) : V w O γ (.sptr cs off) (.pointer (some ⟨b, o + off, none⟩))
  | ptr (id off b o : Nat) (hg : γ id 0 = some (b, o)) : V w O γ (.ptr id off) (.pointer (some ⟨b, o + off, none⟩))
  | eptr (id g k idx off b o : Nat) (hg : γ id g = some (b, o)) : V w O γ (.eptr id g k idx off) (.pointer (some ⟨b, o + idx * k + off, none⟩))
  | arr (id off len g k b o cap o' : Nat) (hg : γ id g = some (b, o)) (hcap : len ≤ cap) (ho : o' = o + off * k ∨ cap = 0)
      (hrow : ∃ (c : Array Value) (T : TypeId) (z : Nat × Nat), w.heap[b]? = some (Obj.cells c T z) ∧ o + (off + cap) * k ≤ c.size) : V w O γ (.arr id off len g k) (.slice (some ⟨b, o', none⟩) len cap)
  | clo (f : FuncId) (first caps : List AV) (fs cs : Array Value) (hf : first.length = fs.size) (hc : caps.length = cs.size)
      (hvf : ∀ (i : Nat) (c : AV) (v : Value), first[i]? = some c → fs[i]? = some v → V w O γ c v)
      (hvc : ∀ (i : Nat) (c : AV) (v : Value), caps[i]? = some c → cs[i]? = some v → V w O γ c v) : V w O γ (.clo f first caps) (.func (.func f) fs cs)

/-- Values side by side. -/
def VA (w : World) (O : Nat → Prop) (γ : Ghost) (as : List AV) (vs : Array Value) : Prop :=
  as.length = vs.size ∧ ∀ (i : Nat) (a : AV) (v : Value), as[i]? = some a → vs[i]? = some v → V w O γ a v

structure Sees (w : World) (O : Nat → Prop) (γ : Ghost) (w' : World) (O' : Nat → Prop) (γ' : Ghost) : Prop where
  ext : ∀ id g p, γ id g = some p → γ' id g = some p
  cell : ∀ b off v, ¬ O b → w.cell? ⟨b, off, none⟩ = some v → ¬ O' b ∧ w'.cell? ⟨b, off, none⟩ = some v
  row : ∀ (b : Nat) (c : Array Value) (T : TypeId) (z : Nat × Nat), w.heap[b]? = some (Obj.cells c T z) → ∃ (c' : Array Value) (z' : Nat × Nat), w'.heap[b]? = some (Obj.cells c' T z') ∧ c'.size = c.size

section
variable {w w' : World} {O O' : Nat → Prop} {γ γ' : Ghost}
theorem V.mono {a : AV} {v : Value} (h : V w O γ a v) (s : Sees w O γ w' O' γ') : V w' O' γ' a v := by
  induction h with
  | unk v => exact .unk v
  | val v => exact .val v
  | agg cs vs hl hc _ ih => exact .agg cs vs hl hc ih
  | tup cs vs hl _ ih => exact .tup cs vs hl ih
  | slc0 full a => exact .slc0 full a
  | slc full es b o cap k vals hcap hfull hk hc _ ih =>
    exact .slc full es b o cap k vals hcap hfull hk (fun i j e c he hj => by
      obtain ⟨h1, h2, h3⟩ := hc i j e c he hj
      exact ⟨h1, s.cell _ _ _ h2 h3⟩) ih
  | sptr cs off b o vals hc _ ih =>
    exact .sptr cs off b o vals (fun j c hj => by
      obtain ⟨h1, h2, h3⟩ := hc j c hj
      exact ⟨h1, s.cell _ _ _ h2 h3⟩) ih
  | ptr id off b o hg => exact .ptr id off b o (s.ext _ _ _ hg)
  | eptr id g k idx off b o hg => exact .eptr id g k idx off b o (s.ext _ _ _ hg)
  | arr id off len g k b o cap o' hg hcap ho hrow =>
    obtain ⟨c, T, z, h1, h2⟩ := hrow
    obtain ⟨c', z', h3, h4⟩ := s.row _ _ _ _ h1
    exact .arr id off len g k b o cap o' (s.ext _ _ _ hg) hcap ho ⟨c', T, z', h3, by rw [h4]; exact h2⟩
  | clo f first caps fs cs hf hc _ _ ih1 ih2 => exact .clo f first caps fs cs hf hc ih1 ih2
theorem VA.mono {as : List AV} {vs : Array Value} (h : VA w O γ as vs) (s : Sees w O γ w' O' γ') : VA w' O' γ' as vs :=
  ⟨h.1, fun i a v ha hv => (h.2 i a v ha hv).mono s⟩
theorem Sees.refl (w : World) (O : Nat → Prop) (γ : Ghost) : Sees w O γ w O γ := ⟨fun _ _ _ h => h, fun _ _ _ h k => ⟨h, k⟩, fun _ c T z h => ⟨c, z, h, rfl⟩⟩

/-! ### Inversions -/
theorem V.cell_one {a : AV} {v : Value} (h : V w O γ a v) (hc : isCell a = true) : v.oneCell' = true ∧ v.cells = #[v] ∧ a.cells = [a] := by
  cases h <;> first | (simp [isCell] at hc; done) | skip
  all_goals first | exact ⟨rfl, rfl, rfl⟩ | skip
  cases v <;> first | (simp [isCell] at hc; done) | exact ⟨rfl, rfl, rfl⟩
/-- The cells of what can be laid into memory. -/
theorem V.cells {a : AV} {v : Value} (h : V w O γ a v) (hk : okVal a = true) :
    a.cells.length = v.cells.size ∧ ∀ (i : Nat) (c : AV), a.cells[i]? = some c → isCell c = true ∧ ∃ u, v.cells[i]? = some u ∧ V w O γ c u := by
  by_cases hc : isCell a = true
  · obtain ⟨_, h2, h3⟩ := h.cell_one hc
    rw [h2, h3]
    refine ⟨rfl, fun i c hi => ?_⟩
    cases i with
    | zero => simp at hi; subst hi; exact ⟨hc, v, rfl, h⟩
    | succ n => simp at hi
  · cases h with
    | agg cs vs hl hcc hv =>
      refine ⟨hl, fun i c hi => ⟨hcc i c hi, ?_⟩⟩
      have hi' : cs[i]? = some c := hi
      have hlt : i < vs.size := by rw [← hl]; exact (List.getElem?_eq_some_iff.1 hi').1
      refine ⟨vs[i], ?_, hv i c _ hi' ?_⟩
      · show vs[i]? = _; simp [hlt]
      · simp [hlt]
    | val v => cases v <;> simp [okVal] at hk <;> simp [isCell] at hc
    | tup cs vs hl hv => simp [okVal] at hk
    | unk v => simp [okVal] at hk
    | _ => simp [isCell] at hc
end

/-! ### The whole of memory -/
def ogen : AObj → Option Nat
  | .vars _ => some 0
  | .arr _ _ g => some g
  | _ => none
/-- Blocks that the run may write. -/
def Own (h : AHeap) (γ : Ghost) (b : Nat) : Prop := ∃ id g o, ogen (hget h id) = some g ∧ γ id g = some (b, o)
/-- A row of elements of k cells each, from a cell of a block on. -/
def RowIs (w : World) (O : Nat → Prop) (γ : Ghost) (b o k : Nat) (es : List AV) : Prop :=
  (∀ (i : Nat) (e : AV), es[i]? = some e → okVal e = true ∧ e.cells.length = k) ∧
  ∀ (i j : Nat) (e c : AV), es[i]? = some e → e.cells[j]? = some c → isCell c = true ∧ ∃ v, w.cell? ⟨b, o + i * k + j, none⟩ = some v ∧ V w O γ c v
/-- A block whose cells may be written. -/
def Free (w : World) (b : Nat) : Prop := ∃ (c : Array Value) (T : TypeId) (z : Nat × Nat), w.heap[b]? = some (Obj.cells c T z) ∧ ∀ off, off < c.size → w.frozen? ⟨b, off, none⟩ = false
def OkObj (w : World) (O : Nat → Prop) (γ : Ghost) (id : Nat) : AObj → Prop
  | .dead => True
  | .vars cs => ∃ b o, γ id 0 = some (b, o) ∧ Free w b ∧ ∀ (j : Nat) (c : AV), cs[j]? = some c → isCell c = true ∧ ∃ v, w.cell? ⟨b, o + j, none⟩ = some v ∧ V w O γ c v
  | .arr k es g => ∃ b o, γ id g = some (b, o) ∧ Free w b ∧ RowIs w O γ b o k es
  | .frz k es g => ∃ b o, γ id g = some (b, o) ∧ RowIs w O γ b o k es ∧ ∀ (i j : Nat) (e c : AV), es[i]? = some e → e.cells[j]? = some c → ¬ O b
structure R (X : Nat → Prop) (h : AHeap) (γ : Ghost) (w : World) : Prop where
  dom : ∀ id g p, γ id g = some p → id < h.length
  gens : ∀ id k es g g' p, hget h id = .arr k es g → γ id g' = some p → g' ≤ g
  obj : ∀ id, OkObj w (fun b => X b ∨ Own h γ b) γ id (hget h id)
  inj : ∀ id id' g g' b o o', ogen (hget h id) = some g → γ id g = some (b, o) → ogen (hget h id') = some g' → γ id' g' = some (b, o') → id = id'
  apart : ∀ b, Own h γ b → ¬ X b
  xin : ∀ b, X b → b < w.heap.size
abbrev Ow (X : Nat → Prop) (h : AHeap) (γ : Ghost) : Nat → Prop := fun b => X b ∨ Own h γ b

/-- What a run did to the world, where it may write the blocks of O. -/
structure Step (w w' : World) (O : Nat → Prop) : Prop where
  os : w'.os = w.os
  tape : w'.tape = w.tape
  output : w'.output = w.output
  size : w.heap.size ≤ w'.heap.size
  keep : ∀ b, b < w.heap.size → ¬ O b → w'.heap[b]? = w.heap[b]?
  row : ∀ (b : Nat) (c : Array Value) (T : TypeId) (z : Nat × Nat), w.heap[b]? = some (Obj.cells c T z) → ∃ (c' : Array Value) (z' : Nat × Nat), w'.heap[b]? = some (Obj.cells c' T z') ∧ c'.size = c.size
structure Goes (X : Nat → Prop) (h : AHeap) (γ : Ghost) (w : World) (h' : AHeap) (γ' : Ghost) (w' : World) : Prop where
  rel : R X h' γ' w'
  ext : ∀ id g p, γ id g = some p → γ' id g = some p
  step : Step w w' (Own h γ)
  fresh : ∀ b, b < w.heap.size → Own h' γ' b → Own h γ b

theorem Step.refl (w : World) (O : Nat → Prop) : Step w w O := ⟨rfl, rfl, rfl, Nat.le_refl _, fun _ _ _ => rfl, fun _ c _ z h => ⟨c, z, h, rfl⟩⟩
theorem Step.trans {a b c : World} {O O' : Nat → Prop} (h : Step a b O) (k : Step b c O') (hO : ∀ i, i < a.heap.size → O' i → O i) : Step a c O :=
  ⟨k.os.trans h.os, k.tape.trans h.tape, k.output.trans h.output, Nat.le_trans h.size k.size,
   fun i hi hn => (k.keep i (Nat.lt_of_lt_of_le hi h.size) (fun ho => hn (hO i hi ho))).trans (h.keep i hi hn),
   fun i r T z hr => by
    obtain ⟨r1, z1, h1, e1⟩ := h.row i r T z hr
    obtain ⟨r2, z2, h2, e2⟩ := k.row i r1 T z1 h1
    exact ⟨r2, z2, h2, e2.trans e1⟩⟩
theorem Goes.refl {X : Nat → Prop} {h : AHeap} {γ : Ghost} {w : World} (r : R X h γ w) : Goes X h γ w h γ w :=
  ⟨r, fun _ _ _ e => e, Step.refl _ _, fun _ _ e => e⟩
theorem Goes.trans {X : Nat → Prop} {h h' h'' : AHeap} {γ γ' γ'' : Ghost} {w w' w'' : World} (a : Goes X h γ w h' γ' w') (b : Goes X h' γ' w' h'' γ'' w'') :
    Goes X h γ w h'' γ'' w'' :=
  ⟨b.rel, fun id g p e => b.ext id g p (a.ext id g p e), a.step.trans b.step fun i hi ho => a.fresh i hi ho,
   fun i hi ho => a.fresh i hi (b.fresh i (Nat.lt_of_lt_of_le hi a.step.size) ho)⟩
theorem cell?_of_heap {w w' : World} {b : Nat} (h : w'.heap[b]? = w.heap[b]?) (off : Nat) : w'.cell? ⟨b, off, none⟩ = w.cell? ⟨b, off, none⟩ := by
  simp only [World.cell?, h]
theorem lt_of_cell {w : World} {b off : Nat} {v : Value} (h : w.cell? ⟨b, off, none⟩ = some v) : b < w.heap.size := by
  rcases Nat.lt_or_ge b w.heap.size with hl | hl
  · exact hl
  · simp [World.cell?, Array.getElem?_eq_none hl] at h
theorem Goes.sees {X : Nat → Prop} {h h' : AHeap} {γ γ' : Ghost} {w w' : World} (a : Goes X h γ w h' γ' w') : Sees w (Ow X h γ) γ w' (Ow X h' γ') γ' :=
  ⟨a.ext, fun b off v hO hv => by
    have hlt := lt_of_cell hv
    refine ⟨fun ho => ?_, ?_⟩
    · rcases ho with hx | ho
      · exact hO (.inl hx)
      · exact hO (.inr (a.fresh b hlt ho))
    · rw [cell?_of_heap (a.step.keep b hlt (fun ho => hO (.inr ho)))]; exact hv, a.step.row⟩
theorem V.goes {X : Nat → Prop} {h h' : AHeap} {γ γ' : Ghost} {w w' : World} {a : AV} {v : Value} (k : V w (Ow X h γ) γ a v) (g : Goes X h γ w h' γ' w') : V w' (Ow X h' γ') γ' a v := k.mono g.sees
theorem VA.goes {X : Nat → Prop} {h h' : AHeap} {γ γ' : Ghost} {w w' : World} {a : List AV} {v : Array Value} (k : VA w (Ow X h γ) γ a v) (g : Goes X h γ w h' γ' w') : VA w' (Ow X h' γ') γ' a v := k.mono g.sees

/-! ### Lists and arrays side by side -/
theorem VA.get {w : World} {O : Nat → Prop} {γ : Ghost} {as : List AV} {vs : Array Value} (h : VA w O γ as vs) (i : Nat) : V w O γ (as.getD i .und) (vs.getD i undef) := by
  by_cases hi : i < as.length
  · have hi' : i < vs.size := h.1 ▸ hi
    have := h.2 i as[i] vs[i] (by simp [hi]) (by simp [hi'])
    simpa [List.getD, Array.getD, hi, hi'] using this
  · have hi' : ¬ i < vs.size := h.1 ▸ hi
    have e1 : as.getD i .und = .und := by simp [List.getD, List.getElem?_eq_none (Nat.le_of_not_lt hi)]
    have e2 : vs.getD i undef = undef := by simp [Array.getD, hi']
    rw [e1, e2]
    exact .val _
theorem VA.set {w : World} {O : Nat → Prop} {γ : Ghost} {as : List AV} {vs : Array Value} (h : VA w O γ as vs) {a : AV} {v : Value} (hv : V w O γ a v) (i : Nat) :
    VA w O γ (as.set i a) (vs.setIfInBounds i v) := by
  refine ⟨by simp [h.1], fun j x u hx hu => ?_⟩
  by_cases e : i = j
  · subst e
    have hi : i < as.length := by
      rcases Nat.lt_or_ge i as.length with hl | hl
      · exact hl
      · rw [List.getElem?_eq_none (by simpa using hl)] at hx; cases hx
    have hi' : i < vs.size := h.1 ▸ hi
    simp [hi] at hx
    simp [hi'] at hu
    subst hx; subst hu; exact hv
  · rw [List.getElem?_set_ne e] at hx
    rw [Array.getElem?_setIfInBounds_ne e] at hu
    exact h.2 j x u hx hu
theorem VA.of_list {w : World} {O : Nat → Prop} {γ : Ghost} {α : Type} {l : List α} {f : α → AV} {g : α → Value} (h : ∀ x ∈ l, V w O γ (f x) (g x)) : VA w O γ (l.map f) (l.map g).toArray := by
  refine ⟨by simp, fun i a v ha hv => ?_⟩
  simp at ha hv
  obtain ⟨x, hx, rfl⟩ := ha
  obtain ⟨y, hy, rfl⟩ := hv
  rw [hx] at hy; obtain rfl := Option.some.inj hy
  exact h x (List.mem_of_getElem? hx)
theorem VA.append {w : World} {O : Nat → Prop} {γ : Ghost} {as bs : List AV} {vs us : Array Value} (h : VA w O γ as vs) (k : VA w O γ bs us) : VA w O γ (as ++ bs) (vs ++ us) := by
  refine ⟨by simp [h.1, k.1], fun i a v ha hv => ?_⟩
  by_cases hi : i < as.length
  · rw [List.getElem?_append_left hi] at ha
    rw [Array.getElem?_append_left (h.1 ▸ hi)] at hv
    exact h.2 i a v ha hv
  · rw [List.getElem?_append_right (Nat.le_of_not_lt hi)] at ha
    rw [Array.getElem?_append_right (by rw [← h.1]; omega)] at hv
    rw [← h.1] at hv
    exact k.2 _ a v ha hv
theorem VA.nil {w : World} {O : Nat → Prop} {γ : Ghost} : VA w O γ [] #[] := ⟨rfl, fun i a v ha => by simp at ha⟩
theorem VA.replicate {w : World} {O : Nat → Prop} {γ : Ghost} (n : Nat) : VA w O γ (List.replicate n .und) (Array.replicate n undef) := by
  refine ⟨by simp, fun i a v ha hv => ?_⟩
  have h1 : a = .und := (List.mem_replicate.1 (List.mem_of_getElem? ha)).2
  have h2 : v = undef := (Array.mem_replicate.1 (Array.mem_of_getElem? hv)).2
  subst h1; subst h2; exact .val _
theorem VA.unks {w : World} {O : Nat → Prop} {γ : Ghost} (n : Nat) (vs : Array Value) (h : vs.size = n) : VA w O γ (List.replicate n .unk) vs := by
  refine ⟨by simp [h], fun i a v ha hv => ?_⟩
  have h1 : a = .unk := (List.mem_replicate.1 (List.mem_of_getElem? ha)).2
  subst h1; exact .unk _
theorem mask_length : ∀ (m : List Bool) (e : Env), (mask m e).length = e.length
  | [], e => by cases e <;> rfl
  | true :: m, [] => rfl
  | false :: m, [] => rfl
  | true :: m, x :: e => by simp only [mask, List.length_cons, mask_length m e]
  | false :: m, x :: e => by simp only [mask, List.length_cons, mask_length m e]
theorem mask_get : ∀ (m : List Bool) (e : Env) (i : Nat) (a : AV), (mask m e)[i]? = some a → e[i]? = some a ∨ a = .unk
  | [], e, i, a, h => by cases e <;> exact .inl h
  | true :: m, [], i, a, h => .inl h
  | false :: m, [], i, a, h => .inl h
  | true :: m, x :: e, i, a, h => by
    cases i with
    | zero => exact .inl h
    | succ n => exact mask_get m e n a h
  | false :: m, x :: e, i, a, h => by
    cases i with
    | zero => right; cases h; rfl
    | succ n => exact mask_get m e n a h
theorem VA.mask {w : World} {O : Nat → Prop} {γ : Ghost} {e : Env} {vs : Array Value} (h : VA w O γ e vs) (m : List Bool) : VA w O γ (mask m e) vs := by
  refine ⟨by rw [mask_length]; exact h.1, fun i a v ha hv => ?_⟩
  rcases mask_get m e i a ha with h1 | rfl
  · exact h.2 i a v h1 hv
  · exact .unk _
end Go.Ab
