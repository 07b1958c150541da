/- Parts of the proof, each with its own heading: Steps of the memory: a new object, a change of one object. Each operation of the abstract machine is one of the model's: reading, addresses, plain values. Each operation of the abstract machine is one of the model's: values taken apart and put together. Each operation of the abstract machine is one of the model's: slices, new memory, stores. Each operation of the abstract machine is one of the model's: new memory, stores, appends. -/
import Derived.Test.YtncjbccjpneoiaaDoorPart1
import Derived.Laws.StructEq
import Derived.Lib.ConvBytes
import Derived.Laws.BytesString
import Derived.Deep.AppendSrc
import Derived.Laws.AppendOwn
set_option linter.unusedSimpArgs false
set_option linter.unusedVariables false
namespace Go.Ab

/-! ### Cells written one behind the other -/
def putW (w : World) (b o : Nat) : List Value → World
  | [] => w
  | v :: r => putW (w.setCell ⟨b, o, none⟩ v) b (o + 1) r
theorem addr_add (b o n : Nat) : (⟨b, o, none⟩ : Addr).add n = ⟨b, o + n, none⟩ := by
  unfold Addr.add; split
  · rename_i h; subst h; rfl
  · rfl
section
variable {w : World} {b : Nat}
theorem setCell_heap_ne (v : Value) {o b' : Nat} (h : b' ≠ b) : (w.setCell ⟨b, o, none⟩ v).heap[b']? = w.heap[b']? := by
  simp only [World.setCell, Array.getElem?_modify]
  rw [if_neg (fun e => h e.symm)]
theorem setCell_heap_eq (v : Value) {o : Nat} {c : Array Value} {T : TypeId} {z : Nat × Nat} (h : w.heap[b]? = some (.cells c T z)) :
    (w.setCell ⟨b, o, none⟩ v).heap[b]? = some (.cells (c.setIfInBounds o v) T z) := by
  simp [World.setCell, Array.getElem?_modify, h]
theorem putW_heap_ne (vs : List Value) : ∀ (w : World) (o : Nat) {b' : Nat}, b' ≠ b → (putW w b o vs).heap[b']? = w.heap[b']? := by
  induction vs with
  | nil => intro w o b' _; rfl
  | cons v r ih => intro w o b' h; rw [putW, ih _ _ h, setCell_heap_ne v h]
theorem putW_size (vs : List Value) : ∀ (w : World) (o : Nat), (putW w b o vs).heap.size = w.heap.size := by
  induction vs with
  | nil => intro w o; rfl
  | cons v r ih => intro w o; rw [putW, ih]; simp [World.setCell]
theorem putW_heap_eq (vs : List Value) : ∀ (w : World) (o : Nat) (c : Array Value) (T : TypeId) (z : Nat × Nat), w.heap[b]? = some (.cells c T z) → o + vs.length ≤ c.size →
    ∃ c' : Array Value, (putW w b o vs).heap[b]? = some (.cells c' T z) ∧ c'.size = c.size ∧ (∀ i, (i < o ∨ o + vs.length ≤ i) → c'[i]? = c[i]?) ∧ ∀ j, j < vs.length → c'[o + j]? = vs[j]? := by
  induction vs with
  | nil => intro w o c T z h _; exact ⟨c, h, rfl, fun _ _ => rfl, fun j hj => by simp at hj⟩
  | cons v r ih =>
    intro w o c T z h hl
    simp only [List.length_cons] at hl
    obtain ⟨c', h1, h2, h3, h4⟩ := ih (w.setCell ⟨b, o, none⟩ v) (o + 1) _ T z (setCell_heap_eq v h) (by simp; omega)
    refine ⟨c', h1, by simpa using h2, fun i hi => ?_, fun j hj => ?_⟩
    · simp only [List.length_cons] at hi
      rw [h3 i (by omega), Array.getElem?_setIfInBounds_ne (by omega)]
    · cases j with
      | zero =>
        rw [Nat.add_zero, h3 o (by omega)]
        have : o < c.size := by omega
        simp [this]
      | succ n =>
        have := h4 n (by simpa using hj)
        rw [show o + (n + 1) = o + 1 + n by omega, this]; simp
theorem putW_other (vs : List Value) : ∀ (w : World) (o : Nat), (putW w b o vs).os = w.os ∧ (putW w b o vs).tape = w.tape ∧ (putW w b o vs).output = w.output := by
  induction vs with
  | nil => intro w o; exact ⟨rfl, rfl, rfl⟩
  | cons v r ih => intro w o; obtain ⟨h1, h2, h3⟩ := ih (w.setCell ⟨b, o, none⟩ v) (o + 1); exact ⟨h1, h2, h3⟩
theorem frozen_of_heap {w w' : World} {b : Nat} {c c' : Array Value} {T : TypeId} {z : Nat × Nat} (h : w.heap[b]? = some (.cells c T z)) (h' : w'.heap[b]? = some (.cells c' T z)) (off : Nat) :
    w'.frozen? ⟨b, off, none⟩ = w.frozen? ⟨b, off, none⟩ := by simp only [World.frozen?, h, h']
theorem putW_free (vs : List Value) {o : Nat} (h : Free w b) (hl : ∀ c T z, w.heap[b]? = some (.cells c T z) → o + vs.length ≤ c.size) : Free (putW w b o vs) b := by
  obtain ⟨c, T, z, hh, hf⟩ := h
  obtain ⟨c', h1, h2, _⟩ := putW_heap_eq vs w o c T z hh (hl c T z hh)
  exact ⟨c', T, z, h1, fun off ho => by rw [frozen_of_heap hh h1]; exact hf off (by omega)⟩
theorem putW_step (vs : List Value) {o : Nat} (h : ∃ (c : Array Value) (T : TypeId) (z : Nat × Nat), w.heap[b]? = some (Obj.cells c T z) ∧ o + vs.length ≤ c.size) : Step w (putW w b o vs) (fun x => x = b) := by
  obtain ⟨c, T, z, hh, hl⟩ := h
  obtain ⟨h1, h2, h3⟩ := putW_other (b := b) vs w o
  refine ⟨h1, h2, h3, by rw [putW_size]; exact Nat.le_refl _, fun i _ hi => putW_heap_ne vs w o hi, fun i r U y hr => ?_⟩
  by_cases e : i = b
  · subst e
    rw [hh] at hr; cases hr
    obtain ⟨c', k1, k2, _⟩ := putW_heap_eq vs w o c T z hh hl
    exact ⟨c', z, k1, k2⟩
  · exact ⟨r, y, by rw [putW_heap_ne vs w o e]; exact hr, rfl⟩
theorem cell_iff {w : World} {b : Nat} {c : Array Value} {T : TypeId} {z : Nat × Nat} (h : w.heap[b]? = some (.cells c T z)) (off : Nat) : w.cell? ⟨b, off, none⟩ = c[off]? := by
  simp [World.cell?, h]
theorem putW_cell (vs : List Value) {o : Nat} (h : ∃ (c : Array Value) (T : TypeId) (z : Nat × Nat), w.heap[b]? = some (Obj.cells c T z) ∧ o + vs.length ≤ c.size) :
    (∀ i, (i < o ∨ o + vs.length ≤ i) → (putW w b o vs).cell? ⟨b, i, none⟩ = w.cell? ⟨b, i, none⟩) ∧ ∀ j, j < vs.length → (putW w b o vs).cell? ⟨b, o + j, none⟩ = vs[j]? := by
  obtain ⟨c, T, z, hh, hl⟩ := h
  obtain ⟨c', k1, _, k3, k4⟩ := putW_heap_eq vs w o c T z hh hl
  exact ⟨fun i hi => by rw [cell_iff k1, cell_iff hh]; exact k3 i hi, fun j hj => by rw [cell_iff k1]; exact k4 j hj⟩
theorem run_storeCells (P : Program) (vs : List Value) : ∀ (w : World) (o i : Nat), Free w b → (∀ c T z, w.heap[b]? = some (.cells c T z) → o + i + vs.length ≤ c.size) → (∀ v ∈ vs, v.oneCell' = true) →
    (storeCells ⟨b, o, none⟩ vs i).run P w = .ok () (putW w b (o + i) vs) := by
  induction vs with
  | nil => intro w o i _ _ _; rfl
  | cons v r ih =>
    intro w o i hf hl hv
    have hf' := hf
    obtain ⟨c, T, z, hh, hfz⟩ := hf'
    have hlen := hl c T z hh
    simp only [List.length_cons] at hlen
    have hlt : o + i < c.size := by omega
    have hcell : w.cell? ⟨b, o + i, none⟩ = some c[o + i] := by rw [cell_iff hh]; simp [hlt]
    rw [storeCells]
    simp only [Sem.run_bind, addr_add, run_store P w _ v .plain (hv v (by simp)), hcell, hfz _ hlt, Bool.false_eq_true, if_false, Result.andThen_ok]
    rw [ih (w.setCell ⟨b, o + i, none⟩ v) o (i + 1) ⟨_, T, z, setCell_heap_eq v hh, fun off ho => by rw [frozen_of_heap hh (setCell_heap_eq v hh)]; exact hfz off (by simpa using ho)⟩
      (fun c' T' z' hh' => by rw [setCell_heap_eq v hh] at hh'; cases hh'; simp; omega) (fun x hx => hv x (by simp [hx]))]
    rfl
theorem run_loadCells' (P : Program) (w : World) (b o n : Nat) (f : Nat → Value) (h : ∀ j, j < n → w.cell? ⟨b, o + j, none⟩ = some (f j)) :
    (loadCells ⟨b, o, none⟩ n).run P w = .ok ((List.range n).map f).toArray w :=
  run_loadCells w _ n f fun j hj => by rw [addr_add]; exact h j hj
end

/-! ### A new object -/
def Ghost.put (γ : Ghost) (id g : Nat) (p : Nat × Nat) : Ghost := fun i j => if i = id ∧ j = g then some p else γ i j
section
variable {X : Nat → Prop} {h : AHeap} {γ : Ghost} {w : World}
theorem hget_lt {h : AHeap} {id : Nat} {o : AObj} (e : hget h id = o) (ho : o ≠ .dead) : id < h.length := by
  rcases Nat.lt_or_ge id h.length with hl | hl
  · exact hl
  · simp [hget, List.getD, List.getElem?_eq_none hl] at e
    exact absurd e.symm ho
theorem ogen_lt {h : AHeap} {id g : Nat} (e : ogen (hget h id) = some g) : id < h.length :=
  hget_lt rfl (fun hd => by rw [hd] at e; cases e)
theorem hget_append_lt {h : AHeap} {o : AObj} {id : Nat} (hl : id < h.length) : hget (h ++ [o]) id = hget h id := by
  simp [hget, List.getD, List.getElem?_append_left hl]
theorem hget_append_eq {h : AHeap} {o : AObj} : hget (h ++ [o]) h.length = o := by
  simp [hget, List.getD]
theorem hget_append_gt {h : AHeap} {o : AObj} {id : Nat} (hl : h.length < id) : hget (h ++ [o]) id = .dead := by
  simp only [hget, List.getD]
  rw [List.getElem?_eq_none (by simp; omega)]; rfl
theorem R.own_lt (r : R X h γ w) {b : Nat} (ho : Own h γ b) : b < w.heap.size := by
  obtain ⟨id, g, o, h1, h2⟩ := ho
  have := r.obj id
  cases hg : hget h id with
  | dead => rw [hg] at h1; cases h1
  | vars cs =>
    rw [hg] at h1 this; simp [ogen] at h1; subst h1
    obtain ⟨b', o', e, ⟨c, T, z, hh, _⟩, _⟩ := this
    rw [h2] at e; cases e
    exact (Array.getElem?_eq_some_iff.1 hh).1
  | arr k es g' =>
    rw [hg] at h1 this; simp [ogen] at h1; subst h1
    obtain ⟨b', o', e, ⟨c, T, z, hh, _⟩, _⟩ := this
    rw [h2] at e; cases e
    exact (Array.getElem?_eq_some_iff.1 hh).1
  | frz k es g' => rw [hg] at h1; cases h1
  | map es c =>
    rw [hg] at h1 this; simp [ogen] at h1; subst h1
    obtain ⟨b', e, xs, hh, _⟩ := this
    rw [h2] at e; cases e
    exact (Array.getElem?_eq_some_iff.1 hh).1
  | iter m s n l =>
    rw [hg] at h1 this; simp [ogen] at h1; subst h1
    obtain ⟨b', e, xs, hh, _⟩ := this
    rw [h2] at e; cases e
    exact (Array.getElem?_eq_some_iff.1 hh).1
theorem RowIs.mono {w' : World} {O O' : Nat → Prop} {γ' : Ghost} {b o k : Nat} {es : List AV} (hr : RowIs w O γ b o k es) (s : Sees w O γ w' O' γ')
    (hc : ∀ off, w'.cell? ⟨b, off, none⟩ = w.cell? ⟨b, off, none⟩) : RowIs w' O' γ' b o k es :=
  ⟨hr.1, fun i j e c he hj => by
    obtain ⟨h1, v, h2, h3⟩ := hr.2 i j e c he hj
    exact ⟨h1, v, by rw [hc]; exact h2, h3.mono s⟩⟩
theorem OkObj.keep {w' : World} {O O' : Nat → Prop} {γ' : Ghost} {id : Nat} {o : AObj} (hk : OkObj w O γ id o) (s : Sees w O γ w' O' γ')
    (hb : ∀ g b p, γ id g = some (b, p) → ogen o = some g → w'.heap[b]? = w.heap[b]?) : OkObj w' O' γ' id o := by
  have free : ∀ b, Free w b → w'.heap[b]? = w.heap[b]? → Free w' b := by
    rintro b ⟨c, T, z, hh, hf⟩ e
    rw [hh] at e
    exact ⟨c, T, z, e, fun off ho => by rw [frozen_of_heap hh e]; exact hf off ho⟩
  cases o with
  | dead => trivial
  | vars cs =>
    obtain ⟨b, o, h1, h2, h3⟩ := hk
    have e := hb _ b o h1 rfl
    exact ⟨b, o, s.ext _ _ _ h1, free b h2 e, fun j c hj => by
      obtain ⟨k1, v, k2, k3⟩ := h3 j c hj
      exact ⟨k1, v, by rw [cell?_of_heap e]; exact k2, k3.mono s⟩⟩
  | arr k es g =>
    obtain ⟨b, o, h1, h2, h3⟩ := hk
    have e := hb _ b o h1 rfl
    exact ⟨b, o, s.ext _ _ _ h1, free b h2 e, h3.mono s (cell?_of_heap e)⟩
  | frz k es g =>
    obtain ⟨b, o, h1, h2, h3⟩ := hk
    refine ⟨b, o, s.ext _ _ _ h1, ⟨h2.1, fun i j e c he hj => ?_⟩, fun i j e c he hj => ?_⟩
    · obtain ⟨k1, v, k2, k3⟩ := h2.2 i j e c he hj
      exact ⟨k1, v, (s.cell _ _ _ (h3 i j e c he hj) k2).2, k3.mono s⟩
    · obtain ⟨k1, v, k2, k3⟩ := h2.2 i j e c he hj
      exact (s.cell _ _ _ (h3 i j e c he hj) k2).1
  | map es c =>
    obtain ⟨b, h1, xs, h2, h3⟩ := hk
    exact ⟨b, s.ext _ _ _ h1, xs, by rw [hb _ b 0 h1 rfl]; exact h2, h3.mono s⟩
  | iter m since n l =>
    obtain ⟨b, h1, mm, h2, h3⟩ := hk
    exact ⟨b, s.ext _ _ _ h1, mm, by rw [hb _ b 0 h1 rfl]; exact h2, h3.mono s.ext⟩
def NewIs (w : World) (O : Nat → Prop) (γ : Ghost) (c : Array Value) : AObj → Prop
  | .vars cs => ∀ (j : Nat) (x : AV), cs[j]? = some x → isCell x = true ∧ ∃ v, c[j]? = some v ∧ V w O γ x v
  | .arr k es g => g = 0 ∧ (∀ (i : Nat) (e : AV), es[i]? = some e → okVal e = true ∧ e.cells.length = k) ∧
      ∀ (i j : Nat) (e x : AV), es[i]? = some e → e.cells[j]? = some x → isCell x = true ∧ ∃ v, c[i * k + j]? = some v ∧ V w O γ x v
  | _ => False
theorem NewIs.gen {O : Nat → Prop} {c : Array Value} {o : AObj} (hn : NewIs w O γ c o) : ogen o = some 0 := by
  cases o with
  | vars cs => rfl
  | arr k es g => obtain ⟨rfl, _⟩ := hn; rfl
  | dead => cases hn
  | frz _ _ _ => cases hn
  | map _ _ => cases hn
  | iter _ _ _ _ => cases hn
theorem alloc_goes (r : R X h γ w) {w' : World} {c : Array Value} {T : TypeId} {z : Nat × Nat} {o : AObj} (hw : w'.heap = w.heap.push (.cells c T z))
    (h1 : w'.os = w.os) (h2 : w'.tape = w.tape) (h3 : w'.output = w.output) (hz : ∀ off, off < c.size → ¬ (z.1 ≤ off ∧ off < z.2)) (hn : NewIs w (Ow X h γ) γ c o) :
    Goes X h γ w (h ++ [o]) (γ.put h.length 0 (w.heap.size, 0)) w' := by
  have hgn0 := hn.gen
  have hnone : ∀ j, γ h.length j = none := fun j => by
    cases e : γ h.length j with
    | none => rfl
    | some p => exact absurd (r.dom _ _ _ e) (Nat.lt_irrefl _)
  have hext : ∀ id g p, γ id g = some p → (γ.put h.length 0 (w.heap.size, 0)) id g = some p := by
    intro id g p e
    unfold Ghost.put
    rw [if_neg]
    · exact e
    · rintro ⟨rfl, rfl⟩; rw [hnone] at e; cases e
  have hold : ∀ b, b < w.heap.size → w'.heap[b]? = w.heap[b]? := fun b hb => by rw [hw, Array.getElem?_push, if_neg (by omega)]
  have hnew : w'.heap[w.heap.size]? = some (.cells c T z) := by rw [hw]; simp
  have hown : ∀ b, Own (h ++ [o]) (γ.put h.length 0 (w.heap.size, 0)) b → Own h γ b ∨ b = w.heap.size := by
    rintro b ⟨id, g, p, e1, e2⟩
    by_cases hl : id < h.length
    · rw [hget_append_lt hl] at e1
      unfold Ghost.put at e2
      rw [if_neg (fun e => by omega)] at e2
      exact .inl ⟨id, g, p, e1, e2⟩
    · by_cases he : id = h.length
      · subst he
        rw [hget_append_eq, hn.gen] at e1; cases e1
        unfold Ghost.put at e2
        rw [if_pos ⟨rfl, rfl⟩] at e2
        cases e2; exact .inr rfl
      · rw [hget_append_gt (by omega)] at e1; cases e1
  have hstep : Step w w' (fun _ => False) := ⟨h1, h2, h3, by rw [hw]; simp, fun b hb _ => hold b hb, fun b c' T' z' hh => ⟨c', z', by rw [hold b (Array.getElem?_eq_some_iff.1 hh).1]; exact hh, rfl⟩⟩
  have hsees : Sees w (Ow X h γ) γ w' (Ow X (h ++ [o]) (γ.put h.length 0 (w.heap.size, 0))) (γ.put h.length 0 (w.heap.size, 0)) := by
    refine ⟨hext, fun b off v hO hv => ?_, hstep.row⟩
    have hlt := lt_of_cell hv
    refine ⟨?_, by rw [cell?_of_heap (hold b hlt)]; exact hv⟩
    rintro (hx | ho)
    · exact hO (.inl hx)
    · rcases hown b ho with ho | rfl
      · exact hO (.inr ho)
      · omega
  have hfree : Free w' w.heap.size := ⟨c, T, z, hnew, fun off ho => by
    have := hz off ho
    simp only [World.frozen?, hnew]
    simp only [Bool.and_eq_false_iff, decide_eq_false_iff_not]
    omega⟩
  have hg0 : (γ.put h.length 0 (w.heap.size, 0)) h.length 0 = some (w.heap.size, 0) := by simp [Ghost.put]
  refine ⟨⟨?_, ?_, ?_, ?_, ?_, ?_, ?_⟩, hext, ?_, ?_⟩
  · intro id g p e
    unfold Ghost.put at e
    split at e
    · rename_i hc; obtain ⟨rfl, _⟩ := hc; simp
    · have := r.dom id g p e; simp; omega
  · intro id k es g g' p e e2
    unfold Ghost.put at e2
    split at e2
    · rename_i hc; obtain ⟨_, rfl⟩ := hc; exact Nat.zero_le _
    · have hl := r.dom id g' p e2
      rw [hget_append_lt hl] at e
      exact r.gens id k es g g' p e e2
  · intro id
    by_cases hl : id < h.length
    · rw [hget_append_lt hl]
      exact (r.obj id).keep hsees fun g b p e1 e2 => hold b (r.own_lt ⟨id, g, p, e2, e1⟩)
    · by_cases he : id = h.length
      · subst he
        rw [hget_append_eq]
        cases o with
        | dead => trivial
        | vars cs =>
          exact ⟨w.heap.size, 0, hg0, hfree, fun j x hj => by
            obtain ⟨k1, v, k2, k3⟩ := hn j x hj
            exact ⟨k1, v, by rw [cell_iff hnew, Nat.zero_add]; exact k2, k3.mono hsees⟩⟩
        | arr k es g =>
          obtain ⟨rfl, hk, hc⟩ := hn
          exact ⟨w.heap.size, 0, hg0, hfree, hk, fun i j e x he hj => by
            obtain ⟨k1, v, k2, k3⟩ := hc i j e x he hj
            exact ⟨k1, v, by rw [cell_iff hnew, Nat.zero_add]; exact k2, k3.mono hsees⟩⟩
        | frz _ _ _ => cases hn
        | map _ _ => cases hn
        | iter _ _ _ _ => cases hn
      · rw [hget_append_gt (by omega)]; trivial
  · intro id id' g g' b p p' e1 e2 e3 e4
    have aux : ∀ id g p, ogen (hget (h ++ [o]) id) = some g → (γ.put h.length 0 (w.heap.size, 0)) id g = some (b, p) → (id < h.length ∧ ogen (hget h id) = some g ∧ γ id g = some (b, p)) ∨ (id = h.length ∧ b = w.heap.size) := by
      intro id g p e1 e2
      by_cases hl : id < h.length
      · rw [hget_append_lt hl] at e1
        unfold Ghost.put at e2
        rw [if_neg (fun e => by omega)] at e2
        exact .inl ⟨hl, e1, e2⟩
      · by_cases he : id = h.length
        · subst he
          rw [hget_append_eq, hn.gen] at e1; cases e1
          unfold Ghost.put at e2
          rw [if_pos ⟨rfl, rfl⟩] at e2
          cases e2; exact .inr ⟨rfl, rfl⟩
        · rw [hget_append_gt (by omega)] at e1; cases e1
    rcases aux id g p e1 e2 with ⟨l1, a1, a2⟩ | ⟨rfl, hb⟩ <;> rcases aux id' g' p' e3 e4 with ⟨l2, b1, b2⟩ | ⟨rfl, hb'⟩
    · exact r.inj _ _ _ _ _ _ _ a1 a2 b1 b2
    · have := r.own_lt ⟨id, g, p, a1, a2⟩; omega
    · have := r.own_lt ⟨id', g', p', b1, b2⟩; omega
    · rfl
  · intro b ho hx
    rcases hown b ho with ho | rfl
    · exact r.apart b ho hx
    · exact absurd (r.xin _ hx) (Nat.lt_irrefl _)
  · intro b hx
    exact Nat.lt_of_lt_of_le (r.xin b hx) hstep.size
  · intro id g p e
    unfold Ghost.put at e
    split at e
    · rename_i hc; obtain ⟨rfl, _⟩ := hc
      rw [hget_append_eq]
      intro hd; rw [hd] at hgn0; cases hgn0
    · have hl := r.dom id g p e
      rw [hget_append_lt hl]; exact r.dd id g p e
  · exact ⟨h1, h2, h3, hstep.size, fun b hb _ => hold b hb, hstep.row⟩
  · intro b hb ho
    rcases hown b ho with ho | rfl
    · exact ho
    · omega
theorem new_goes (r : R X h γ w) {w' : World} {ob : Obj} {o : AObj} (hw : w'.heap = w.heap.push ob)
    (h1 : w'.os = w.os) (h2 : w'.tape = w.tape) (h3 : w'.output = w.output) (hgn : ogen o = some 0) (hok : w'.heap[w.heap.size]? = some ob → (γ.put h.length 0 (w.heap.size, 0)) h.length 0 = some (w.heap.size, 0) → Sees w (Ow X h γ) γ w' (Ow X (h ++ [o]) (γ.put h.length 0 (w.heap.size, 0))) (γ.put h.length 0 (w.heap.size, 0)) → OkObj w' (Ow X (h ++ [o]) (γ.put h.length 0 (w.heap.size, 0))) (γ.put h.length 0 (w.heap.size, 0)) h.length o) :
    Goes X h γ w (h ++ [o]) (γ.put h.length 0 (w.heap.size, 0)) w' := by
  have hnone : ∀ j, γ h.length j = none := fun j => by
    cases e : γ h.length j with
    | none => rfl
    | some p => exact absurd (r.dom _ _ _ e) (Nat.lt_irrefl _)
  have hext : ∀ id g p, γ id g = some p → (γ.put h.length 0 (w.heap.size, 0)) id g = some p := by
    intro id g p e
    unfold Ghost.put
    rw [if_neg]
    · exact e
    · rintro ⟨rfl, rfl⟩; rw [hnone] at e; cases e
  have hold : ∀ b, b < w.heap.size → w'.heap[b]? = w.heap[b]? := fun b hb => by rw [hw, Array.getElem?_push, if_neg (by omega)]
  have hnew : w'.heap[w.heap.size]? = some ob := by rw [hw]; simp
  have hown : ∀ b, Own (h ++ [o]) (γ.put h.length 0 (w.heap.size, 0)) b → Own h γ b ∨ b = w.heap.size := by
    rintro b ⟨id, g, p, e1, e2⟩
    by_cases hl : id < h.length
    · rw [hget_append_lt hl] at e1
      unfold Ghost.put at e2
      rw [if_neg (fun e => by omega)] at e2
      exact .inl ⟨id, g, p, e1, e2⟩
    · by_cases he : id = h.length
      · subst he
        rw [hget_append_eq, hgn] at e1; cases e1
        unfold Ghost.put at e2
        rw [if_pos ⟨rfl, rfl⟩] at e2
        cases e2; exact .inr rfl
      · rw [hget_append_gt (by omega)] at e1; cases e1
  have hstep : Step w w' (fun _ => False) := ⟨h1, h2, h3, by rw [hw]; simp, fun b hb _ => hold b hb, fun b c' T' z' hh => ⟨c', z', by rw [hold b (Array.getElem?_eq_some_iff.1 hh).1]; exact hh, rfl⟩⟩
  have hsees : Sees w (Ow X h γ) γ w' (Ow X (h ++ [o]) (γ.put h.length 0 (w.heap.size, 0))) (γ.put h.length 0 (w.heap.size, 0)) := by
    refine ⟨hext, fun b off v hO hv => ?_, hstep.row⟩
    have hlt := lt_of_cell hv
    refine ⟨?_, by rw [cell?_of_heap (hold b hlt)]; exact hv⟩
    rintro (hx | ho)
    · exact hO (.inl hx)
    · rcases hown b ho with ho | rfl
      · exact hO (.inr ho)
      · omega
  have hg0 : (γ.put h.length 0 (w.heap.size, 0)) h.length 0 = some (w.heap.size, 0) := by simp [Ghost.put]
  refine ⟨⟨?_, ?_, ?_, ?_, ?_, ?_, ?_⟩, hext, ?_, ?_⟩
  · intro id g p e
    unfold Ghost.put at e
    split at e
    · rename_i hc; obtain ⟨rfl, _⟩ := hc; simp
    · have := r.dom id g p e; simp; omega
  · intro id k es g g' p e e2
    unfold Ghost.put at e2
    split at e2
    · rename_i hc; obtain ⟨_, rfl⟩ := hc; exact Nat.zero_le _
    · have hl := r.dom id g' p e2
      rw [hget_append_lt hl] at e
      exact r.gens id k es g g' p e e2
  · intro id
    by_cases hl : id < h.length
    · rw [hget_append_lt hl]
      exact (r.obj id).keep hsees fun g b p e1 e2 => hold b (r.own_lt ⟨id, g, p, e2, e1⟩)
    · by_cases he : id = h.length
      · subst he
        rw [hget_append_eq]
        exact hok hnew hg0 hsees
      · rw [hget_append_gt (by omega)]; trivial
  · intro id id' g g' b p p' e1 e2 e3 e4
    have aux : ∀ id g p, ogen (hget (h ++ [o]) id) = some g → (γ.put h.length 0 (w.heap.size, 0)) id g = some (b, p) → (id < h.length ∧ ogen (hget h id) = some g ∧ γ id g = some (b, p)) ∨ (id = h.length ∧ b = w.heap.size) := by
      intro id g p e1 e2
      by_cases hl : id < h.length
      · rw [hget_append_lt hl] at e1
        unfold Ghost.put at e2
        rw [if_neg (fun e => by omega)] at e2
        exact .inl ⟨hl, e1, e2⟩
      · by_cases he : id = h.length
        · subst he
          rw [hget_append_eq, hgn] at e1; cases e1
          unfold Ghost.put at e2
          rw [if_pos ⟨rfl, rfl⟩] at e2
          cases e2; exact .inr ⟨rfl, rfl⟩
        · rw [hget_append_gt (by omega)] at e1; cases e1
    rcases aux id g p e1 e2 with ⟨l1, a1, a2⟩ | ⟨rfl, hb⟩ <;> rcases aux id' g' p' e3 e4 with ⟨l2, b1, b2⟩ | ⟨rfl, hb'⟩
    · exact r.inj _ _ _ _ _ _ _ a1 a2 b1 b2
    · have := r.own_lt ⟨id, g, p, a1, a2⟩; omega
    · have := r.own_lt ⟨id', g', p', b1, b2⟩; omega
    · rfl
  · intro b ho hx
    rcases hown b ho with ho | rfl
    · exact r.apart b ho hx
    · exact absurd (r.xin _ hx) (Nat.lt_irrefl _)
  · intro b hx
    exact Nat.lt_of_lt_of_le (r.xin b hx) hstep.size
  · intro id g p e
    unfold Ghost.put at e
    split at e
    · rename_i hc; obtain ⟨rfl, _⟩ := hc
      rw [hget_append_eq]
      intro hd; rw [hd] at hgn; cases hgn
    · have hl := r.dom id g p e
      rw [hget_append_lt hl]; exact r.dd id g p e
  · exact ⟨h1, h2, h3, hstep.size, fun b hb _ => hold b hb, hstep.row⟩
  · intro b hb ho
    rcases hown b ho with ho | rfl
    · exact ho
    · omega
theorem hget_set_ne {h : AHeap} {id id' : Nat} {o : AObj} (hne : id ≠ id') : hget (h.set id o) id' = hget h id' := by
  simp [hget, List.getD, List.getElem?_set_ne hne]
theorem hget_set_eq {h : AHeap} {id : Nat} {o : AObj} (hl : id < h.length) : hget (h.set id o) id = o := by
  simp [hget, List.getD, hl]
theorem revive_goes (r : R X h γ w) {k : Nat} (hdead : hget h k = .dead) (hk : k < h.length) {w' : World} {ob : Obj} {o : AObj} (hw : w'.heap = w.heap.push ob)
    (h1 : w'.os = w.os) (h2 : w'.tape = w.tape) (h3 : w'.output = w.output) (hgn : ogen o = some 0) (hok : w'.heap[w.heap.size]? = some ob → (γ.put k 0 (w.heap.size, 0)) k 0 = some (w.heap.size, 0) → Sees w (Ow X h γ) γ w' (Ow X (h.set k o) (γ.put k 0 (w.heap.size, 0))) (γ.put k 0 (w.heap.size, 0)) → OkObj w' (Ow X (h.set k o) (γ.put k 0 (w.heap.size, 0))) (γ.put k 0 (w.heap.size, 0)) k o) :
    Goes X h γ w (h.set k o) (γ.put k 0 (w.heap.size, 0)) w' := by
  have hnone : ∀ j, γ k j = none := fun j => by
    cases e : γ k j with
    | none => rfl
    | some p => exact absurd hdead (r.dd _ _ _ e)
  have hext : ∀ id g p, γ id g = some p → (γ.put k 0 (w.heap.size, 0)) id g = some p := by
    intro id g p e
    unfold Ghost.put
    rw [if_neg]
    · exact e
    · rintro ⟨rfl, rfl⟩; rw [hnone] at e; cases e
  have hold : ∀ b, b < w.heap.size → w'.heap[b]? = w.heap[b]? := fun b hb => by rw [hw, Array.getElem?_push, if_neg (by omega)]
  have hnew : w'.heap[w.heap.size]? = some ob := by rw [hw]; simp
  have hown : ∀ b, Own (h.set k o) (γ.put k 0 (w.heap.size, 0)) b → Own h γ b ∨ b = w.heap.size := by
    rintro b ⟨id, g, p, e1, e2⟩
    by_cases he : k = id
    · subst he
      rw [hget_set_eq hk, hgn] at e1; cases e1
      unfold Ghost.put at e2
      rw [if_pos ⟨rfl, rfl⟩] at e2
      cases e2; exact .inr rfl
    · rw [hget_set_ne he] at e1
      unfold Ghost.put at e2
      rw [if_neg (fun e => he e.1.symm)] at e2
      exact .inl ⟨id, g, p, e1, e2⟩
  have hstep : Step w w' (fun _ => False) := ⟨h1, h2, h3, by rw [hw]; simp, fun b hb _ => hold b hb, fun b c' T' z' hh => ⟨c', z', by rw [hold b (Array.getElem?_eq_some_iff.1 hh).1]; exact hh, rfl⟩⟩
  have hsees : Sees w (Ow X h γ) γ w' (Ow X (h.set k o) (γ.put k 0 (w.heap.size, 0))) (γ.put k 0 (w.heap.size, 0)) := by
    refine ⟨hext, fun b off v hO hv => ?_, hstep.row⟩
    have hlt := lt_of_cell hv
    refine ⟨?_, by rw [cell?_of_heap (hold b hlt)]; exact hv⟩
    rintro (hx | ho)
    · exact hO (.inl hx)
    · rcases hown b ho with ho | rfl
      · exact hO (.inr ho)
      · omega
  have hg0 : (γ.put k 0 (w.heap.size, 0)) k 0 = some (w.heap.size, 0) := by simp [Ghost.put]
  refine ⟨⟨?_, ?_, ?_, ?_, ?_, ?_, ?_⟩, hext, ?_, ?_⟩
  · intro id g p e
    unfold Ghost.put at e
    split at e
    · rename_i hc; obtain ⟨rfl, _⟩ := hc; simpa using hk
    · have := r.dom id g p e; simpa using this
  · intro id kk es g g' p e e2
    by_cases he : k = id
    · subst he
      rw [hget_set_eq hk] at e
      unfold Ghost.put at e2
      split at e2
      · rename_i hc; obtain ⟨_, rfl⟩ := hc; exact Nat.zero_le _
      · rw [hnone] at e2; cases e2
    · rw [hget_set_ne he] at e
      unfold Ghost.put at e2
      rw [if_neg (fun e => he e.1.symm)] at e2
      exact r.gens id kk es g g' p e e2
  · intro id
    by_cases he : k = id
    · subst he
      rw [hget_set_eq hk]
      exact hok hnew hg0 hsees
    · rw [hget_set_ne he]
      exact (r.obj id).keep hsees fun g b p e1 e2 => hold b (r.own_lt ⟨id, g, p, e2, e1⟩)
  · intro id id' g g' b p p' e1 e2 e3 e4
    have aux : ∀ id g p, ogen (hget (h.set k o) id) = some g → (γ.put k 0 (w.heap.size, 0)) id g = some (b, p) → (ogen (hget h id) = some g ∧ γ id g = some (b, p)) ∨ (id = k ∧ b = w.heap.size) := by
      intro id g p e1 e2
      by_cases he : k = id
      · subst he
        rw [hget_set_eq hk, hgn] at e1; cases e1
        unfold Ghost.put at e2
        rw [if_pos ⟨rfl, rfl⟩] at e2
        cases e2; exact .inr ⟨rfl, rfl⟩
      · rw [hget_set_ne he] at e1
        unfold Ghost.put at e2
        rw [if_neg (fun e => he e.1.symm)] at e2
        exact .inl ⟨e1, e2⟩
    rcases aux id g p e1 e2 with ⟨a1, a2⟩ | ⟨rfl, hb⟩ <;> rcases aux id' g' p' e3 e4 with ⟨b1, b2⟩ | ⟨rfl, hb'⟩
    · exact r.inj _ _ _ _ _ _ _ a1 a2 b1 b2
    · have := r.own_lt ⟨id, g, p, a1, a2⟩; omega
    · have := r.own_lt ⟨id', g', p', b1, b2⟩; omega
    · rfl
  · intro b ho hx
    rcases hown b ho with ho | rfl
    · exact r.apart b ho hx
    · exact absurd (r.xin _ hx) (Nat.lt_irrefl _)
  · intro b hx
    exact Nat.lt_of_lt_of_le (r.xin b hx) hstep.size
  · intro id g p e
    by_cases he : k = id
    · subst he
      rw [hget_set_eq hk]
      intro hd; rw [hd] at hgn; cases hgn
    · rw [hget_set_ne he]
      unfold Ghost.put at e
      rw [if_neg (fun e => he e.1.symm)] at e
      exact r.dd id g p e
  · exact ⟨h1, h2, h3, hstep.size, fun b hb _ => hold b hb, hstep.row⟩
  · intro b hb ho
    rcases hown b ho with ho | rfl
    · exact ho
    · omega
theorem change_goes (r : R X h γ w) {id g b p : Nat} (hg : ogen (hget h id) = some g) (hγ : γ id g = some (b, p)) {o' : AObj} {γ' : Ghost} {w' : World}
    (hext : ∀ i j q, γ i j = some q → γ' i j = some q) (hback : ∀ i j q, γ' i j = some q → γ i j = some q ∨ (i = id ∧ ogen o' = some j))
    (hstep : Step w w' (fun x => x = b)) (hown : ∀ g' b' p', ogen o' = some g' → γ' id g' = some (b', p') → b' = b ∨ w.heap.size ≤ b')
    (hgens : ∀ k es g', o' = .arr k es g' → ∀ j q, γ' id j = some q → j ≤ g')
    (hok : Sees w (Ow X h γ) γ w' (Ow X (h.set id o') γ') γ' → OkObj w' (Ow X (h.set id o') γ') γ' id o') (hnd : o' ≠ .dead := by simp) : Goes X h γ w (h.set id o') γ' w' := by
  have hl : id < h.length := ogen_lt hg
  have hOb : Own h γ b := ⟨id, g, p, hg, hγ⟩
  have aux : ∀ i j x q, ogen (hget (h.set id o') i) = some j → γ' i j = some (x, q) → (i ≠ id ∧ ogen (hget h i) = some j ∧ γ i j = some (x, q)) ∨ (i = id ∧ (x = b ∨ w.heap.size ≤ x)) := by
    intro i j x q e1 e2
    by_cases hi : i = id
    · subst hi
      rw [hget_set_eq hl] at e1
      exact .inr ⟨rfl, hown _ _ _ e1 e2⟩
    · rw [hget_set_ne (fun e => hi e.symm)] at e1
      rcases hback _ _ _ e2 with e | ⟨e, _⟩
      · exact .inl ⟨hi, e1, e⟩
      · exact absurd e hi
  have hfresh : ∀ x, x < w.heap.size → Own (h.set id o') γ' x → Own h γ x := by
    rintro x hx ⟨i, j, q, e1, e2⟩
    rcases aux i j x q e1 e2 with ⟨_, a1, a2⟩ | ⟨rfl, rfl | hge⟩
    · exact ⟨i, j, q, a1, a2⟩
    · exact hOb
    · omega
  have hsees : Sees w (Ow X h γ) γ w' (Ow X (h.set id o') γ') γ' := by
    refine ⟨hext, fun x off v hO hv => ?_, hstep.row⟩
    have hlt := lt_of_cell hv
    have hne : x ≠ b := fun e => hO (.inr (e ▸ hOb))
    refine ⟨?_, by rw [cell?_of_heap (hstep.keep x hlt hne)]; exact hv⟩
    rintro (hx | ho)
    · exact hO (.inl hx)
    · exact hO (.inr (hfresh x hlt ho))
  refine ⟨⟨?_, ?_, ?_, ?_, ?_, ?_, ?_⟩, hext, ?_, hfresh⟩
  · intro i j q e
    rcases hback _ _ _ e with e | ⟨rfl, _⟩
    · simpa using r.dom _ _ _ e
    · simpa using hl
  · intro i k es g1 j q e1 e2
    by_cases hi : i = id
    · subst hi
      rw [hget_set_eq hl] at e1
      exact hgens k es g1 e1 j q e2
    · rw [hget_set_ne (fun e => hi e.symm)] at e1
      rcases hback _ _ _ e2 with e | ⟨e, _⟩
      · exact r.gens _ _ _ _ _ _ e1 e
      · exact absurd e hi
  · intro i
    by_cases hi : i = id
    · subst hi; rw [hget_set_eq hl]; exact hok hsees
    · rw [hget_set_ne (fun e => hi e.symm)]
      refine (r.obj i).keep hsees fun j x q e1 e2 => hstep.keep x (r.own_lt ⟨i, j, q, e2, e1⟩) fun e => ?_
      subst e
      exact hi (r.inj _ _ _ _ _ _ _ e2 e1 hg hγ)
  · intro i i' j j' x q q' e1 e2 e3 e4
    rcases aux i j x q e1 e2 with ⟨n1, a1, a2⟩ | ⟨rfl, hx⟩ <;> rcases aux i' j' x q' e3 e4 with ⟨n2, b1, b2⟩ | ⟨rfl, hx'⟩
    · exact r.inj _ _ _ _ _ _ _ a1 a2 b1 b2
    · rcases hx' with rfl | hx'
      · exact absurd (r.inj _ _ _ _ _ _ _ a1 a2 hg hγ) n1
      · have := r.own_lt ⟨i, j, q, a1, a2⟩; omega
    · rcases hx with rfl | hx
      · exact absurd (r.inj _ _ _ _ _ _ _ b1 b2 hg hγ) n2
      · have := r.own_lt ⟨i', j', q', b1, b2⟩; omega
    · rfl
  · rintro x ⟨i, j, q, e1, e2⟩ hx
    rcases aux i j x q e1 e2 with ⟨_, a1, a2⟩ | ⟨rfl, rfl | hge⟩
    · exact r.apart x ⟨i, j, q, a1, a2⟩ hx
    · exact r.apart _ hOb hx
    · have := r.xin x hx; omega
  · intro x hx; exact Nat.lt_of_lt_of_le (r.xin x hx) hstep.size
  · intro i j q e
    by_cases hi : i = id
    · subst hi; rw [hget_set_eq hl]; exact hnd
    · rw [hget_set_ne (fun e => hi e.symm)]
      rcases hback _ _ _ e with e | ⟨e, _⟩
      · exact r.dd _ _ _ e
      · exact absurd e hi
  · exact ⟨hstep.os, hstep.tape, hstep.output, hstep.size, fun x hx hn => hstep.keep x hx fun e => hn (e ▸ hOb), hstep.row⟩
end
section
variable {P : Program} {X O : Nat → Prop} {h : AHeap} {γ : Ghost} {w : World}

/-! ### Inversions -/
theorem V.val_inv {v u : Value} (k : V w O γ (.val v) u) : u = v := by cases k; rfl
theorem V.ofCell (v : Value) : V w O γ (ofCell v) v := by
  unfold Ab.ofCell
  split
  · exact .slc0 true none
  · exact .val _
theorem VA.oval {env : Env} {a : Act} (he : VA w O γ env a.tmps) (x : Operand) : V w O γ (oval env x) (a.eval x) := by
  cases x with
  | tmp t => exact he.get t
  | const v => exact V.ofCell v
  | global g => exact .val _
  | func f => exact .clo f [] [] #[] #[] rfl rfl (fun i c v hc => by simp at hc) (fun i c v hc => by simp at hc)
theorem asInt_inv {a : AV} {n : Int} (e : asInt a = some n) : ∃ k, a = .val (.int k n) := by
  unfold asInt at e
  split at e
  · rename_i k m; cases e; exact ⟨k, rfl⟩
  · cases e
theorem run_asIntOf (k : IntKind) (n : Int) (w : World) : (Go.asIntOf (.int k n)).run P w = .ok (k, n) w := rfl
theorem run_asInt (k : IntKind) (n : Int) (w : World) : (Go.asInt (.int k n)).run P w = .ok n w := rfl
theorem run_sizeOf' {t : TypeId} {i : TypeInfo} (e : P.info? t = some i) (w : World) : (sizeOf t).run P w = .ok (tsize P t) w := by
  simp [sizeOf, typeInfo, e, tsize]
theorem run_sizeOf_pos {t : TypeId} (e : 0 < tsize P t) (w : World) : (sizeOf t).run P w = .ok (tsize P t) w := by
  cases hi : P.info? t with
  | none => simp [tsize, hi] at e
  | some i => exact run_sizeOf' hi w
theorem info_of_underlying {t : TypeId} {d : TypeDesc} (e : P.underlying t = some d) : ∃ i, P.info? t = some i := by
  cases hi : P.info? t with
  | none => simp [Program.underlying, hi] at e
  | some i => exact ⟨i, rfl⟩
theorem run_isAgg {t : TypeId} {g : Bool} (e : tagg P t = some g) (w : World) : (isAgg t).run P w = .ok g w := by
  unfold tagg at e
  cases hu : P.underlying t with
  | none => rw [hu] at e; cases e
  | some d =>
    rw [hu] at e
    cases e
    simp only [isAgg, Sem.run_bind, run_underlying hu, Result.andThen_ok]
    cases d <;> rfl
theorem tagg_info {t : TypeId} {g : Bool} (e : tagg P t = some g) : ∃ i, P.info? t = some i := by
  unfold tagg at e
  cases hu : P.underlying t with
  | none => rw [hu] at e; cases e
  | some d => exact info_of_underlying hu

/-! ### Reading -/
def CellsAt (w : World) (O : Nat → Prop) (γ : Ghost) (b o : Nat) (cs : List AV) : Prop :=
  ∀ (j : Nat) (c : AV), cs[j]? = some c → isCell c = true ∧ ∃ v, w.cell? ⟨b, o + j, none⟩ = some v ∧ V w O γ c v
theorem cut_sound {t : TypeId} {cs : List AV} {b o off : Nat} {x : AV} (hc : CellsAt w O γ b o cs) (e : cut (tagg P t) (tsize P t) cs off = some x) :
    ∃ u, (loadVar t ⟨b, o + off, none⟩).run P w = .ok u w ∧ V w O γ x u := by
  unfold cut at e
  split at e
  · rename_i hg
    split at e
    · rename_i hl
      cases e
      obtain ⟨i, hi⟩ := tagg_info hg
      have key : ∀ j, j < tsize P t → ∃ v, w.cell? ⟨b, o + off + j, none⟩ = some v ∧ ∃ hj : off + j < cs.length, isCell cs[off + j] = true ∧ V w O γ cs[off + j] v := by
        intro j hj
        have hlt : off + j < cs.length := by omega
        obtain ⟨k1, v, k2, k3⟩ := hc (off + j) cs[off + j] (by simp [hlt])
        exact ⟨v, by rw [Nat.add_assoc]; exact k2, hlt, k1, k3⟩
      let f : Nat → Value := fun j => (w.cell? ⟨b, o + off + j, none⟩).getD undef
      have hf : ∀ j, j < tsize P t → w.cell? ⟨b, o + off + j, none⟩ = some (f j) := by
        intro j hj
        obtain ⟨v, h1, _⟩ := key j hj
        simp [f, h1]
      refine ⟨.agg ((List.range (tsize P t)).map f).toArray, ?_, ?_⟩
      · simp only [loadVar, Sem.run_bind, run_isAgg hg, Result.andThen_ok, if_true, run_sizeOf' hi, run_loadCells' P w b (o + off) _ f hf, Sem.run_pure]
      · refine .agg _ _ (by simp; omega) (fun i c hi => ?_) (fun i c v hi hv => ?_)
        · have hlt : i < tsize P t := by
            have := (List.getElem?_eq_some_iff.1 hi).1; simp at this; omega
          obtain ⟨v, h1, h2, h3, h4⟩ := key i hlt
          simp [hlt, h2] at hi
          subst hi; exact h3
        · have hlt : i < tsize P t := by
            have := (List.getElem?_eq_some_iff.1 hi).1; simp at this; omega
          obtain ⟨u, h1, h2, h3, h4⟩ := key i hlt
          simp [hlt, h2] at hi
          simp [hlt, f, h1] at hv
          subst hi; subst hv; exact h4
    · cases e
  · rename_i hg
    obtain ⟨k1, v, k2, k3⟩ := hc off x e
    refine ⟨v, ?_, k3⟩
    simp only [loadVar, Sem.run_bind, run_isAgg hg, Result.andThen_ok, Bool.false_eq_true, if_false, run_load, k2]
  · cases e
theorem R.vars (r : R X h γ w) {id b o : Nat} {cs : List AV} (e : hget h id = .vars cs) (hg : γ id 0 = some (b, o)) : Free w b ∧ CellsAt w (Ow X h γ) γ b o cs := by
  have := r.obj id
  rw [e] at this
  obtain ⟨b', o', h1, h2, h3⟩ := this
  rw [hg] at h1; cases h1
  exact ⟨h2, h3⟩
theorem R.arr (r : R X h γ w) {id g k b o : Nat} {es : List AV} (e : hget h id = .arr k es g) (hg : γ id g = some (b, o)) : Free w b ∧ RowIs w (Ow X h γ) γ b o k es := by
  have := r.obj id
  rw [e] at this
  obtain ⟨b', o', h1, h2, h3⟩ := this
  rw [hg] at h1; cases h1
  exact ⟨h2, h3⟩
theorem R.frz (r : R X h γ w) {id g k b o : Nat} {es : List AV} (e : hget h id = .frz k es g) (hg : γ id g = some (b, o)) :
    RowIs w (Ow X h γ) γ b o k es ∧ ∀ (i j : Nat) (e c : AV), es[i]? = some e → e.cells[j]? = some c → ¬ Ow X h γ b := by
  have := r.obj id
  rw [e] at this
  obtain ⟨b', o', h1, h2, h3⟩ := this
  rw [hg] at h1; cases h1
  exact ⟨h2, h3⟩
theorem RowIs.at {b o k : Nat} {es : List AV} (hr : RowIs w O γ b o k es) {i : Nat} {e : AV} (he : es[i]? = some e) : CellsAt w O γ b (o + i * k) e.cells :=
  fun j c hj => hr.2 i j e c he hj
theorem aload_sound (r : R X h γ w) {t : TypeId} {a v : AV} {u : Value} (ha : V w (Ow X h γ) γ a u) (e : aload P t h a = some v) :
    ∃ x, (Instr.loadAt t u).run P w = .ok x w ∧ V w (Ow X h γ) γ v x := by
  have fin : ∀ {b o : Nat}, (∃ x, (loadVar t ⟨b, o, none⟩).run P w = .ok x w ∧ V w (Ow X h γ) γ v x) → ∃ x, (Instr.loadAt t (.pointer (some ⟨b, o, none⟩))).run P w = .ok x w ∧ V w (Ow X h γ) γ v x := by
    rintro b o ⟨x, h1, h2⟩
    exact ⟨x, by simpa [Instr.loadAt, Instr.sureAddr] using h1, h2⟩
  cases ha with
  | ptr id off b o hg =>
    simp only [aload] at e
    split at e
    · rename_i cs hid
      exact fin (cut_sound (r.vars hid hg).2 e)
    · cases e
  | eptr id g k idx off b o hg =>
    simp only [aload] at e
    split at e
    · rename_i k' es g' hid
      split at e
      · rename_i hc; obtain ⟨rfl, rfl⟩ := hc
        split at e
        · rename_i el hel; exact fin (cut_sound ((r.arr hid hg).2.at hel) e)
        · cases e
      · cases e
    · rename_i k' es g' hid
      split at e
      · rename_i hc; obtain ⟨rfl, rfl⟩ := hc
        split at e
        · rename_i el hel; exact fin (cut_sound ((r.frz hid hg).1.at hel) e)
        · cases e
      · cases e
    · rename_i cs hid
      split at e
      · rename_i hc; obtain ⟨rfl, rfl, rfl, hag⟩ := hc
        have := cut_sound (P := P) (t := t) (off := idx) (x := v) (r.vars hid hg).2 (by rw [hag]; exact e)
        rw [Nat.mul_one, Nat.add_zero]
        exact fin this
      · cases e
    · cases e
  | sptr cs off b o vals hc hv =>
    simp only [aload] at e
    exact fin (cut_sound (O := Ow X h γ) (fun j c hj => ⟨(hc j c hj).1, vals j, (hc j c hj).2.2, hv j c hj⟩) e)
  | _ => simp [aload] at e

theorem telem_iff {t : TypeId} {el : TypeId} (e : telem P t = some el) : P.underlying t = some (.slice el) := by
  unfold telem at e; split at e
  · rename_i hx; cases e; exact hx
  · cases e
theorem tslice_iff {t : TypeId} {k b : Nat} {z : AV} (e : tslice P t = some (k, b, z)) : ∃ el, P.underlying t = some (.slice el) ∧ k = tsize P el ∧ 0 < tsize P el := by
  unfold tslice at e
  split at e
  · rename_i el hel
    split at e
    · split at e
      · rename_i hc; cases e; exact ⟨el, telem_iff hel, rfl, hc.1⟩
      · cases e
    · cases e
  · cases e
/-! ### Addresses -/
theorem aindexAddr_sound {t : TypeId} {a i v : AV} {u ui : Value} (ha : V w O γ a u) (hi : V w O γ i ui) (e : aindexAddr P t a i = some v) :
    ∃ x, (Instr.indexAt t u ui).run P w = .ok x w ∧ V w O γ v x := by
  unfold aindexAddr at e
  split at e
  · cases e
  · rename_i n hn
    obtain ⟨k, rfl⟩ := asInt_inv hn
    cases hi.val_inv
    split at e
    · rename_i len el heq
      have hu : P.underlying t = some (.array len el) := by
        unfold tarr at heq; split at heq
        · rename_i hx; cases heq; exact hx
        · cases heq
      split at e
      · rename_i hc; obtain ⟨h0, h1, h2⟩ := hc
        have fin : ∀ {b o : Nat}, (Instr.indexAt t (.pointer (some ⟨b, o, none⟩)) (.int k n)).run P w = .ok (.pointer (some ⟨b, o + n.toNat * tsize P el, none⟩)) w := by
          intro b o
          simp only [Instr.indexAt, Sem.run_bind, run_asIntOf, Result.andThen_ok, run_underlying hu, Instr.sureAddr, Sem.run_pure]
          rw [if_pos ⟨h0, h1⟩]
          simp only [Sem.run_bind, run_sizeOf_pos h2, Result.andThen_ok, Sem.run_pure, addr_add]
        cases ha with
        | ptr id off b o hg => cases e; exact ⟨_, fin, by rw [Nat.add_assoc]; exact .ptr _ _ _ _ hg⟩
        | eptr id g kk idx off b o hg => cases e; exact ⟨_, fin, by rw [Nat.add_assoc]; exact .eptr _ _ _ _ _ _ _ hg⟩
        | sptr cs off b o vals hc hv => cases e; exact ⟨_, fin, by rw [Nat.add_assoc]; exact .sptr _ _ _ _ vals hc hv⟩
        | _ => cases e
      · cases e
    · rename_i ks by_ z_ hnone heq
      obtain ⟨el, hu, hks, hs⟩ := tslice_iff heq
      subst hks
      cases ha with
      | slc0 full a0 =>
        dsimp only at e
        split at e
        · simp at e
        · cases e
      | slc full es b o cap kk vals hcap hfull hk hc hv =>
        dsimp only at e
        split at e
        · rename_i h0
          split at e
          · rename_i el' hel
            split at e
            · rename_i hlen
              cases e
              have hlt : n.toNat < es.length := (List.getElem?_eq_some_iff.1 hel).1
              have hn' : n < (es.length : Int) := by omega
              have hkk : kk = tsize P el := by rw [← (hk _ _ hel).2]; exact hlen
              refine ⟨.pointer (some ⟨b, o + n.toNat * tsize P el + 0, none⟩), ?_, .sptr el'.cells 0 b (o + n.toNat * tsize P el) (vals n.toNat) (fun j c hj => by rw [← hkk]; exact hc _ _ _ _ hel hj) (fun j c hj => hv _ _ _ _ hel hj)⟩
              simp only [Instr.indexAt, Sem.run_bind, run_asIntOf, Result.andThen_ok, run_underlying hu, Sem.run_pure]
              rw [if_pos ⟨h0, hn'⟩]
              simp only [Sem.run_bind, run_sizeOf_pos hs, Result.andThen_ok, Sem.run_pure, addr_add, Nat.add_zero]
            · cases e
          · cases e
        · cases e
      | arr id off len g kk b o cap o' hg hcap ho hrow =>
        dsimp only at e
        split at e
        · rename_i hp; obtain ⟨h0, h1, rfl⟩ := hp
          cases e
          obtain rfl : o' = o + off * tsize P el := by rcases ho with h | h <;> omega
          refine ⟨_, ?_, .eptr id g _ _ _ b o hg⟩
          simp only [Instr.indexAt, Sem.run_bind, run_asIntOf, Result.andThen_ok, run_underlying hu, Sem.run_pure]
          rw [if_pos ⟨h0, h1⟩]
          simp only [Sem.run_bind, run_sizeOf_pos hs, Result.andThen_ok, Sem.run_pure, addr_add, Nat.add_zero, Nat.add_mul, Nat.add_assoc]
        · cases e
      | _ => simp at e
    · cases e
theorem afieldAddr_sound {s : TypeId} {f : Nat} {a v : AV} {u : Value} (ha : V w O γ a u) (e : afieldAddr P s a f = some v) :
    ∃ x, (Instr.fieldAt s u f).run P w = .ok x w ∧ V w O γ v x := by
  unfold afieldAddr at e
  split at e
  · rename_i fo sz g heq
    unfold tfield at heq
    split at heq
    · rename_i fs hu
      split at heq
      · rename_i fd hf
        split at heq
        · rename_i g' hg
          split at heq
          · rename_i hpos
            cases heq
            have fin : ∀ {b o : Nat}, (Instr.fieldAt s (.pointer (some ⟨b, o, none⟩)) f).run P w = .ok (.pointer (some ⟨b, o + fd.offset, none⟩)) w := by
              intro b o
              simp only [Instr.fieldAt, Sem.run_bind, run_underlying hu, Result.andThen_ok, hf, Instr.sureAddr, Sem.run_pure, fieldPlace, run_sizeOf_pos hpos]
              rw [if_neg (by omega)]
              simp only [Sem.run_pure, Result.andThen_ok, addr_add]
            cases ha with
            | ptr id off b o hg => cases e; exact ⟨_, fin, by rw [Nat.add_assoc]; exact .ptr _ _ _ _ hg⟩
            | eptr id g kk idx off b o hg => cases e; exact ⟨_, fin, by rw [Nat.add_assoc]; exact .eptr _ _ _ _ _ _ _ hg⟩
            | sptr cs off b o vals hc hv => cases e; exact ⟨_, fin, by rw [Nat.add_assoc]; exact .sptr _ _ _ _ vals hc hv⟩
            | _ => cases e
          · cases heq
        · cases heq
      · cases heq
    · cases heq
  · cases e
end
section
variable {P : Program} {X O : Nat → Prop} {h : AHeap} {γ : Ghost} {w : World}

/-! ### Parts of a value -/
theorem part_sound {t : TypeId} {cs : List AV} {vs : Array Value} {off : Nat} {x : AV} (ha : V w O γ (.agg cs) (.agg vs)) (hs : 0 < tsize P t) (e : cut (tagg P t) (tsize P t) cs off = some x) :
    ∃ u, (part t vs off).run P w = .ok u w ∧ V w O γ x u := by
  cases ha with
  | agg cs vs hl hc hv =>
    unfold cut at e
    split at e
    · rename_i hg
      split at e
      · rename_i hle
        cases e
        refine ⟨.agg (vs.extract off (off + tsize P t)), ?_, ?_⟩
        · simp only [part, Sem.run_bind, run_isAgg hg, Result.andThen_ok, if_true, run_sizeOf_pos hs, Sem.run_pure]
        · refine .agg _ _ (by simp; omega) (fun i c hi => ?_) (fun i c v hi hu => ?_)
          · have hlt : i < tsize P t := by
              have := (List.getElem?_eq_some_iff.1 hi).1; simp at this; omega
            rw [List.getElem?_take_of_lt hlt, List.getElem?_drop] at hi
            exact hc _ _ hi
          · have hlt : i < tsize P t := by
              have := (List.getElem?_eq_some_iff.1 hi).1; simp at this; omega
            rw [List.getElem?_take_of_lt hlt, List.getElem?_drop] at hi
            have hu' : vs[off + i]? = some v := by
              rw [Array.getElem?_extract] at hu; split at hu
              · exact hu
              · cases hu
            exact hv _ _ _ hi hu'
      · cases e
    · rename_i hg
      have hlt : off < cs.length := (List.getElem?_eq_some_iff.1 e).1
      have hlt' : off < vs.size := hl ▸ hlt
      refine ⟨vs[off], ?_, hv _ _ _ e (by simp [hlt'])⟩
      simp only [part, Sem.run_bind, run_isAgg hg, Result.andThen_ok, Bool.false_eq_true, if_false]
      simp [hlt']
    · cases e
theorem afield_sound {s : TypeId} {f : Nat} {a v : AV} {u : Value} (ha : V w O γ a u) (e : afield P s a f = some v) :
    ∃ x, (Instr.field s u f).run P w = .ok x w ∧ V w O γ v x := by
  unfold afield at e
  split at e
  · rename_i fo sz g cs heq
    unfold tfield at heq
    split at heq
    · rename_i fs hu
      split at heq
      · rename_i fd hf
        split at heq
        · rename_i g' hg
          split at heq
          · rename_i hpos
            cases heq
            obtain ⟨vs, rfl⟩ : ∃ vs, u = .agg vs := by cases ha; exact ⟨_, rfl⟩
            rw [← hg] at e
            obtain ⟨x, h1, h2⟩ := part_sound ha hpos e
            refine ⟨x, ?_, h2⟩
            simp only [Instr.field, Sem.run_bind, run_underlying hu, Result.andThen_ok, hf, asAgg, Sem.run_pure, h1]
          · cases heq
        · cases heq
      · cases heq
    · cases heq
  · cases e
theorem strT_iff {t : TypeId} (e : isStrT P t = true) : P.underlying t = some .string := by
  unfold isStrT at e; split at e
  · assumption
  · cases e
theorem tarr_iff {t : TypeId} {n : Nat} {el : TypeId} (e : tarr P t = some (n, el)) : P.underlying t = some (.array n el) := by
  unfold tarr at e; split at e
  · rename_i hx; cases e; exact hx
  · cases e
theorem aindex_sound {t : TypeId} {a i v : AV} {u ui : Value} (ha : V w O γ a u) (hi : V w O γ i ui) (e : aindex P t a i = some v) :
    ∃ x, (Instr.index t u ui).run P w = .ok x w ∧ V w O γ v x := by
  unfold aindex at e
  split at e
  · rename_i s n hn
    obtain ⟨k, rfl⟩ := asInt_inv hn
    cases hi.val_inv; cases ha.val_inv
    split at e
    · rename_i hc; obtain ⟨hst, h0⟩ := hc
      cases hb : s.data.toList[n.toNat]? with
      | none => rw [hb] at e; cases e
      | some b =>
        rw [hb] at e; cases e
        refine ⟨_, ?_, .val _⟩
        have hlt : n.toNat < s.size := by
          have := (List.getElem?_eq_some_iff.1 hb).1; simpa using this
        have hb' : s[n.toNat]? = some b := by
          rw [getElem?_pos s n.toNat hlt]
          have : s.data[n.toNat]? = some b := by simpa using hb
          rw [Array.getElem?_eq_getElem (by simpa using hlt)] at this
          exact this
        simp only [Instr.index, Sem.run_bind, run_asIntOf, Result.andThen_ok, run_underlying (strT_iff hst), h0, if_true, hb', Sem.run_pure]
    · cases e
  · rename_i cs n hn
    obtain ⟨k, rfl⟩ := asInt_inv hn
    cases hi.val_inv
    split at e
    · rename_i len el heq
      split at e
      · rename_i hc; obtain ⟨h0, h1, h2⟩ := hc
        obtain ⟨vs, rfl⟩ : ∃ vs, u = .agg vs := by cases ha; exact ⟨_, rfl⟩
        obtain ⟨x, k1, k2⟩ := part_sound ha h2 e
        refine ⟨x, ?_, k2⟩
        simp only [Instr.index, Sem.run_bind, run_asIntOf, Result.andThen_ok, run_underlying (tarr_iff heq)]
        rw [if_pos ⟨h0, h1⟩]
        simp only [Sem.run_bind, run_sizeOf_pos h2, Result.andThen_ok, k1]
      · cases e
    · cases e
  · cases e

/-! ### Plain values -/
theorem aint_sound {op : BinOp} {k : IntKind} {a b : Int} {v : Value} (hs : isShift op = false) (t : TypeId) (e : aint op k a b = some v) : (binOp op t (.int k a) (.int k b)).run P w = .ok v w := by
  cases op <;> simp only [aint] at e <;> first
    | (cases e; done)
    | (split at e
       · cases e
       · rename_i hb; cases e; simp [binOp, Op.intDiv, hb])
    | (cases e; simp [binOp, Op.intArith, Op.intBits, Op.intCmp])
theorem ashift_sound {op : BinOp} {k k' : IntKind} {a b : Int} {v : Value} (t : TypeId) (e : ashift op k a b = some v) : (binOp op t (.int k a) (.int k' b)).run P w = .ok v w := by
  unfold ashift at e
  split at e
  · cases e
  · rename_i hb
    cases op <;> simp only [] at e <;> first
      | (cases e; done)
      | (cases e; simp [binOp, Op.shift, hb])
theorem astr_sound {op : BinOp} {a b : ByteArray} {v : Value} (t : TypeId) (e : astr op a b = some v) : (binOp op t (.string a) (.string b)).run P w = .ok v w := by
  cases op <;> simp only [astr] at e <;> first
    | (cases e; done)
    | (split at e
       · cases e
       · rename_i hb; cases e; simp only [binOp, Op.stringOp]; rw [if_neg hb]; rfl)
    | (cases e; simp [binOp, Op.stringOp, ByteArray.toList_eq])
theorem run_eq_of {op : BinOp} {t : TypeId} {x y : Value} {b : Bool} {v : AV} (he : (Op.equal t x y).run P w = .ok b w)
    (h1 : binOp .eql t x y = (do pure (.bool (← Op.equal t x y)))) (h2 : binOp .neq t x y = (do pure (.bool (!(← Op.equal t x y))))) (e : aeqb op b = some v) :
    ∃ u, (binOp op t x y).run P w = .ok u w ∧ V w O γ v u := by
  cases op <;> simp only [aeqb] at e <;> cases e
  · exact ⟨_, by rw [h1]; simp [he], .val _⟩
  · exact ⟨_, by rw [h2]; simp [he], .val _⟩
theorem partOf_sound {t : TypeId} {x a : AV} {u : Value} {off : Nat} (hx : V w O γ x u) (e : partOf P t off x = some a) : ∃ us, u = .agg us ∧ ∃ v, (part t us off).run P w = .ok v w ∧ V w O γ a v := by
  unfold partOf at e
  split at e
  · split at e
    · rename_i cs hp
      obtain ⟨us, rfl⟩ : ∃ us, u = .agg us := by cases hx; exact ⟨_, rfl⟩
      obtain ⟨v, h1, h2⟩ := part_sound hx hp e
      exact ⟨us, rfl, v, h1, h2⟩
    · cases e
  · cases e
theorem aeqF_sound {eq : TypeId → AV → AV → Option Bool} {D : Nat} (heq : ∀ {t : TypeId} {x y : AV} {u v : Value} {e : Bool}, V w O γ x u → V w O γ y v → eq t x y = some e → (Op.equalIn D t u v).run P w = .ok e w)
    {x y : AV} {us vs : Array Value} (hx : V w O γ x (.agg us)) (hy : V w O γ y (.agg vs)) : ∀ (fs : List Field) {e : Bool}, aeqF eq P x y fs = some e → (Op.eqFields D us vs fs).run P w = .ok e w
  | [], e, h => by simp only [aeqF] at h; cases h; simp [Op.eqFields]
  | f :: r, e, h => by
    simp only [aeqF] at h
    unfold Op.eqFields
    split at h
    · rename_i hn
      rw [if_pos hn]
      split at h
      · rename_i a b h1 h2
        obtain ⟨_, e1, a', k1, k2⟩ := partOf_sound hx h1
        obtain ⟨_, e2, b', k3, k4⟩ := partOf_sound hy h2
        cases e1; cases e2
        split at h
        · rename_i e1 e2 h3 h4
          cases h
          have := aeqF_sound heq hx hy r h4
          simp only [Sem.run_bind, k1, k3, Result.andThen_ok, heq k2 k4 h3]
          cases e1 <;> simp [this]
        · cases h
      · cases h
    · rename_i hn
      rw [if_neg hn]
      exact aeqF_sound heq hx hy r h
theorem aeqT_sound : ∀ (d : Nat) {D : Nat} {t : TypeId} {x y : AV} {u v : Value} {e : Bool}, d ≤ D → V w O γ x u → V w O γ y v → aeqT P d t x y = some e → (Op.equalIn D t u v).run P w = .ok e w
  | 0, _, _, _, _, _, _, _, _, _, _, h => by simp only [aeqT] at h; cases h
  | d + 1, 0, _, _, _, _, _, _, hd, _, _, _ => by omega
  | d + 1, D + 1, t, x, y, u, v, e, hd, hx, hy, h => by
    unfold aeqT at h
    split at h
    · rename_i fs hu
      split at h
      · cases h
      · rename_i hs
        split at h
        · rename_i cs ds
          obtain ⟨us, rfl⟩ : ∃ us, u = .agg us := by cases hx; exact ⟨_, rfl⟩
          obtain ⟨vs, rfl⟩ : ∃ vs, v = .agg vs := by cases hy; exact ⟨_, rfl⟩
          have hf : P.fieldsOf t = fs := by simp [Program.fieldsOf, hu]
          rw [run_equalIn_struct w D t us vs (by rw [hf]; exact hu) (by simpa using hs), hf]
          exact aeqF_sound (fun a b c => aeqT_sound d (by omega) a b c) hx hy fs.toList h
        · cases h
    · rename_i ud hns hu
      split at h
      · rename_i hp
        simp only [Bool.and_eq_true] at hp
        obtain ⟨p1, p2⟩ := hp
        have isv : ∀ {z : AV}, plainT ud z = true → ∃ a, z = .val a := by
          intro z hz
          cases z <;> first
            | exact ⟨_, rfl⟩
            | (cases ud <;> simp [plainT] at hz)
        obtain ⟨a, rfl⟩ := isv p1
        obtain ⟨b, rfl⟩ := isv p2
        rw [hx.val_inv, hy.val_inv]
        cases ud <;> cases a <;> try (simp [plainT] at p1; done)
        all_goals (cases b <;> try (simp [plainT] at p2; done))
        · simp only [aeq1] at h; cases h
          exact run_equalIn_bool' w D t _ _ hu
        · simp only [aeq1] at h
          split at h
          · rename_i hk; subst hk; cases h; exact run_equalIn_int w D t _ _ _ _ hu
          · cases h
        · simp only [aeq1] at h; cases h
          rw [run_equalIn_string w D t _ _ hu, ByteArray.toList_eq, ByteArray.toList_eq]
      · cases h
    · cases h
theorem eqGuard_ok {op : BinOp} {t : TypeId} {x y : Operand} {a b : Value} (h1 : a ≠ .nilIface ∨ b ≠ .nilIface) (h2 : (∀ cs, a ≠ .agg cs) ∨ (∀ cs, b ≠ .agg cs)) :
    (eqGuard op t x y a b).run P w = .ok () w := by
  unfold eqGuard
  cases op <;> first
    | rfl
    | (cases a <;> cases b <;> first | rfl | (exfalso; simp at h1; done) | (exfalso; simp at h2; done))
theorem V.ptr_form {a : AV} {u : Value} (ha : V w O γ a u) (hf : (∃ id off, a = .ptr id off) ∨ (∃ id g k i off, a = .eptr id g k i off)) : ∃ p, u = .pointer (some p) := by
  rcases hf with ⟨_, _, rfl⟩ | ⟨_, _, _, _, _, rfl⟩ <;> cases ha <;> exact ⟨_, rfl⟩
theorem ptrT_iff {t : TypeId} (e : isPtrT P t = true) : ∃ el, P.underlying t = some (.pointer el) := by
  unfold isPtrT at e; split at e
  · exact ⟨_, by assumption⟩
  · cases e
theorem funcT_iff {t : TypeId} (e : isFuncT P t = true) : ∃ a b c, P.underlying t = some (.func a b c) := by
  unfold isFuncT at e; split at e
  · exact ⟨_, _, _, by assumption⟩
  · cases e
theorem boolT_iff {t : TypeId} (e : isBoolT P t = true) : P.underlying t = some .bool := by
  unfold isBoolT at e; split at e
  · assumption
  · cases e
theorem mapT_iff {t : TypeId} (e : isMapT P t = true) : ∃ k el, P.underlying t = some (.map k el) := by
  unfold isMapT at e; split at e
  · exact ⟨_, _, by assumption⟩
  · cases e
theorem eqIn_map (d : Nat) {t k el : TypeId} (hu : P.underlying t = some (.map k el)) (r : Option Nat) : (Op.equalIn (d + 1) t (.map r) (.map none)).run P w = .ok r.isNone w := by
  cases r <;> simp [Op.equalIn, run_underlying hu]
theorem eqIn_bool (d : Nat) {t : TypeId} (hu : P.underlying t = some .bool) (a b : Bool) : (Op.equalIn (d + 1) t (.bool a) (.bool b)).run P w = .ok (a == b) w := by
  simp [Op.equalIn, run_underlying hu]
theorem eqIn_ptr00 (d : Nat) {t el : TypeId} (hu : P.underlying t = some (.pointer el)) : (Op.equalIn (d + 1) t (.pointer none) (.pointer none)).run P w = .ok true w := by
  simp [Op.equalIn, run_underlying hu]
theorem eqIn_ptr0 (d : Nat) {t el : TypeId} (hu : P.underlying t = some (.pointer el)) (p : Addr) : (Op.equalIn (d + 1) t (.pointer none) (.pointer (some p))).run P w = .ok false w := by
  simp [Op.equalIn, run_underlying hu]
theorem eqIn_ptr1 (d : Nat) {t el : TypeId} (hu : P.underlying t = some (.pointer el)) (p : Addr) : (Op.equalIn (d + 1) t (.pointer (some p)) (.pointer none)).run P w = .ok false w := by
  simp [Op.equalIn, run_underlying hu]
theorem eqIn_fn00 (d : Nat) {t : TypeId} {x y : Array TypeId} {z : Bool} (hu : P.underlying t = some (.func x y z)) : (Op.equalIn (d + 1) t .nilFunc .nilFunc).run P w = .ok true w := by
  simp [Op.equalIn, run_underlying hu]
theorem eqIn_fn1 (d : Nat) {t : TypeId} {x y : Array TypeId} {z : Bool} (hu : P.underlying t = some (.func x y z)) (f : Fn) (a b : Array Value) : (Op.equalIn (d + 1) t (.func f a b) .nilFunc).run P w = .ok false w := by
  simp [Op.equalIn, run_underlying hu]
theorem abin_sound {op : BinOp} {t : TypeId} {x y : Operand} {a b v : AV} {u u' : Value} (ha : V w O γ a u) (hb : V w O γ b u') (e : abin P op t a b = some v) :
    ∃ r, (do eqGuard op t x y u u'; binOp op t u u' : Sem Value).run P w = .ok r w ∧ V w O γ v r := by
  have fin : ∀ {a b : Value}, (a ≠ .nilIface ∨ b ≠ .nilIface) → ((∀ cs, a ≠ .agg cs) ∨ (∀ cs, b ≠ .agg cs)) → (∃ r, (binOp op t a b).run P w = .ok r w ∧ V w O γ v r) →
      ∃ r, (do eqGuard op t x y a b; binOp op t a b : Sem Value).run P w = .ok r w ∧ V w O γ v r := by
    rintro a b h1 h2 ⟨r, h3, h4⟩
    exact ⟨r, by simp only [Sem.run_bind, eqGuard_ok h1 h2, Result.andThen_ok, h3], h4⟩
  unfold abin at e
  split at e
  · cases ha.val_inv; cases hb.val_inv
    refine fin (.inl (by simp)) (.inl (by simp)) ?_
    split at e
    · cases h1 : ashift op _ _ _ with
      | none => rw [h1] at e; cases e
      | some r => rw [h1] at e; cases e; exact ⟨_, ashift_sound t h1, .val _⟩
    · rename_i hns
      split at e
      · rename_i hk; subst hk
        cases h1 : aint op _ _ _ with
        | none => rw [h1] at e; cases e
        | some r => rw [h1] at e; cases e; exact ⟨_, aint_sound (by simpa using hns) t h1, .val _⟩
      · cases e
  · cases ha.val_inv; cases hb.val_inv
    refine fin (.inl (by simp)) (.inl (by simp)) ?_
    cases h1 : astr op _ _ with
    | none => rw [h1] at e; cases e
    | some r => rw [h1] at e; cases e; exact ⟨_, astr_sound t h1, .val _⟩
  · cases ha.val_inv; cases hb.val_inv
    refine fin (.inl (by simp)) (.inl (by simp)) ?_
    split at e
    · rename_i ht
      exact run_eq_of (eqIn_bool 9999 (boolT_iff ht) _ _) rfl rfl e
    · cases e
  · cases ha.val_inv; cases hb.val_inv
    refine fin (.inl (by simp)) (.inl (by simp)) ?_
    split at e
    · rename_i ht
      obtain ⟨el, hu⟩ := ptrT_iff ht
      exact run_eq_of (eqIn_ptr00 9999 hu) rfl rfl e
    · cases e
  · cases hb.val_inv
    obtain ⟨p, rfl⟩ := ha.ptr_form (.inl ⟨_, _, rfl⟩)
    refine fin (.inl (by simp)) (.inl (by simp)) ?_
    split at e
    · rename_i ht
      obtain ⟨el, hu⟩ := ptrT_iff ht
      exact run_eq_of (eqIn_ptr1 9999 hu p) rfl rfl e
    · cases e
  · cases ha.val_inv
    obtain ⟨p, rfl⟩ := hb.ptr_form (.inl ⟨_, _, rfl⟩)
    refine fin (.inl (by simp)) (.inl (by simp)) ?_
    split at e
    · rename_i ht
      obtain ⟨el, hu⟩ := ptrT_iff ht
      exact run_eq_of (eqIn_ptr0 9999 hu p) rfl rfl e
    · cases e
  · cases hb.val_inv
    obtain ⟨p, rfl⟩ := ha.ptr_form (.inr ⟨_, _, _, _, _, rfl⟩)
    refine fin (.inl (by simp)) (.inl (by simp)) ?_
    split at e
    · rename_i ht
      obtain ⟨el, hu⟩ := ptrT_iff ht
      exact run_eq_of (eqIn_ptr1 9999 hu p) rfl rfl e
    · cases e
  · cases ha.val_inv; cases hb.val_inv
    refine fin (.inl (by simp)) (.inl (by simp)) ?_
    split at e
    · rename_i ht
      obtain ⟨_, _, _, hu⟩ := funcT_iff ht
      exact run_eq_of (eqIn_fn00 9999 hu) rfl rfl e
    · cases e
  · cases hb.val_inv
    obtain ⟨f, c1, c2, rfl⟩ : ∃ f a b, u = .func f a b := by cases ha; exact ⟨_, _, _, rfl⟩
    refine fin (.inl (by simp)) (.inl (by simp)) ?_
    split at e
    · rename_i ht
      obtain ⟨_, _, _, hu⟩ := funcT_iff ht
      exact run_eq_of (eqIn_fn1 9999 hu _ _ _) rfl rfl e
    · cases e
  · cases hb.val_inv
    obtain ⟨r, rfl⟩ : ∃ r, u = .map (some r) := by cases ha; exact ⟨_, rfl⟩
    refine fin (.inl (by simp)) (.inl (by simp)) ?_
    split at e
    · rename_i ht
      obtain ⟨kt, et, hu⟩ := mapT_iff ht
      exact run_eq_of (eqIn_map 9999 hu (some r)) rfl rfl e
    · cases e
  · cases ha.val_inv; cases hb.val_inv
    refine fin (.inl (by simp)) (.inl (by simp)) ?_
    split at e
    · rename_i ht
      obtain ⟨kt, et, hu⟩ := mapT_iff ht
      exact run_eq_of (eqIn_map 9999 hu none) rfl rfl e
    · cases e
  · rename_i cs ds
    obtain ⟨us, rfl⟩ : ∃ us, u = .agg us := by cases ha; exact ⟨_, rfl⟩
    obtain ⟨vs, rfl⟩ : ∃ vs, u' = .agg vs := by cases hb; exact ⟨_, rfl⟩
    unfold aeqS at e
    split at e
    · cases e
    · rename_i hg
      cases hq : aeqT P eqDepth t (.agg cs) (.agg ds) with
      | none => rw [hq] at e; cases e
      | some q =>
        rw [hq] at e
        have h1 := aeqT_sound (P := P) (w := w) eqDepth (D := Op.maxDepth) (by decide) ha hb hq
        obtain ⟨r, h2, h3⟩ := run_eq_of (P := P) (w := w) (γ := γ) (O := O) (op := op) (t := t) h1 rfl rfl (by simpa using e)
        exact ⟨r, by simp only [Sem.run_bind, run_eqGuard_agg w op t x y us vs (by simpa using hg), Result.andThen_ok, h2], h3⟩
  · cases e
theorem aun_sound {op : UnOp} {a v : AV} {u : Value} (ha : V w O γ a u) (e : aun op a = some v) : ∃ r, (Op.unary op u).run P w = .ok r w ∧ V w O γ v r := by
  unfold aun at e
  split at e
  · cases ha.val_inv
    cases op <;> simp only [] at e <;> cases e
    · exact ⟨_, rfl, .val _⟩
    · exact ⟨_, rfl, .val _⟩
  · cases ha.val_inv
    cases op <;> simp only [] at e <;> cases e
    exact ⟨_, rfl, .val _⟩
  · cases e
end
section
variable {P : Program} {X O : Nat → Prop} {h : AHeap} {γ : Ghost} {w : World}

theorem tslice_all {t : TypeId} {k b : Nat} {z : AV} (e : tslice P t = some (k, b, z)) :
    ∃ el i zv, P.underlying t = some (.slice el) ∧ P.info? el = some i ∧ i.zero = some zv ∧ z = ofVal zv ∧ k = i.size ∧ b = i.bytes ∧ 0 < k ∧ 0 < b ∧ z.cells.length = k ∧ okVal z = true ∧ z.cells.all isCell = true := by
  unfold tslice at e
  split at e
  · rename_i el hel
    split at e
    · rename_i z' hz
      split at e
      · rename_i hc; cases e
        unfold tzero at hz
        split at hz
        · rename_i i hi
          cases hzero : i.zero with
          | none => rw [hzero] at hz; cases hz
          | some zv =>
            rw [hzero] at hz
            simp only [Option.map_some, Option.bind_some, zeroOk] at hz
            split at hz
            · rename_i hok
              cases hz
              simp only [Bool.and_eq_true] at hok
              have e1 : tsize P el = i.size := by simp [tsize, hi]
              have e2 : tbytes P el = i.bytes := by simp [tbytes, hi]
              exact ⟨el, i, zv, telem_iff hel, hi, hzero, rfl, e1, e2, hc.1, hc.2.1, hc.2.2, hok.1, hok.2⟩
            · cases hz
        · cases hz
      · cases e
    · cases e
  · cases e
theorem ofVal_V (v : Value) (hc : (ofVal v).cells.all isCell = true) : V w O γ (ofVal v) v := by
  unfold ofVal
  cases v with
  | agg cs =>
    refine .agg _ _ (by simp) (fun i c hi => ?_) (fun i c u hi hu => ?_)
    · exact List.all_eq_true.1 hc c (List.mem_of_getElem? hi)
    · simp only [List.getElem?_map] at hi
      rw [Array.getElem?_toList, hu] at hi
      cases hi
      exact V.ofCell u
  | _ => exact V.ofCell _

/-! ### Slice expressions -/
theorem abound_sound {d : Nat} {x : Option AV} {u : Option Value} {n : Nat} (hx : ∀ v, x = some v → ∃ y, u = some y ∧ V w O γ v y) (hn : x = none → u = none) (e : abound d x = some n) :
    (x = none ∧ u = none ∧ n = d) ∨ ∃ k, u = some (.int k (n : Int)) := by
  unfold abound at e
  split at e
  · cases e; exact .inl ⟨rfl, hn rfl, rfl⟩
  · rename_i v
    split at e
    · rename_i m hm
      obtain ⟨k, rfl⟩ := asInt_inv hm
      obtain ⟨y, rfl, hy⟩ := hx _ rfl
      cases hy.val_inv
      split at e
      · rename_i h0; cases e; exact .inr ⟨k, by rw [Int.toNat_of_nonneg h0]⟩
      · cases e
    · cases e
theorem run_sliceBound (k : IntKind) {n y : Nat} (hn : n ≤ y) (c : BoundsCode) (w : World) : (Instr.sliceBound (.int k n) y c).run P w = .ok n w := by
  simp [Instr.sliceBound, run_asIntOf, hn]
theorem run_sliceBounds {isS : Bool} {len cap l hh : Nat} {lo hi : Option Value} (hl : l ≤ hh) (hc : hh ≤ cap)
    (h1 : (lo = none ∧ l = 0) ∨ ∃ k, lo = some (.int k (l : Int))) (h2 : (hi = none ∧ hh = len) ∨ ∃ k, hi = some (.int k (hh : Int))) (w : World) :
    (Instr.sliceBounds isS len cap lo hi none).run P w = .ok (l, hh, cap) w := by
  rcases h1 with ⟨rfl, rfl⟩ | ⟨k1, rfl⟩ <;> rcases h2 with ⟨rfl, rfl⟩ | ⟨k2, rfl⟩ <;>
    simp [Instr.sliceBounds, run_sliceBound (P := P) _ hc, run_sliceBound (P := P) _ hl]
theorem run_sliceBounds3 {isS : Bool} {len cap l hh : Nat} {lo : Option Value} {k2 k3 : IntKind} (hl : l ≤ hh) (hc : hh ≤ cap)
    (h1 : (lo = none ∧ l = 0) ∨ ∃ k, lo = some (.int k (l : Int))) (w : World) :
    (Instr.sliceBounds isS len cap lo (some (.int k2 (hh : Int))) (some (.int k3 (hh : Int)))).run P w = .ok (l, hh, hh) w := by
  rcases h1 with ⟨rfl, rfl⟩ | ⟨k1, rfl⟩ <;>
    simp [Instr.sliceBounds, run_sliceBound (P := P) _ hc, run_sliceBound (P := P) _ hl, run_sliceBound (P := P) _ (Nat.le_refl hh)]
theorem take_drop_get {α : Type} {es : List α} {l n i : Nat} {e : α} (hi : ((es.drop l).take n)[i]? = some e) : i < n ∧ es[l + i]? = some e := by
  have hlt : i < n := by
    have := (List.getElem?_eq_some_iff.1 hi).1; simp at this; omega
  rw [List.getElem?_take_of_lt hlt, List.getElem?_drop] at hi
  exact ⟨hlt, hi⟩
theorem headOk_k {k kk : Nat} {es : List AV} (hk : ∀ (i : Nat) (e : AV), es[i]? = some e → okVal e = true ∧ e.cells.length = kk) (ho : headOk k es = true) (hne : es ≠ []) : kk = k := by
  cases es with
  | nil => exact absurd rfl hne
  | cons x r =>
    have := (hk 0 x rfl).2
    simp [headOk] at ho
    omega
theorem slc_piece {full full' : Bool} {es : List AV} {b o cap k l n cap' : Nat} {vals : Nat → Nat → Value}
    (hk : ∀ (i : Nat) (e : AV), es[i]? = some e → okVal e = true ∧ e.cells.length = k)
    (hc : ∀ (i j : Nat) (e c : AV), es[i]? = some e → e.cells[j]? = some c → isCell c = true ∧ ¬ O b ∧ w.cell? ⟨b, o + i * k + j, none⟩ = some (vals i j))
    (hv : ∀ (i j : Nat) (e c : AV), es[i]? = some e → e.cells[j]? = some c → V w O γ c (vals i j)) (o' : Nat) (ho : n = 0 ∨ o' = o + l * k) (hn : l + n ≤ es.length) (hcap' : n ≤ cap') (hf : full' = true → cap' = n) (_ : cap = cap) (_ : full = full) :
    V w O γ (.slc full' ((es.drop l).take n)) (.slice (some ⟨b, o', none⟩) n cap') := by
  have hlen : ((es.drop l).take n).length = n := by simp; omega
  have := V.slc (w := w) (O := O) (γ := γ) full' ((es.drop l).take n) b o' cap' k (fun i j => vals (l + i) j) (by rw [hlen]; exact hcap') (fun hf' => by rw [hlen]; exact hf hf')
    (fun i e hi => hk _ _ (take_drop_get hi).2)
    (fun i j e c hi hj => by
      obtain ⟨hlt, hi'⟩ := take_drop_get hi
      obtain ⟨h1, h2, h3⟩ := hc _ _ _ _ hi' hj
      refine ⟨h1, h2, ?_⟩
      rcases ho with h0 | rfl
      · omega
      · rw [← h3]; congr 2; rw [Nat.add_mul]; omega)
    (fun i j e c hi hj => hv _ _ _ _ (take_drop_get hi).2 hj)
  rw [hlen] at this
  exact this
theorem slice_case {lo hi : Option AV} {ulo uhi : Option Value} {d l hh : Nat}
    (hlo : ∀ v, lo = some v → ∃ y, ulo = some y ∧ V w O γ v y) (hlo' : lo = none → ulo = none) (e1 : abound 0 lo = some l)
    (hhi : ∀ v, hi = some v → ∃ y, uhi = some y ∧ V w O γ v y) (hhi' : hi = none → uhi = none) (e2 : abound d hi = some hh) :
    ((ulo = none ∧ l = 0) ∨ ∃ k, ulo = some (.int k (l : Int))) ∧ ((uhi = none ∧ hh = d) ∨ ∃ k, uhi = some (.int k (hh : Int))) ∧ (hi.isSome = true → ∃ k, uhi = some (.int k (hh : Int))) := by
  have a := abound_sound hlo hlo' e1
  have b := abound_sound hhi hhi' e2
  refine ⟨?_, ?_, fun hs => ?_⟩
  · rcases a with ⟨_, h1, h2⟩ | h1
    · exact .inl ⟨h1, h2⟩
    · exact .inr h1
  · rcases b with ⟨_, h1, h2⟩ | h1
    · exact .inl ⟨h1, h2⟩
    · exact .inr h1
  · rcases b with ⟨h1, _, _⟩ | h1
    · rw [h1] at hs; cases hs
    · exact h1
theorem add_eq (b o n : Nat) (c d : Nat) : (if c = d then some (⟨b, o, none⟩ : Addr) else (some (⟨b, o, none⟩ : Addr)).map (·.add n)) = some ⟨b, if c = d then o else o + n, none⟩ := by
  split <;> simp [addr_add]
theorem aslice_sound {t : TypeId} {a v : AV} {u : Value} {lo hi mx : Option AV} {ulo uhi umx : Option Value} (ha : V w O γ a u)
    (hlo : ∀ v, lo = some v → ∃ y, ulo = some y ∧ V w O γ v y) (hlo' : lo = none → ulo = none)
    (hhi : ∀ v, hi = some v → ∃ y, uhi = some y ∧ V w O γ v y) (hhi' : hi = none → uhi = none)
    (hmx : ∀ v, mx = some v → ∃ y, umx = some y ∧ V w O γ v y) (hmx' : mx = none → umx = none)
    (e : aslice P t a lo hi mx = some v) :
    ∃ x, (Instr.sliceAt t u ulo uhi umx).run P w = .ok x w ∧ V w O γ v x := by
  unfold aslice at e
  split at e
  · rename_i s
    cases ha.val_inv
    split at e
    · rename_i l hh hm e1 e2
      obtain rfl := hmx' rfl
      obtain ⟨h1, h2, _⟩ := slice_case hlo hlo' e1 hhi hhi' e2
      split at e
      · rename_i hc; obtain ⟨hst, hl, hh'⟩ := hc
        cases e
        refine ⟨_, ?_, .val _⟩
        simp [Instr.sliceAt, Instr.slice, run_underlying (strT_iff hst), run_sliceBounds (P := P) (isS := false) (len := s.size) (cap := s.size) hl hh' h1 h2]
      · cases e
    · cases e
  · rename_i full es
    split at e
    · rename_i ks by_ z_ l hh hsl e1 e2
      obtain rfl := hmx' rfl
      obtain ⟨h1, h2, _⟩ := slice_case hlo hlo' e1 hhi hhi' e2
      split at e
      · rename_i hc; obtain ⟨hl, hh', ho⟩ := hc
        cases e
        obtain ⟨el, hu, rfl, hs⟩ := tslice_iff hsl
        cases ha with
        | slc0 full a0 =>
          simp at hh'; subst hh'
          have : l = 0 := by omega
          subst this
          refine ⟨.slice a0 0 0, ?_, by simpa using V.slc0 full a0⟩
          simp [Instr.sliceAt, Instr.slice, run_underlying hu, run_sliceBounds (P := P) (isS := true) (len := 0) (cap := 0) hl (Nat.zero_le _) h1 h2, run_sizeOf_pos hs]
        | slc full es b o cap k vals hcap hfull hk hc hv =>
          refine ⟨.slice (some ⟨b, if cap = l then o else o + l * tsize P el, none⟩) (hh - l) (cap - l), ?_, ?_⟩
          · simp only [Instr.sliceAt, Instr.slice, Sem.run_bind, run_underlying hu, Result.andThen_ok, run_sliceBounds (P := P) (isS := true) (len := es.length) (cap := cap) hl (by omega) h1 h2, run_sizeOf_pos hs, Sem.run_pure, add_eq]
          · refine slc_piece (full := full) (cap := cap) hk hc hv _ ?_ (by omega) (by omega) (fun hf => ?_) rfl rfl
            · by_cases hcl : cap = l
              · left; omega
              · by_cases hne : es = []
                · left; subst hne; simp at hh'; omega
                · right; rw [if_neg hcl, headOk_k hk ho hne]
            · simp only [Bool.and_eq_true, beq_iff_eq] at hf
              have := hfull hf.1; omega
      · cases e
    · rename_i ks by_ z_ l hh m hsl e1 e2
      split at e
      · rename_i hc; obtain ⟨hl, hh', hm, ho, hsome⟩ := hc
        cases e
        obtain ⟨el, hu, rfl, hs⟩ := tslice_iff hsl
        obtain ⟨um, rfl, hum⟩ := hmx _ rfl
        obtain ⟨km, rfl⟩ := asInt_inv hm
        cases hum.val_inv
        obtain ⟨h1, _, h3⟩ := slice_case hlo hlo' e1 hhi hhi' e2
        obtain ⟨kh, rfl⟩ := h3 hsome
        cases ha with
        | slc0 full a0 =>
          simp at hh'; subst hh'
          have : l = 0 := by omega
          subst this
          refine ⟨.slice a0 0 0, ?_, by simpa using V.slc0 true a0⟩
          simp only [Instr.sliceAt, Instr.slice, Sem.run_bind, run_underlying hu, Result.andThen_ok, run_sliceBounds3 (P := P) (isS := true) (len := 0) (cap := 0) hl (Nat.zero_le _) h1, run_sizeOf_pos hs, Sem.run_pure]
          simp
        | slc full es b o cap k vals hcap hfull hk hc hv =>
          refine ⟨.slice (some ⟨b, if hh = l then o else o + l * tsize P el, none⟩) (hh - l) (hh - l), ?_, ?_⟩
          · simp only [Instr.sliceAt, Instr.slice, Sem.run_bind, run_underlying hu, Result.andThen_ok, run_sliceBounds3 (P := P) (isS := true) (len := es.length) (cap := cap) hl (by omega) h1, run_sizeOf_pos hs, Sem.run_pure, add_eq]
          · refine slc_piece (full := full) (cap := cap) hk hc hv _ ?_ (by omega) (by omega) (fun hf => rfl) rfl rfl
            by_cases hcl : hh = l
            · left; omega
            · by_cases hne : es = []
              · left; subst hne; simp at hh'; omega
              · right; rw [if_neg hcl, headOk_k hk ho hne]
      · cases e
    · cases e
  · rename_i id off len g k
    split at e
    · rename_i ks by_ z_ l hh hsl e1 e2
      obtain rfl := hmx' rfl
      obtain ⟨h1, h2, _⟩ := slice_case hlo hlo' e1 hhi hhi' e2
      split at e
      · rename_i hc; obtain ⟨hl, hh', rfl⟩ := hc
        cases e
        obtain ⟨el, hu, rfl, hs⟩ := tslice_iff hsl
        cases ha with
        | arr id off len g k b o cap o' hg hcap ho hrow =>
          obtain ⟨c, T, z, hh2, hsz⟩ := hrow
          refine ⟨.slice (some ⟨b, if cap = l then o' else o' + l * tsize P el, none⟩) (hh - l) (cap - l), ?_, ?_⟩
          · simp only [Instr.sliceAt, Instr.slice, Sem.run_bind, run_underlying hu, Result.andThen_ok, run_sliceBounds (P := P) (isS := true) (len := len) (cap := cap) hl (by omega) h1 h2, run_sizeOf_pos hs, Sem.run_pure, add_eq]
          · refine .arr _ _ _ _ _ b o _ _ hg (by omega) ?_ ⟨c, T, z, hh2, ?_⟩
            · by_cases hcl : cap = l
              · right; omega
              · left
                rw [if_neg hcl]
                rcases ho with rfl | h0
                · rw [Nat.add_mul]; omega
                · omega
            · rw [show off + l + (cap - l) = off + cap by omega]; exact hsz
      · cases e
    · rename_i ks l hh m hsl e1 e2
      split at e
      · rename_i hc; obtain ⟨rfl, hh', hm, hsome⟩ := hc
        cases e
        obtain ⟨el, hu, _, hs⟩ := tslice_iff (z := ks.2.2) (b := ks.2.1) (k := ks.1) hsl
        obtain ⟨um, rfl, hum⟩ := hmx _ rfl
        obtain ⟨km, rfl⟩ := asInt_inv hm
        cases hum.val_inv
        obtain ⟨h1, _, h3⟩ := slice_case hlo hlo' e1 hhi hhi' e2
        obtain ⟨kh, rfl⟩ := h3 hsome
        cases ha with
        | arr id off len g k b o cap o' hg hcap ho hrow =>
          refine ⟨.slice (some ⟨b, o', none⟩) (l - l) (l - l), ?_, ?_⟩
          · simp only [Instr.sliceAt, Instr.slice, Sem.run_bind, run_underlying hu, Result.andThen_ok, run_sliceBounds3 (P := P) (isS := true) (len := len) (cap := cap) (Nat.le_refl l) (by omega) h1, run_sizeOf_pos hs, Sem.run_pure, if_true]
          · rw [Nat.sub_self]
            exact .slc true [] b o' 0 0 (fun _ _ => undef) (Nat.le_refl _) (fun _ => rfl) (fun i e hi => by simp at hi) (fun i j e c hi => by simp at hi) (fun i j e c hi => by simp at hi)
      · cases e
    · cases e
  · cases e
theorem asliceArr_sound (r : R X h γ w) {t : TypeId} {id off : Nat} {v : AV} {u : Value} {lo hi mx : Option AV} {ulo uhi umx : Option Value} (ha : V w (Ow X h γ) γ (.ptr id off) u)
    (hlo : ∀ v, lo = some v → ∃ y, ulo = some y ∧ V w (Ow X h γ) γ v y) (hlo' : lo = none → ulo = none)
    (hhi : ∀ v, hi = some v → ∃ y, uhi = some y ∧ V w (Ow X h γ) γ v y) (hhi' : hi = none → uhi = none)
    (hmx' : mx = none → umx = none)
    (e : asliceArr P t h id off lo hi mx = some v) :
    ∃ x, (Instr.sliceAt t u ulo uhi umx).run P w = .ok x w ∧ V w (Ow X h γ) γ v x := by
  unfold asliceArr at e
  split at e
  · rename_i n el cs l hta hid e1
    split at e
    · rename_i hh e2
      obtain rfl := hmx' rfl
      obtain ⟨h1, h2, _⟩ := slice_case hlo hlo' e1 hhi hhi' e2
      split at e
      · rename_i hc; obtain ⟨hl, hh', hn0, hs, hlen⟩ := hc
        cases e
        cases ha with
        | ptr id off b o hg =>
          obtain ⟨⟨c, T, z, hb, hf⟩, hcells⟩ := r.vars hid hg
          have hu := tarr_iff hta
          have hsz : o + (off + n) ≤ c.size ∨ off + n = 0 := by
            rcases Nat.eq_zero_or_pos (off + n) with h0 | hp
            · exact .inr h0
            · left
              obtain ⟨_, v, hv, _⟩ := hcells (off + n - 1) cs[off + n - 1] (by simp)
              rw [cell_iff hb] at hv
              have := (Array.getElem?_eq_some_iff.1 hv).1
              omega
          refine ⟨.slice (some ⟨b, if n = l then o + off else o + off + l * 1, none⟩) (hh - l) (n - l), ?_, ?_⟩
          · have hsz1 := run_sizeOf_pos (P := P) (t := el) (by omega) w
            rw [hs] at hsz1
            simp only [Instr.sliceAt, Sem.run_bind, run_underlying hu, Result.andThen_ok, Instr.sureAddr, Sem.run_pure, run_sliceBounds (P := P) (isS := false) (len := n) (cap := n) hl hh' h1 h2, hsz1]
            congr 3
            split <;> simp [addr_add]
          · by_cases hz : off + n = 0
            · omega
            · refine .arr _ _ _ _ _ b o _ _ hg (by omega) ?_ ⟨c, T, z, hb, ?_⟩
              · by_cases hcl : n = l
                · right; omega
                · left; rw [if_neg hcl]; omega
              · rcases hsz with h | h
                · rw [show off + l + (n - l) = off + n by omega, Nat.mul_one]; exact h
                · omega
      · cases e
    · cases e
  · cases e
theorem asliceAt_sound (r : R X h γ w) {t : TypeId} {a v : AV} {u : Value} {lo hi mx : Option AV} {ulo uhi umx : Option Value} (ha : V w (Ow X h γ) γ a u)
    (hlo : ∀ v, lo = some v → ∃ y, ulo = some y ∧ V w (Ow X h γ) γ v y) (hlo' : lo = none → ulo = none)
    (hhi : ∀ v, hi = some v → ∃ y, uhi = some y ∧ V w (Ow X h γ) γ v y) (hhi' : hi = none → uhi = none)
    (hmx : ∀ v, mx = some v → ∃ y, umx = some y ∧ V w (Ow X h γ) γ v y) (hmx' : mx = none → umx = none)
    (e : asliceAt P t h a lo hi mx = some v) :
    ∃ x, (Instr.sliceAt t u ulo uhi umx).run P w = .ok x w ∧ V w (Ow X h γ) γ v x := by
  unfold asliceAt at e
  split at e
  · exact asliceArr_sound r ha hlo hlo' hhi hhi' hmx' e
  · exact aslice_sound ha hlo hlo' hhi hhi' hmx hmx' e
end
section
variable {P : Program} {X O : Nat → Prop} {h : AHeap} {γ : Ghost} {w : World}

/-! ### Values built of parts -/
def CV (w : World) (O : Nat → Prop) (γ : Ghost) (cs : List AV) (vs : Array Value) : Prop :=
  cs.length = vs.size ∧ (∀ (i : Nat) (c : AV), cs[i]? = some c → isCell c = true) ∧ ∀ (i : Nat) (c : AV) (v : Value), cs[i]? = some c → vs[i]? = some v → V w O γ c v
theorem V.cv {a : AV} {v : Value} (ha : V w O γ a v) (hk : okVal a = true) : CV w O γ a.cells v.cells := by
  obtain ⟨h1, h2⟩ := ha.cells hk
  refine ⟨h1, fun i c hi => (h2 i c hi).1, fun i c u hi hu => ?_⟩
  obtain ⟨_, u', e1, e2⟩ := h2 i c hi
  rw [hu] at e1; cases e1; exact e2
theorem CV.set {cs : List AV} {vs : Array Value} (hc : CV w O γ cs vs) {a : AV} {v : Value} (ha : V w O γ a v) (hk : isCell a = true) (i : Nat) : CV w O γ (cs.set i a) (vs.setIfInBounds i v) := by
  have hva : VA w O γ cs vs := ⟨hc.1, hc.2.2⟩
  have := hva.set ha i
  refine ⟨this.1, fun j c hj => ?_, this.2⟩
  by_cases e : i = j
  · subst e
    rw [List.getElem?_set] at hj
    simp at hj
    obtain ⟨_, rfl⟩ := hj
    exact hk
  · rw [List.getElem?_set_ne e] at hj
    exact hc.2.1 j c hj
theorem foldl_put (us : List Value) : ∀ (vs : Array Value) (off j0 : Nat),
    (us.zipIdx j0).foldl (fun (cs : Array Value) (p : Value × Nat) => cs.setIfInBounds (off + p.2) p.1) vs = us.zipIdx.foldl (fun (cs : Array Value) (p : Value × Nat) => cs.setIfInBounds (off + j0 + p.2) p.1) vs := by
  induction us with
  | nil => intro vs off j0; rfl
  | cons u r ih =>
    intro vs off j0
    simp only [List.zipIdx_cons, List.foldl_cons]
    rw [ih _ off (j0 + 1), ih _ (off + j0) (0 + 1)]
    simp only [Nat.add_assoc, Nat.zero_add, Nat.add_zero]
theorem CV.putAt (us : List AV) : ∀ {cs : List AV} {vs : Array Value} {off : Nat} {ws : List Value}, CV w O γ cs vs → us.length = ws.length → (∀ (i : Nat) (c : AV), us[i]? = some c → isCell c = true) →
    (∀ (i : Nat) (c : AV) (v : Value), us[i]? = some c → ws[i]? = some v → V w O γ c v) →
    CV w O γ (putAt cs off us) (ws.zipIdx.foldl (fun (cs : Array Value) (p : Value × Nat) => cs.setIfInBounds (off + p.2) p.1) vs) := by
  induction us with
  | nil =>
    intro cs vs off ws hc hl _ _
    cases ws with
    | nil => exact hc
    | cons _ _ => simp at hl
  | cons u r ih =>
    intro cs vs off ws hc hl hk hv
    cases ws with
    | nil => simp at hl
    | cons x t =>
      simp only [List.zipIdx_cons, List.foldl_cons, Nat.add_zero, Nat.zero_add]
      rw [foldl_put]
      exact ih (hc.set (hv 0 u x rfl rfl) (hk 0 u rfl) off) (by simpa using hl) (fun i c hi => hk (i + 1) c (by simpa using hi)) (fun i c v hi hu => hv (i + 1) c v (by simpa using hi) (by simpa using hu))
theorem putAt_length (us : List AV) : ∀ (cs : List AV) (off : Nat), (putAt cs off us).length = cs.length := by
  induction us with
  | nil => intro cs off; rfl
  | cons u r ih => intro cs off; simp [putAt, ih]
theorem zipIdx_foldl_array (vs : Array Value) (cs : Array Value) (off : Nat) :
    vs.zipIdx.foldl (fun (cs : Array Value) (p : Value × Nat) => cs.setIfInBounds (off + p.2) p.1) cs = vs.toList.zipIdx.foldl (fun (cs : Array Value) (p : Value × Nat) => cs.setIfInBounds (off + p.2) p.1) cs := by
  rw [← Array.foldl_toList, Array.toList_zipIdx]
theorem afill_sound {place : Nat → Option (Nat × Nat)} : ∀ (parts : List (Nat × AV)) (vparts : List (Nat × Value)) {cs cs' : List AV} {vs : Array Value}, CV w O γ cs vs →
    parts.length = vparts.length → (∀ (i : Nat) (p : Nat × AV) (q : Nat × Value), parts[i]? = some p → vparts[i]? = some q → p.1 = q.1 ∧ V w O γ p.2 q.2) → afill place cs parts = some cs' →
    ∃ vs', Instr.fill place vs vparts = some vs' ∧ CV w O γ cs' vs' := by
  intro parts
  induction parts with
  | nil =>
    intro vparts cs cs' vs hc hl _ e
    cases vparts with
    | nil => cases e; exact ⟨vs, rfl, hc⟩
    | cons _ _ => simp at hl
  | cons p r ih =>
    intro vparts cs cs' vs hc hl hv e
    cases vparts with
    | nil => simp at hl
    | cons q t =>
      obtain ⟨i, v⟩ := p
      obtain ⟨i', u⟩ := q
      obtain ⟨rfl, hvu⟩ := hv 0 _ _ rfl rfl
      simp only [afill] at e
      split at e
      · rename_i off size hp
        split at e
        · rename_i hcd; obtain ⟨h1, h2, h3⟩ := hcd
          have hcv := hvu.cv h2
          have hsz : u.cells.size = size := by rw [← hcv.1]; exact h1
          simp only [Instr.fill, hp]
          rw [if_neg (by simp only [ne_eq, Bool.or_eq_true, decide_eq_true_eq, not_or, Decidable.not_not]; refine ⟨hsz, ?_⟩; have := hc.1; omega)]
          refine ih t ?_ (by simpa using hl) (fun i p q hp hq => hv (i + 1) p q (by simpa using hp) (by simpa using hq)) e
          rw [zipIdx_foldl_array]
          exact CV.putAt _ hc (by simpa using hcv.1) hcv.2.1 (fun i c v hi hu => hcv.2.2 i c v hi (by simpa using hu))
        · cases e
      · cases e
theorem tzero_all {t : TypeId} {z : AV} (e : tzero P t = some z) : ∃ i zv, P.info? t = some i ∧ i.zero = some zv ∧ z = ofVal zv ∧ okVal z = true ∧ z.cells.all isCell = true := by
  unfold tzero at e
  split at e
  · rename_i i hi
    cases hzero : i.zero with
    | none => rw [hzero] at e; cases e
    | some zv =>
      rw [hzero] at e
      simp only [Option.map_some, Option.bind_some, zeroOk] at e
      split at e
      · rename_i hok
        cases e
        simp only [Bool.and_eq_true] at hok
        exact ⟨i, zv, hi, hzero, rfl, hok.1, hok.2⟩
      · cases e
  · cases e
theorem run_zeroValue {t : TypeId} {i : TypeInfo} {zv : Value} (hi : P.info? t = some i) (hz : i.zero = some zv) (w : World) : (zeroValue t).run P w = .ok zv w := by
  simp [zeroValue, typeInfo, hi, hz]
theorem run_mapM_places (fs : List Field) (hall : ∀ f ∈ fs, (P.info? f.type).isSome = true) (w : World) :
    (fs.mapM (fun f => do pure (f.offset, ← sizeOf f.type)) : Sem (List (Nat × Nat))).run P w = .ok (fs.map fun f => (f.offset, tsize P f.type)) w := by
  induction fs with
  | nil => rfl
  | cons f r ih =>
    have hf := hall f (by simp)
    cases hi : P.info? f.type with
    | none => rw [hi] at hf; cases hf
    | some i =>
      have := ih fun g hg => hall g (by simp [hg])
      simp only [List.mapM_cons, Sem.run_bind, run_sizeOf' hi, Result.andThen_ok, Sem.run_pure, this, List.map_cons]
theorem abuild_sound {t : TypeId} {parts : List (Nat × AV)} {vparts : Array (Nat × Value)} {v : AV} (hl : parts.length = vparts.size)
    (hv : ∀ (i : Nat) (p : Nat × AV) (q : Nat × Value), parts[i]? = some p → vparts[i]? = some q → p.1 = q.1 ∧ V w O γ p.2 q.2) (e : abuild P t parts = some v) :
    ∃ x, (Instr.build t vparts).run P w = .ok x w ∧ V w O γ v x := by
  unfold abuild at e
  have hv' : ∀ (i : Nat) (p : Nat × AV) (q : Nat × Value), parts[i]? = some p → vparts.toList[i]? = some q → p.1 = q.1 ∧ V w O γ p.2 q.2 := fun i p q hp hq => hv i p q hp (by simpa using hq)
  split at e
  · rename_i z pl hz hpl
    obtain ⟨i, zv, hi, hzero, rfl, hok, hcells⟩ := tzero_all hz
    have hcv : CV w O γ (ofVal zv).cells zv.cells := (ofVal_V zv hcells).cv hok
    cases hf : afill (fun i => pl[i]?) (ofVal zv).cells parts with
    | none => rw [hf] at e; cases e
    | some cs' =>
      rw [hf] at e; cases e
      obtain ⟨vs', h1, h2⟩ := afill_sound parts vparts.toList hcv (by simpa using hl) hv' hf
      refine ⟨.agg vs', ?_, .agg _ _ h2.1 h2.2.1 h2.2.2⟩
      unfold tplaces at hpl
      split at hpl
      · rename_i fs hu
        split at hpl
        · rename_i hall
          cases hpl
          have hall' : ∀ f ∈ fs.toList, (P.info? f.type).isSome = true := by
            intro f hf'
            exact (Array.all_eq_true_iff_forall_mem.1 hall) f (by simpa using hf')
          have hm : (fs.mapM (fun f => do pure (f.offset, ← sizeOf f.type)) : Sem (Array (Nat × Nat))).run P w = .ok (fs.toList.map fun f => (f.offset, tsize P f.type)).toArray w := by
            rw [Array.mapM_eq_mapM_toList]
            simp only [Sem.run_map, run_mapM_places fs.toList hall', Result.andThen_ok]
          simp only [Instr.build, Sem.run_bind, run_zeroValue hi hzero, Result.andThen_ok, run_underlying hu, hm]
          have : Instr.fill (fun x => (fs.toList.map fun f => (f.offset, tsize P f.type)).toArray[x]?) zv.cells vparts.toList = some vs' := by
            simpa using h1
          simp only [this, Sem.run_pure]
        · cases hpl
      · cases hpl
  · rename_i z n el hz hpl hta
    split at e
    · rename_i hs
      obtain ⟨i, zv, hi, hzero, rfl, hok, hcells⟩ := tzero_all hz
      have hcv : CV w O γ (ofVal zv).cells zv.cells := (ofVal_V zv hcells).cv hok
      cases hf : afill (fun i => some (i * tsize P el, tsize P el)) (ofVal zv).cells parts with
      | none => rw [hf] at e; cases e
      | some cs' =>
        rw [hf] at e; cases e
        obtain ⟨vs', h1, h2⟩ := afill_sound parts vparts.toList hcv (by simpa using hl) hv' hf
        refine ⟨.agg vs', ?_, .agg _ _ h2.1 h2.2.1 h2.2.2⟩
        simp only [Instr.build, Sem.run_bind, run_zeroValue hi hzero, Result.andThen_ok, run_underlying (tarr_iff hta), run_sizeOf_pos hs, h1, Sem.run_pure]
    · cases e
  · cases e
end
end Go.Ab
