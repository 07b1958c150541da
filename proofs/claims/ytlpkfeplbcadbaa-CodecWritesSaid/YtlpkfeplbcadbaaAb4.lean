/-
  Steps of the memory: a new object, a change of one object.
-/
import Derived.Test.YtlpkfeplbcadbaaAb3
namespace Go.Ab

/-! ### Cells written one behind the other -/
def putW (w : World) (b o : Nat) : List Value → World
  | [] => w
  | v :: r => putW (w.setCell ⟨b, o, none⟩ v) b (o + 1) r
theorem addr_add (b o n : Nat) : (⟨b, o, none⟩ : Addr).add n = ⟨b, o + n, none⟩ := by
  unfold Addr.add; split
  · rename_i h; subst h; rfl
  · rfl
theorem addr_add_some (b o n : Nat) : some ((⟨b, o, none⟩ : Addr).add n) = some ⟨b, o + n, none⟩ := by rw [addr_add]
section
variable {w : World} {b : Nat}
theorem setCell_heap_ne (v : Value) {o b' : Nat} (h : b' ≠ b) : (w.setCell ⟨b, o, none⟩ v).heap[b']? = w.heap[b']? := by
  simp only [World.setCell, Array.getElem?_modify]
  rw [if_neg (fun e => h e.symm)]
theorem setCell_heap_eq (v : Value) {o : Nat} {c : Array Value} {T : TypeId} {z : Nat × Nat} (h : w.heap[b]? = some (.cells c T z)) :
    (w.setCell ⟨b, o, none⟩ v).heap[b]? = some (.cells (c.setIfInBounds o v) T z) := by
  simp [World.setCell, Array.getElem?_modify, h]
theorem putW_heap_ne (vs : List Value) : ∀ (w : World) (o : Nat) {b' : Nat}, b' ≠ b → (putW w b o vs).heap[b']? = w.heap[b']? := by
  induction vs with
  | nil => intro w o b' _; rfl
  | cons v r ih => intro w o b' h; rw [putW, ih _ _ h, setCell_heap_ne v h]
theorem putW_size (vs : List Value) : ∀ (w : World) (o : Nat), (putW w b o vs).heap.size = w.heap.size := by
  induction vs with
  | nil => intro w o; rfl
  | cons v r ih => intro w o; rw [putW, ih]; simp [World.setCell]
theorem putW_heap_eq (vs : List Value) : ∀ (w : World) (o : Nat) (c : Array Value) (T : TypeId) (z : Nat × Nat), w.heap[b]? = some (.cells c T z) → o + vs.length ≤ c.size →
    ∃ c' : Array Value, (putW w b o vs).heap[b]? = some (.cells c' T z) ∧ c'.size = c.size ∧ (∀ i, (i < o ∨ o + vs.length ≤ i) → c'[i]? = c[i]?) ∧ ∀ j, j < vs.length → c'[o + j]? = vs[j]? := by
  induction vs with
  | nil => intro w o c T z h _; exact ⟨c, h, rfl, fun _ _ => rfl, fun j hj => by simp at hj⟩
  | cons v r ih =>
    intro w o c T z h hl
    simp only [List.length_cons] at hl
    obtain ⟨c', h1, h2, h3, h4⟩ := ih (w.setCell ⟨b, o, none⟩ v) (o + 1) _ T z (setCell_heap_eq v h) (by simp; omega)
    refine ⟨c', h1, by simpa using h2, fun i hi => ?_, fun j hj => ?_⟩
    · simp only [List.length_cons] at hi
      rw [h3 i (by omega), Array.getElem?_setIfInBounds_ne (by omega)]
    · cases j with
      | zero =>
        rw [Nat.add_zero, h3 o (by omega)]
        have : o < c.size := by omega
        simp [this]
      | succ n =>
        have := h4 n (by simpa using hj)
        rw [show o + (n + 1) = o + 1 + n by omega, this]; simp
theorem putW_other (vs : List Value) : ∀ (w : World) (o : Nat), (putW w b o vs).os = w.os ∧ (putW w b o vs).tape = w.tape ∧ (putW w b o vs).output = w.output := by
  induction vs with
  | nil => intro w o; exact ⟨rfl, rfl, rfl⟩
  | cons v r ih => intro w o; obtain ⟨h1, h2, h3⟩ := ih (w.setCell ⟨b, o, none⟩ v) (o + 1); exact ⟨h1, h2, h3⟩
theorem frozen_of_heap {w w' : World} {b : Nat} {c c' : Array Value} {T : TypeId} {z : Nat × Nat} (h : w.heap[b]? = some (.cells c T z)) (h' : w'.heap[b]? = some (.cells c' T z)) (off : Nat) :
    w'.frozen? ⟨b, off, none⟩ = w.frozen? ⟨b, off, none⟩ := by simp only [World.frozen?, h, h']
theorem putW_free (vs : List Value) {o : Nat} (h : Free w b) (hl : ∀ c T z, w.heap[b]? = some (.cells c T z) → o + vs.length ≤ c.size) : Free (putW w b o vs) b := by
  obtain ⟨c, T, z, hh, hf⟩ := h
  obtain ⟨c', h1, h2, _⟩ := putW_heap_eq vs w o c T z hh (hl c T z hh)
  exact ⟨c', T, z, h1, fun off ho => by rw [frozen_of_heap hh h1]; exact hf off (by omega)⟩
theorem putW_step (vs : List Value) {o : Nat} (h : ∃ (c : Array Value) (T : TypeId) (z : Nat × Nat), w.heap[b]? = some (Obj.cells c T z) ∧ o + vs.length ≤ c.size) : Step w (putW w b o vs) (fun x => x = b) := by
  obtain ⟨c, T, z, hh, hl⟩ := h
  obtain ⟨h1, h2, h3⟩ := putW_other (b := b) vs w o
  refine ⟨h1, h2, h3, by rw [putW_size]; exact Nat.le_refl _, fun i _ hi => putW_heap_ne vs w o hi, fun i r U y hr => ?_⟩
  by_cases e : i = b
  · subst e
    rw [hh] at hr; cases hr
    obtain ⟨c', k1, k2, _⟩ := putW_heap_eq vs w o c T z hh hl
    exact ⟨c', z, k1, k2⟩
  · exact ⟨r, y, by rw [putW_heap_ne vs w o e]; exact hr, rfl⟩
theorem cell_iff {w : World} {b : Nat} {c : Array Value} {T : TypeId} {z : Nat × Nat} (h : w.heap[b]? = some (.cells c T z)) (off : Nat) : w.cell? ⟨b, off, none⟩ = c[off]? := by
  simp [World.cell?, h]
theorem putW_cell (vs : List Value) {o : Nat} (h : ∃ (c : Array Value) (T : TypeId) (z : Nat × Nat), w.heap[b]? = some (Obj.cells c T z) ∧ o + vs.length ≤ c.size) :
    (∀ i, (i < o ∨ o + vs.length ≤ i) → (putW w b o vs).cell? ⟨b, i, none⟩ = w.cell? ⟨b, i, none⟩) ∧ ∀ j, j < vs.length → (putW w b o vs).cell? ⟨b, o + j, none⟩ = vs[j]? := by
  obtain ⟨c, T, z, hh, hl⟩ := h
  obtain ⟨c', k1, _, k3, k4⟩ := putW_heap_eq vs w o c T z hh hl
  exact ⟨fun i hi => by rw [cell_iff k1, cell_iff hh]; exact k3 i hi, fun j hj => by rw [cell_iff k1]; exact k4 j hj⟩
/-- Stores into a block that may be written. -/
theorem run_storeCells (P : Program) (vs : List Value) : ∀ (w : World) (o i : Nat), Free w b → (∀ c T z, w.heap[b]? = some (.cells c T z) → o + i + vs.length ≤ c.size) → (∀ v ∈ vs, v.oneCell' = true) →
    (storeCells ⟨b, o, none⟩ vs i).run P w = .ok () (putW w b (o + i) vs) := by
  induction vs with
  | nil => intro w o i _ _ _; rfl
  | cons v r ih =>
    intro w o i hf hl hv
    have hf' := hf
    obtain ⟨c, T, z, hh, hfz⟩ := hf'
    have hlen := hl c T z hh
    simp only [List.length_cons] at hlen
    have hlt : o + i < c.size := by omega
    have hcell : w.cell? ⟨b, o + i, none⟩ = some c[o + i] := by rw [cell_iff hh]; simp [hlt]
    rw [storeCells]
    simp only [Sem.run_bind, addr_add, run_store P w _ v .plain (hv v (by simp)), hcell, hfz _ hlt, Bool.false_eq_true, if_false, Result.andThen_ok]
    rw [ih (w.setCell ⟨b, o + i, none⟩ v) o (i + 1) ⟨_, T, z, setCell_heap_eq v hh, fun off ho => by rw [frozen_of_heap hh (setCell_heap_eq v hh)]; exact hfz off (by simpa using ho)⟩
      (fun c' T' z' hh' => by rw [setCell_heap_eq v hh] at hh'; cases hh'; simp; omega) (fun x hx => hv x (by simp [hx]))]
    rfl
theorem run_loadCells' (P : Program) (w : World) (b o n : Nat) (f : Nat → Value) (h : ∀ j, j < n → w.cell? ⟨b, o + j, none⟩ = some (f j)) :
    (loadCells ⟨b, o, none⟩ n).run P w = .ok ((List.range n).map f).toArray w :=
  run_loadCells w _ n f fun j hj => by rw [addr_add]; exact h j hj
end

/-! ### A new object -/
def Ghost.put (γ : Ghost) (id g : Nat) (p : Nat × Nat) : Ghost := fun i j => if i = id ∧ j = g then some p else γ i j
section
variable {X : Nat → Prop} {h : AHeap} {γ : Ghost} {w : World}
theorem hget_lt {h : AHeap} {id : Nat} {o : AObj} (e : hget h id = o) (ho : o ≠ .dead) : id < h.length := by
  rcases Nat.lt_or_ge id h.length with hl | hl
  · exact hl
  · simp [hget, List.getD, List.getElem?_eq_none hl] at e
    exact absurd e.symm ho
theorem ogen_lt {h : AHeap} {id g : Nat} (e : ogen (hget h id) = some g) : id < h.length :=
  hget_lt rfl (fun hd => by rw [hd] at e; cases e)
theorem hget_append_lt {h : AHeap} {o : AObj} {id : Nat} (hl : id < h.length) : hget (h ++ [o]) id = hget h id := by
  simp [hget, List.getD, List.getElem?_append_left hl]
theorem hget_append_eq {h : AHeap} {o : AObj} : hget (h ++ [o]) h.length = o := by
  simp [hget, List.getD]
theorem hget_append_gt {h : AHeap} {o : AObj} {id : Nat} (hl : h.length < id) : hget (h ++ [o]) id = .dead := by
  simp only [hget, List.getD]
  rw [List.getElem?_eq_none (by simp; omega)]; rfl
theorem R.own_lt (r : R X h γ w) {b : Nat} (ho : Own h γ b) : b < w.heap.size := by
  obtain ⟨id, g, o, h1, h2⟩ := ho
  have := r.obj id
  cases hg : hget h id with
  | dead => rw [hg] at h1; cases h1
  | vars cs =>
    rw [hg] at h1 this; simp [ogen] at h1; subst h1
    obtain ⟨b', o', e, ⟨c, T, z, hh, _⟩, _⟩ := this
    rw [h2] at e; cases e
    exact (Array.getElem?_eq_some_iff.1 hh).1
  | arr k es g' =>
    rw [hg] at h1 this; simp [ogen] at h1; subst h1
    obtain ⟨b', o', e, ⟨c, T, z, hh, _⟩, _⟩ := this
    rw [h2] at e; cases e
    exact (Array.getElem?_eq_some_iff.1 hh).1
  | frz k es g' => rw [hg] at h1; cases h1
theorem RowIs.mono {w' : World} {O O' : Nat → Prop} {γ' : Ghost} {b o k : Nat} {es : List AV} (hr : RowIs w O γ b o k es) (s : Sees w O γ w' O' γ')
    (hc : ∀ off, w'.cell? ⟨b, off, none⟩ = w.cell? ⟨b, off, none⟩) : RowIs w' O' γ' b o k es :=
  ⟨hr.1, fun i j e c he hj => by
    obtain ⟨h1, v, h2, h3⟩ := hr.2 i j e c he hj
    exact ⟨h1, v, by rw [hc]; exact h2, h3.mono s⟩⟩
/-- An object that a step leaves alone. -/
theorem OkObj.keep {w' : World} {O O' : Nat → Prop} {γ' : Ghost} {id : Nat} {o : AObj} (hk : OkObj w O γ id o) (s : Sees w O γ w' O' γ')
    (hb : ∀ g b p, γ id g = some (b, p) → ogen o = some g → w'.heap[b]? = w.heap[b]?) : OkObj w' O' γ' id o := by
  have free : ∀ b, Free w b → w'.heap[b]? = w.heap[b]? → Free w' b := by
    rintro b ⟨c, T, z, hh, hf⟩ e
    rw [hh] at e
    exact ⟨c, T, z, e, fun off ho => by rw [frozen_of_heap hh e]; exact hf off ho⟩
  cases o with
  | dead => trivial
  | vars cs =>
    obtain ⟨b, o, h1, h2, h3⟩ := hk
    have e := hb _ b o h1 rfl
    exact ⟨b, o, s.ext _ _ _ h1, free b h2 e, fun j c hj => by
      obtain ⟨k1, v, k2, k3⟩ := h3 j c hj
      exact ⟨k1, v, by rw [cell?_of_heap e]; exact k2, k3.mono s⟩⟩
  | arr k es g =>
    obtain ⟨b, o, h1, h2, h3⟩ := hk
    have e := hb _ b o h1 rfl
    exact ⟨b, o, s.ext _ _ _ h1, free b h2 e, h3.mono s (cell?_of_heap e)⟩
  | frz k es g =>
    obtain ⟨b, o, h1, h2, h3⟩ := hk
    refine ⟨b, o, s.ext _ _ _ h1, ⟨h2.1, fun i j e c he hj => ?_⟩, fun i j e c he hj => ?_⟩
    · obtain ⟨k1, v, k2, k3⟩ := h2.2 i j e c he hj
      exact ⟨k1, v, (s.cell _ _ _ (h3 i j e c he hj) k2).2, k3.mono s⟩
    · obtain ⟨k1, v, k2, k3⟩ := h2.2 i j e c he hj
      exact (s.cell _ _ _ (h3 i j e c he hj) k2).1
/-- What lies in a new object, told of the world ahead of it. -/
def NewIs (w : World) (O : Nat → Prop) (γ : Ghost) (c : Array Value) : AObj → Prop
  | .vars cs => ∀ (j : Nat) (x : AV), cs[j]? = some x → isCell x = true ∧ ∃ v, c[j]? = some v ∧ V w O γ x v
  | .arr k es g => g = 0 ∧ (∀ (i : Nat) (e : AV), es[i]? = some e → okVal e = true ∧ e.cells.length = k) ∧
      ∀ (i j : Nat) (e x : AV), es[i]? = some e → e.cells[j]? = some x → isCell x = true ∧ ∃ v, c[i * k + j]? = some v ∧ V w O γ x v
  | _ => False
theorem NewIs.gen {O : Nat → Prop} {c : Array Value} {o : AObj} (hn : NewIs w O γ c o) : ogen o = some 0 := by
  cases o with
  | vars cs => rfl
  | arr k es g => obtain ⟨rfl, _⟩ := hn; rfl
  | dead => cases hn
  | frz _ _ _ => cases hn
theorem alloc_goes (r : R X h γ w) {w' : World} {c : Array Value} {T : TypeId} {z : Nat × Nat} {o : AObj} (hw : w'.heap = w.heap.push (.cells c T z))
    (h1 : w'.os = w.os) (h2 : w'.tape = w.tape) (h3 : w'.output = w.output) (hz : ∀ off, off < c.size → ¬ (z.1 ≤ off ∧ off < z.2)) (hn : NewIs w (Ow X h γ) γ c o) :
    Goes X h γ w (h ++ [o]) (γ.put h.length 0 (w.heap.size, 0)) w' := by
  have hnone : ∀ j, γ h.length j = none := fun j => by
    cases e : γ h.length j with
    | none => rfl
    | some p => exact absurd (r.dom _ _ _ e) (Nat.lt_irrefl _)
  have hext : ∀ id g p, γ id g = some p → (γ.put h.length 0 (w.heap.size, 0)) id g = some p := by
    intro id g p e
    unfold Ghost.put
    rw [if_neg]
    · exact e
    · rintro ⟨rfl, rfl⟩; rw [hnone] at e; cases e
  have hold : ∀ b, b < w.heap.size → w'.heap[b]? = w.heap[b]? := fun b hb => by rw [hw, Array.getElem?_push, if_neg (by omega)]
  have hnew : w'.heap[w.heap.size]? = some (.cells c T z) := by rw [hw]; simp
  have hown : ∀ b, Own (h ++ [o]) (γ.put h.length 0 (w.heap.size, 0)) b → Own h γ b ∨ b = w.heap.size := by
    rintro b ⟨id, g, p, e1, e2⟩
    by_cases hl : id < h.length
    · rw [hget_append_lt hl] at e1
      unfold Ghost.put at e2
      rw [if_neg (fun e => by omega)] at e2
      exact .inl ⟨id, g, p, e1, e2⟩
    · by_cases he : id = h.length
      · subst he
        rw [hget_append_eq, hn.gen] at e1; cases e1
        unfold Ghost.put at e2
        rw [if_pos ⟨rfl, rfl⟩] at e2
        cases e2; exact .inr rfl
      · rw [hget_append_gt (by omega)] at e1; cases e1
  have hstep : Step w w' (fun _ => False) := ⟨h1, h2, h3, by rw [hw]; simp, fun b hb _ => hold b hb, fun b c' T' z' hh => ⟨c', z', by rw [hold b (Array.getElem?_eq_some_iff.1 hh).1]; exact hh, rfl⟩⟩
  have hsees : Sees w (Ow X h γ) γ w' (Ow X (h ++ [o]) (γ.put h.length 0 (w.heap.size, 0))) (γ.put h.length 0 (w.heap.size, 0)) := by
    refine ⟨hext, fun b off v hO hv => ?_, hstep.row⟩
    have hlt := lt_of_cell hv
    refine ⟨?_, by rw [cell?_of_heap (hold b hlt)]; exact hv⟩
    rintro (hx | ho)
    · exact hO (.inl hx)
    · rcases hown b ho with ho | rfl
      · exact hO (.inr ho)
      · omega
  have hfree : Free w' w.heap.size := ⟨c, T, z, hnew, fun off ho => by
    have := hz off ho
    simp only [World.frozen?, hnew]
    simp only [Bool.and_eq_false_iff, decide_eq_false_iff_not]
    omega⟩
  have hg0 : (γ.put h.length 0 (w.heap.size, 0)) h.length 0 = some (w.heap.size, 0) := by simp [Ghost.put]
  refine ⟨⟨?_, ?_, ?_, ?_, ?_, ?_⟩, hext, ?_, ?_⟩
  · intro id g p e
    unfold Ghost.put at e
    split at e
    · rename_i hc; obtain ⟨rfl, _⟩ := hc; simp
    · have := r.dom id g p e; simp; omega
  · intro id k es g g' p e e2
    unfold Ghost.put at e2
    split at e2
    · rename_i hc; obtain ⟨_, rfl⟩ := hc; exact Nat.zero_le _
    · have hl := r.dom id g' p e2
      rw [hget_append_lt hl] at e
      exact r.gens id k es g g' p e e2
  · intro id
    by_cases hl : id < h.length
    · rw [hget_append_lt hl]
      exact (r.obj id).keep hsees fun g b p e1 e2 => hold b (r.own_lt ⟨id, g, p, e2, e1⟩)
    · by_cases he : id = h.length
      · subst he
        rw [hget_append_eq]
        cases o with
        | dead => trivial
        | vars cs =>
          exact ⟨w.heap.size, 0, hg0, hfree, fun j x hj => by
            obtain ⟨k1, v, k2, k3⟩ := hn j x hj
            exact ⟨k1, v, by rw [cell_iff hnew, Nat.zero_add]; exact k2, k3.mono hsees⟩⟩
        | arr k es g =>
          obtain ⟨rfl, hk, hc⟩ := hn
          exact ⟨w.heap.size, 0, hg0, hfree, hk, fun i j e x he hj => by
            obtain ⟨k1, v, k2, k3⟩ := hc i j e x he hj
            exact ⟨k1, v, by rw [cell_iff hnew, Nat.zero_add]; exact k2, k3.mono hsees⟩⟩
        | frz _ _ _ => cases hn
      · rw [hget_append_gt (by omega)]; trivial
  · intro id id' g g' b p p' e1 e2 e3 e4
    have aux : ∀ id g p, ogen (hget (h ++ [o]) id) = some g → (γ.put h.length 0 (w.heap.size, 0)) id g = some (b, p) → (id < h.length ∧ ogen (hget h id) = some g ∧ γ id g = some (b, p)) ∨ (id = h.length ∧ b = w.heap.size) := by
      intro id g p e1 e2
      by_cases hl : id < h.length
      · rw [hget_append_lt hl] at e1
        unfold Ghost.put at e2
        rw [if_neg (fun e => by omega)] at e2
        exact .inl ⟨hl, e1, e2⟩
      · by_cases he : id = h.length
        · subst he
          rw [hget_append_eq, hn.gen] at e1; cases e1
          unfold Ghost.put at e2
          rw [if_pos ⟨rfl, rfl⟩] at e2
          cases e2; exact .inr ⟨rfl, rfl⟩
        · rw [hget_append_gt (by omega)] at e1; cases e1
    rcases aux id g p e1 e2 with ⟨l1, a1, a2⟩ | ⟨rfl, hb⟩ <;> rcases aux id' g' p' e3 e4 with ⟨l2, b1, b2⟩ | ⟨rfl, hb'⟩
    · exact r.inj _ _ _ _ _ _ _ a1 a2 b1 b2
    · have := r.own_lt ⟨id, g, p, a1, a2⟩; omega
    · have := r.own_lt ⟨id', g', p', b1, b2⟩; omega
    · rfl
  · intro b ho hx
    rcases hown b ho with ho | rfl
    · exact r.apart b ho hx
    · exact absurd (r.xin _ hx) (Nat.lt_irrefl _)
  · intro b hx
    exact Nat.lt_of_lt_of_le (r.xin b hx) hstep.size
  · exact ⟨h1, h2, h3, hstep.size, fun b hb _ => hold b hb, hstep.row⟩
  · intro b hb ho
    rcases hown b ho with ho | rfl
    · exact ho
    · omega
theorem hget_set_ne {h : AHeap} {id id' : Nat} {o : AObj} (hne : id ≠ id') : hget (h.set id o) id' = hget h id' := by
  simp [hget, List.getD, List.getElem?_set_ne hne]
theorem hget_set_eq {h : AHeap} {id : Nat} {o : AObj} (hl : id < h.length) : hget (h.set id o) id = o := by
  simp [hget, List.getD, hl]
/-- A change of one object. -/
theorem change_goes (r : R X h γ w) {id g b p : Nat} (hg : ogen (hget h id) = some g) (hγ : γ id g = some (b, p)) {o' : AObj} {γ' : Ghost} {w' : World}
    (hext : ∀ i j q, γ i j = some q → γ' i j = some q) (hback : ∀ i j q, γ' i j = some q → γ i j = some q ∨ (i = id ∧ ogen o' = some j))
    (hstep : Step w w' (fun x => x = b)) (hown : ∀ g' b' p', ogen o' = some g' → γ' id g' = some (b', p') → b' = b ∨ w.heap.size ≤ b')
    (hgens : ∀ k es g', o' = .arr k es g' → ∀ j q, γ' id j = some q → j ≤ g')
    (hok : Sees w (Ow X h γ) γ w' (Ow X (h.set id o') γ') γ' → OkObj w' (Ow X (h.set id o') γ') γ' id o') : Goes X h γ w (h.set id o') γ' w' := by
  have hl : id < h.length := ogen_lt hg
  have hOb : Own h γ b := ⟨id, g, p, hg, hγ⟩
  have aux : ∀ i j x q, ogen (hget (h.set id o') i) = some j → γ' i j = some (x, q) → (i ≠ id ∧ ogen (hget h i) = some j ∧ γ i j = some (x, q)) ∨ (i = id ∧ (x = b ∨ w.heap.size ≤ x)) := by
    intro i j x q e1 e2
    by_cases hi : i = id
    · subst hi
      rw [hget_set_eq hl] at e1
      exact .inr ⟨rfl, hown _ _ _ e1 e2⟩
    · rw [hget_set_ne (fun e => hi e.symm)] at e1
      rcases hback _ _ _ e2 with e | ⟨e, _⟩
      · exact .inl ⟨hi, e1, e⟩
      · exact absurd e hi
  have hfresh : ∀ x, x < w.heap.size → Own (h.set id o') γ' x → Own h γ x := by
    rintro x hx ⟨i, j, q, e1, e2⟩
    rcases aux i j x q e1 e2 with ⟨_, a1, a2⟩ | ⟨rfl, rfl | hge⟩
    · exact ⟨i, j, q, a1, a2⟩
    · exact hOb
    · omega
  have hsees : Sees w (Ow X h γ) γ w' (Ow X (h.set id o') γ') γ' := by
    refine ⟨hext, fun x off v hO hv => ?_, hstep.row⟩
    have hlt := lt_of_cell hv
    have hne : x ≠ b := fun e => hO (.inr (e ▸ hOb))
    refine ⟨?_, by rw [cell?_of_heap (hstep.keep x hlt hne)]; exact hv⟩
    rintro (hx | ho)
    · exact hO (.inl hx)
    · exact hO (.inr (hfresh x hlt ho))
  refine ⟨⟨?_, ?_, ?_, ?_, ?_, ?_⟩, hext, ?_, hfresh⟩
  · intro i j q e
    rcases hback _ _ _ e with e | ⟨rfl, _⟩
    · simpa using r.dom _ _ _ e
    · simpa using hl
  · intro i k es g1 j q e1 e2
    by_cases hi : i = id
    · subst hi
      rw [hget_set_eq hl] at e1
      exact hgens k es g1 e1 j q e2
    · rw [hget_set_ne (fun e => hi e.symm)] at e1
      rcases hback _ _ _ e2 with e | ⟨e, _⟩
      · exact r.gens _ _ _ _ _ _ e1 e
      · exact absurd e hi
  · intro i
    by_cases hi : i = id
    · subst hi; rw [hget_set_eq hl]; exact hok hsees
    · rw [hget_set_ne (fun e => hi e.symm)]
      refine (r.obj i).keep hsees fun j x q e1 e2 => hstep.keep x (r.own_lt ⟨i, j, q, e2, e1⟩) fun e => ?_
      subst e
      exact hi (r.inj _ _ _ _ _ _ _ e2 e1 hg hγ)
  · intro i i' j j' x q q' e1 e2 e3 e4
    rcases aux i j x q e1 e2 with ⟨n1, a1, a2⟩ | ⟨rfl, hx⟩ <;> rcases aux i' j' x q' e3 e4 with ⟨n2, b1, b2⟩ | ⟨rfl, hx'⟩
    · exact r.inj _ _ _ _ _ _ _ a1 a2 b1 b2
    · rcases hx' with rfl | hx'
      · exact absurd (r.inj _ _ _ _ _ _ _ a1 a2 hg hγ) n1
      · have := r.own_lt ⟨i, j, q, a1, a2⟩; omega
    · rcases hx with rfl | hx
      · exact absurd (r.inj _ _ _ _ _ _ _ b1 b2 hg hγ) n2
      · have := r.own_lt ⟨i', j', q', b1, b2⟩; omega
    · rfl
  · rintro x ⟨i, j, q, e1, e2⟩ hx
    rcases aux i j x q e1 e2 with ⟨_, a1, a2⟩ | ⟨rfl, rfl | hge⟩
    · exact r.apart x ⟨i, j, q, a1, a2⟩ hx
    · exact r.apart _ hOb hx
    · have := r.xin x hx; omega
  · intro x hx; exact Nat.lt_of_lt_of_le (r.xin x hx) hstep.size
  · exact ⟨hstep.os, hstep.tape, hstep.output, hstep.size, fun x hx hn => hstep.keep x hx fun e => hn (e ▸ hOb), hstep.row⟩
end
end Go.Ab
