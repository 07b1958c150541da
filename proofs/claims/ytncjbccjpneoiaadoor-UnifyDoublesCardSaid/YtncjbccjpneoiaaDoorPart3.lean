/- Parts of the proof, each with its own heading: Each operation of the abstract machine is one of the model's: new memory, stores. Each operation of the abstract machine is one of the model's: stores, conversions, append, copy. Each operation of the abstract machine is one of the model's: conversions, append, copy, len. Each operation of the abstract machine is one of the model's: all of them. -/
import Derived.Test.YtncjbccjpneoiaaDoorPart2
import Derived.IntWalk
set_option linter.unusedSimpArgs false
set_option linter.unusedVariables false
namespace Go.Ab
set_option linter.unusedSimpArgs false
set_option linter.unusedVariables false
section
variable {P : Program} {X O : Nat → Prop} {h : AHeap} {γ : Ghost} {w : World}

theorem idle_goes (r : R X h γ w) {w' : World} {o : Obj} (hw : w'.heap = w.heap.push o) (h1 : w'.os = w.os) (h2 : w'.tape = w.tape) (h3 : w'.output = w.output) : Goes X h γ w h γ w' := by
  have hold : ∀ b, b < w.heap.size → w'.heap[b]? = w.heap[b]? := fun b hb => by rw [hw, Array.getElem?_push, if_neg (by omega)]
  have hstep : Step w w' (Own h γ) := ⟨h1, h2, h3, by rw [hw]; simp, fun b hb _ => hold b hb, fun b c' T' z' hh => ⟨c', z', by rw [hold b (Array.getElem?_eq_some_iff.1 hh).1]; exact hh, rfl⟩⟩
  have hsees : Sees w (Ow X h γ) γ w' (Ow X h γ) γ := ⟨fun _ _ _ e => e, fun b off v hO hv => ⟨hO, by rw [cell?_of_heap (hold b (lt_of_cell hv))]; exact hv⟩, hstep.row⟩
  exact ⟨⟨r.dom, r.gens, fun id => (r.obj id).keep hsees fun g b p e1 e2 => hold b (r.own_lt ⟨id, g, p, e2, e1⟩), r.inj, r.apart, fun b hb => Nat.lt_of_lt_of_le (r.xin b hb) hstep.size, r.dd⟩,
    fun _ _ _ e => e, hstep, fun _ _ e => e⟩
theorem drew_goes (r : R X h γ w) : Goes X h γ w h γ w.drew :=
  ⟨⟨r.dom, r.gens, fun id => (r.obj id).keep ⟨fun _ _ _ e => e, fun _ _ _ hO hv => ⟨hO, hv⟩, fun _ c _ z hh => ⟨c, z, hh, rfl⟩⟩ fun _ _ _ _ _ => rfl, r.inj, r.apart, r.xin, r.dd⟩,
    fun _ _ _ e => e, ⟨rfl, rfl, rfl, Nat.le_refl _, fun _ _ _ => rfl, fun _ c _ z hh => ⟨c, z, hh, rfl⟩⟩, fun _ _ e => e⟩

/-! ### Rows -/
def putV (vs : Array Value) (off : Nat) (us : List Value) : Array Value := us.zipIdx.foldl (fun (cs : Array Value) (p : Value × Nat) => cs.setIfInBounds (off + p.2) p.1) vs
theorem putV_cons (vs : Array Value) (off : Nat) (u : Value) (us : List Value) : putV vs off (u :: us) = putV (vs.setIfInBounds off u) (off + 1) us := by
  unfold putV
  simp only [List.zipIdx_cons, List.foldl_cons, Nat.add_zero, Nat.zero_add]
  rw [foldl_put]
theorem putV_size (us : List Value) : ∀ (vs : Array Value) (off : Nat), (putV vs off us).size = vs.size := by
  induction us with
  | nil => intro vs off; rfl
  | cons u r ih => intro vs off; rw [putV_cons, ih]; simp
theorem putV_other (us : List Value) : ∀ (vs : Array Value) (off m : Nat), (m < off ∨ off + us.length ≤ m) → (putV vs off us)[m]? = vs[m]? := by
  induction us with
  | nil => intro vs off m _; rfl
  | cons u r ih =>
    intro vs off m hm
    simp only [List.length_cons] at hm
    rw [putV_cons, ih _ _ _ (by omega), Array.getElem?_setIfInBounds_ne (by omega)]
theorem putV_at (us : List Value) : ∀ (vs : Array Value) (off j : Nat), j < us.length → off + us.length ≤ vs.size → (putV vs off us)[off + j]? = us[j]? := by
  induction us with
  | nil => intro vs off j hj; simp at hj
  | cons u r ih =>
    intro vs off j hj hs
    simp only [List.length_cons] at hj hs
    rw [putV_cons]
    cases j with
    | zero =>
      rw [Nat.add_zero, putV_other _ _ _ _ (by omega)]
      have : off < vs.size := by omega
      simp [this]
    | succ n =>
      have := ih (vs.setIfInBounds off u) (off + 1) n (by omega) (by simp; omega)
      rw [show off + (n + 1) = off + 1 + n by omega, this]
      simp
def RowV (w : World) (O : Nat → Prop) (γ : Ghost) (k : Nat) (es : List AV) (vs : Array Value) : Prop :=
  es.length * k ≤ vs.size ∧ (∀ (i : Nat) (e : AV), es[i]? = some e → okVal e = true ∧ e.cells.length = k) ∧
    ∀ (i j : Nat) (e c : AV), es[i]? = some e → e.cells[j]? = some c → isCell c = true ∧ ∃ v, vs[i * k + j]? = some v ∧ V w O γ c v
theorem slot_lt {i n k j : Nat} (hi : i < n) (hj : j < k) : i * k + j < n * k := by
  have : (i + 1) * k ≤ n * k := Nat.mul_le_mul_right k hi
  rw [Nat.add_mul] at this
  omega
theorem RowV.set {k : Nat} {es : List AV} {vs : Array Value} (hr : RowV w O γ k es vs) {i : Nat} (hi : i < es.length) {a : AV} {u : Value} (ha : V w O γ a u) (hk : okVal a = true) (hl : a.cells.length = k) :
    RowV w O γ k (es.set i a) (putV vs (i * k) u.cells.toList) := by
  have hcv := ha.cv hk
  have hsz : u.cells.toList.length = k := by simpa using hcv.1.symm.trans hl
  have hfit : i * k + k ≤ vs.size := by
    have h1 := hr.1
    have h2 : (i + 1) * k ≤ es.length * k := Nat.mul_le_mul_right k hi
    rw [Nat.add_mul] at h2
    omega
  refine ⟨by rw [List.length_set, putV_size]; exact hr.1, fun m e he => ?_, fun m j e c he hj => ?_⟩
  · by_cases e1 : i = m
    · subst e1; rw [List.getElem?_set_self (by omega)] at he; cases he; exact ⟨hk, hl⟩
    · rw [List.getElem?_set_ne e1] at he; exact hr.2.1 m e he
  · by_cases e1 : i = m
    · subst e1
      rw [List.getElem?_set_self (by omega)] at he; cases he
      have hjk : j < k := by have := (List.getElem?_eq_some_iff.1 hj).1; omega
      refine ⟨hcv.2.1 _ _ hj, ?_⟩
      have hju : j < u.cells.size := by rw [← hcv.1]; omega
      refine ⟨u.cells[j], ?_, hcv.2.2 _ _ _ hj (by simp [hju])⟩
      rw [putV_at _ _ _ _ (by omega) (by omega)]
      simp [hju]
    · rw [List.getElem?_set_ne e1] at he
      obtain ⟨h1, v, h2, h3⟩ := hr.2.2 m j e c he hj
      have hjk : j < k := by have := (List.getElem?_eq_some_iff.1 hj).1; rw [(hr.2.1 m e he).2] at this; exact this
      refine ⟨h1, v, ?_, h3⟩
      rw [putV_other _ _ _ _ ?_]
      · exact h2
      · rw [hsz]
        rcases Nat.lt_or_gt_of_ne e1 with hlt | hgt
        · right
          have := Nat.mul_le_mul_right k hlt
          rw [Nat.succ_mul] at this
          omega
        · left; exact slot_lt hgt hjk
theorem RowV.replicate {k n : Nat} {z : AV} {zv : Value} {vs : Array Value} (hz : V w O γ z zv) (hok : okVal z = true) (hl : z.cells.length = k) (hsz : n * k ≤ vs.size)
    (hv : ∀ i j, i < n → j < k → vs[i * k + j]? = zv.cells[j]?) : RowV w O γ k (List.replicate n z) vs := by
  have hcv := hz.cv hok
  refine ⟨by simpa using hsz, fun i e he => ?_, fun i j e c he hj => ?_⟩
  · have := (List.mem_replicate.1 (List.mem_of_getElem? he)).2; subst this; exact ⟨hok, hl⟩
  · have hi : i < n := by have := (List.getElem?_eq_some_iff.1 he).1; simpa using this
    have := (List.mem_replicate.1 (List.mem_of_getElem? he)).2; subst this
    have hjk : j < k := by have := (List.getElem?_eq_some_iff.1 hj).1; omega
    have hju : j < zv.cells.size := by rw [← hcv.1]; omega
    exact ⟨hcv.2.1 _ _ hj, zv.cells[j], by rw [hv i j hi hjk]; simp [hju], hcv.2.2 _ _ _ hj (by simp [hju])⟩
theorem zeros_at (zero : Array Value) (k n m : Nat) (hk : zero.size = k) (h0 : 0 < k) (hm : m < n) : ((Array.range n).map (zero[· % zero.size]!))[m]? = zero[m % k]? := by
  have hlt : m % k < zero.size := by rw [hk]; exact Nat.mod_lt _ h0
  rw [Array.getElem?_map, Array.getElem?_eq_getElem hlt]
  have e : (Array.range n)[m]? = some m := by simp [hm]
  rw [e]
  simp only [Option.map_some, hk]
  rw [getElem!_pos zero (m % k) hlt]
theorem range0 (f : Nat → Value) : (Array.range 0).map f = #[] := by apply Array.ext'; simp
theorem afillS_sound {k : Nat} (hkp : 0 < k) : ∀ (parts : List (Nat × AV)) (vparts : List (Nat × Value)) {es es' : List AV} {vs : Array Value}, RowV w O γ k es vs →
    parts.length = vparts.length → (∀ (i : Nat) (p : Nat × AV) (q : Nat × Value), parts[i]? = some p → vparts[i]? = some q → p.1 = q.1 ∧ V w O γ p.2 q.2) → afillS k es parts = some es' →
    ∃ vs', Instr.fill (fun i => some (i * k, k)) vs vparts = some vs' ∧ RowV w O γ k es' vs' ∧ vs'.size = vs.size ∧ es'.length = es.length := by
  intro parts
  induction parts with
  | nil =>
    intro vparts es es' vs hr hl _ e
    cases vparts with
    | nil => cases e; exact ⟨vs, rfl, hr, rfl, rfl⟩
    | cons _ _ => simp at hl
  | cons p r ih =>
    intro vparts es es' vs hr hl hv e
    cases vparts with
    | nil => simp at hl
    | cons q t =>
      obtain ⟨i, v⟩ := p
      obtain ⟨i', u⟩ := q
      obtain ⟨rfl, hvu⟩ := hv 0 _ _ rfl rfl
      simp only [afillS] at e
      split at e
      · rename_i hcd; obtain ⟨h1, h2, h3⟩ := hcd
        have hcv := hvu.cv h2
        have hsz : u.cells.size = k := by rw [← hcv.1]; exact h1
        have hfit : i * k + k ≤ vs.size := by
          have h4 := hr.1
          have h5 : (i + 1) * k ≤ es.length * k := Nat.mul_le_mul_right k h3
          rw [Nat.add_mul] at h5
          omega
        simp only [Instr.fill]
        rw [if_neg (by simp only [ne_eq, Bool.or_eq_true, decide_eq_true_eq, not_or, Decidable.not_not]; exact ⟨hsz, by omega⟩)]
        obtain ⟨vs', a1, a2, a3, a4⟩ := ih t (hr.set h3 hvu h2 h1) (by simpa using hl) (fun i p q hp hq => hv (i + 1) p q (by simpa using hp) (by simpa using hq)) e
        refine ⟨vs', ?_, a2, by rw [a3, putV_size], by rw [a4]; simp⟩
        rw [zipIdx_foldl_array]
        exact a1
      · cases e
theorem new_slc (r : R X h γ w) {w' : World} {k : Nat} {es : List AV} {vs : Array Value} {T : TypeId} {z : Nat × Nat} (hw : w'.heap = w.heap.push (.cells vs T z)) (g : Goes X h γ w h γ w')
    (hr : RowV w (Ow X h γ) γ k es vs) : V w' (Ow X h γ) γ (.slc true es) (.slice (some ⟨w.heap.size, 0, none⟩) es.length es.length) := by
  have hnew : w'.heap[w.heap.size]? = some (.cells vs T z) := by rw [hw]; simp
  refine .slc true es _ _ _ k (fun i j => (vs[i * k + j]?).getD undef) (Nat.le_refl _) (fun _ => rfl) hr.2.1 (fun i j e c he hj => ?_) (fun i j e c he hj => ?_)
  · obtain ⟨h1, v, h2, h3⟩ := hr.2.2 i j e c he hj
    refine ⟨h1, ?_, ?_⟩
    · rintro (hx | ho)
      · exact absurd (r.xin _ hx) (Nat.lt_irrefl _)
      · exact absurd (r.own_lt ho) (Nat.lt_irrefl _)
    · rw [cell_iff hnew, Nat.zero_add, h2]; rfl
  · obtain ⟨h1, v, h2, h3⟩ := hr.2.2 i j e c he hj
    rw [h2]; exact h3.goes g
theorem abuildSlice_sound (r : R X h γ w) {t : TypeId} {len : Nat} {parts : List (Nat × AV)} {vparts : Array (Nat × Value)} {v : AV} (hl : parts.length = vparts.size)
    (hv : ∀ (i : Nat) (p : Nat × AV) (q : Nat × Value), parts[i]? = some p → vparts[i]? = some q → p.1 = q.1 ∧ V w (Ow X h γ) γ p.2 q.2) (e : abuildSlice P t len parts = some v) :
    ∃ x w', (Instr.buildSlice t len vparts).run P w = .ok x w' ∧ Goes X h γ w h γ w' ∧ V w' (Ow X h γ) γ v x := by
  unfold abuildSlice at e
  have hv' : ∀ (i : Nat) (p : Nat × AV) (q : Nat × Value), parts[i]? = some p → vparts.toList[i]? = some q → p.1 = q.1 ∧ V w (Ow X h γ) γ p.2 q.2 := fun i p q hp hq => hv i p q hp (by simpa using hq)
  split at e
  · rename_i k bb z hsl
    split at e
    · rename_i hsmall
      obtain ⟨el, i, zv, hu, hi, hzero, rfl, rfl, rfl, hk0, hb0, hzl, hok, hcells⟩ := tslice_all hsl
      cases hf : afillS i.size (List.replicate len (ofVal zv)) parts with
      | none => rw [hf] at e; cases e
      | some es' =>
        rw [hf] at e; cases e
        have hzV : V w (Ow X h γ) γ (ofVal zv) zv := ofVal_V zv hcells
        have hzs : zv.cells.size = i.size := by rw [← (hzV.cv hok).1]; exact hzl
        have hsize : (sizeOf el).run P w = .ok i.size w := by simp [sizeOf, typeInfo, hi]
        by_cases hlen : len = 0
        · subst hlen
          obtain ⟨vs', a1, a2, a3, a4⟩ := afillS_sound (w := w) (O := Ow X h γ) (γ := γ) hk0 parts vparts.toList (vs := #[]) (es := []) ⟨by simp, fun i e he => by simp at he, fun i j e c he => by simp at he⟩ (by simpa using hl) hv' (by simpa using hf)
          have hg := idle_goes r (w' := w.alloc (.cells vs' el)) (o := .cells vs' el) rfl rfl rfl rfl
          refine ⟨.slice (some ⟨w.heap.size, 0, none⟩) 0 0, w.alloc (.cells vs' el), ?_, hg, ?_⟩
          · simp only [Instr.buildSlice, Sem.run_bind, run_underlying hu, Result.andThen_ok, hsize, Nat.zero_mul, if_true, Sem.run_pure, range0, a1, newRow, run_newObj]
            rw [if_neg (by omega)]
            simp only [Sem.run_pure, Result.andThen_ok, range0, a1, Sem.run_bind, run_newObj]
            rfl
          · have := new_slc r rfl hg a2
            rw [a4] at this
            exact this
        · have hpos : 0 < len * i.size := Nat.mul_pos (by omega) hk0
          have hrow : RowV w (Ow X h γ) γ i.size (List.replicate len (ofVal zv)) ((Array.range (len * i.size)).map (zv.cells[· % zv.cells.size]!)) := by
            refine RowV.replicate hzV hok hzl (by simp) fun a b ha hb => ?_
            rw [zeros_at _ i.size _ _ hzs hk0 (slot_lt ha hb), Nat.mul_comm, Nat.mul_add_mod, Nat.mod_eq_of_lt hb]
          obtain ⟨vs', a1, a2, a3, a4⟩ := afillS_sound hk0 parts vparts.toList hrow (by simpa using hl) hv' hf
          have hg := idle_goes r (w' := w.alloc (.cells vs' el)) (o := .cells vs' el) rfl rfl rfl rfl
          have hlen' : es'.length = len := by rw [a4]; simp
          refine ⟨.slice (some ⟨w.heap.size, 0, none⟩) len len, w.alloc (.cells vs' el), ?_, hg, ?_⟩
          · have hns : ¬ (len * i.size > 2 ^ 24) := by omega
            have hn0 : ¬ (len * i.size = 0) := by omega
            simp only [Instr.buildSlice, Sem.run_bind, run_underlying hu, Result.andThen_ok, hsize, if_neg hns, if_neg hn0, Sem.run_pure, run_zeroValue hi hzero, a1, newRow, run_newObj]
            rfl
          · have := new_slc r rfl hg a2
            rw [hlen'] at this
            exact this
    · cases e
  · cases e
theorem abuildOwn_sound (r : R X h γ w) {t : TypeId} {len : Nat} {parts : List (Nat × AV)} {vparts : Array (Nat × Value)} {v : AV} {h' : AHeap} (hl : parts.length = vparts.size)
    (hv : ∀ (i : Nat) (p : Nat × AV) (q : Nat × Value), parts[i]? = some p → vparts[i]? = some q → p.1 = q.1 ∧ V w (Ow X h γ) γ p.2 q.2) (e : abuildOwn P t h len parts = some (v, h')) :
    ∃ x w' γ', (Instr.buildSlice t len vparts).run P w = .ok x w' ∧ Goes X h γ w h' γ' w' ∧ V w' (Ow X h' γ') γ' v x := by
  unfold abuildOwn at e
  by_cases hz : len = 0
  · rw [if_pos hz] at e
    obtain ⟨v', e1, e2⟩ := Option.map_eq_some_iff.1 e
    cases e2
    obtain ⟨x, w', a, b, c⟩ := abuildSlice_sound r hl hv e1
    exact ⟨x, w', γ, a, b, c⟩
  rw [if_neg hz] at e
  have hv' : ∀ (i : Nat) (p : Nat × AV) (q : Nat × Value), parts[i]? = some p → vparts.toList[i]? = some q → p.1 = q.1 ∧ V w (Ow X h γ) γ p.2 q.2 := fun i p q hp hq => hv i p q hp (by simpa using hq)
  split at e
  · rename_i k bb z hsl
    split at e
    · rename_i hsmall
      obtain ⟨hsmall, hlen0⟩ := hsmall
      obtain ⟨el, i, zv, hu, hi, hzero, rfl, rfl, rfl, hk0, hb0, hzl, hok, hcells⟩ := tslice_all hsl
      cases hf : afillS i.size (List.replicate len (ofVal zv)) parts with
      | none => rw [hf] at e; cases e
      | some es' =>
        rw [hf] at e; cases e
        have hzV : V w (Ow X h γ) γ (ofVal zv) zv := ofVal_V zv hcells
        have hzs : zv.cells.size = i.size := by rw [← (hzV.cv hok).1]; exact hzl
        have hsize : (sizeOf el).run P w = .ok i.size w := by simp [sizeOf, typeInfo, hi]
        have hpos : 0 < len * i.size := Nat.mul_pos hlen0 hk0
        have hrow : RowV w (Ow X h γ) γ i.size (List.replicate len (ofVal zv)) ((Array.range (len * i.size)).map (zv.cells[· % zv.cells.size]!)) := by
          refine RowV.replicate hzV hok hzl (by simp) fun a b ha hb => ?_
          rw [zeros_at _ i.size _ _ hzs hk0 (slot_lt ha hb), Nat.mul_comm, Nat.mul_add_mod, Nat.mod_eq_of_lt hb]
        obtain ⟨vs', a1, a2, a3, a4⟩ := afillS_sound hk0 parts vparts.toList hrow (by simpa using hl) hv' hf
        have hlen' : es'.length = len := by rw [a4]; simp
        have hns : ¬ (len * i.size > 2 ^ 24) := by omega
        have hn0 : ¬ (len * i.size = 0) := by omega
        have hrun : (Instr.buildSlice t len vparts).run P w = .ok (.slice (some ⟨w.heap.size, 0, none⟩) len len) (w.alloc (.cells vs' el)) := by
          simp only [Instr.buildSlice, Sem.run_bind, run_underlying hu, Result.andThen_ok, hsize, if_neg hns, if_neg hn0, Sem.run_pure, run_zeroValue hi hzero, a1, newRow, run_newObj]
          rfl
        have hg := alloc_goes r (w' := w.alloc (.cells vs' el)) (T := el) (z := (0, 0)) (c := vs') (o := .arr i.size es' 0) rfl rfl rfl rfl (fun off _ => by simp) ⟨rfl, a2.2.1, a2.2.2⟩
        refine ⟨_, _, _, hrun, hg, ?_⟩
        refine .arr h.length 0 len 0 i.size w.heap.size 0 len 0 (by simp [Ghost.put]) (Nat.le_refl _) (.inl (by simp)) ⟨vs', el, (0, 0), by simp [World.alloc, -World.alloc_eq], ?_⟩
        have h3 := a3
        simp at h3 ⊢
        omega
    · cases e
  · cases e
theorem box_goes (r : R X h γ w) {a : AV} {u : Value} (ha : V w (Ow X h γ) γ a u) (hk : okVal a = true) (t : TypeId) :
    ∃ w' γ', (newVar t u).run P w = .ok ⟨w.heap.size, 0, none⟩ w' ∧ Goes X h γ w (h ++ [.vars a.cells]) γ' w' ∧ V w' (Ow X (h ++ [.vars a.cells]) γ') γ' (.ptr h.length 0) (.pointer (some ⟨w.heap.size, 0, none⟩)) := by
  have hcv := ha.cv hk
  refine ⟨w.alloc (.cells u.cells t), γ.put h.length 0 (w.heap.size, 0), rfl, alloc_goes r (T := t) (z := (0, 0)) (c := u.cells) rfl rfl rfl rfl (fun off _ => by simp) ?_, ?_⟩
  · intro j x hj
    have hlt : j < u.cells.size := by have := (List.getElem?_eq_some_iff.1 hj).1; rw [← hcv.1]; exact this
    exact ⟨hcv.2.1 _ _ hj, u.cells[j], by simp [hlt], hcv.2.2 _ _ _ hj (by simp [hlt])⟩
  · exact .ptr h.length 0 w.heap.size 0 (by simp [Ghost.put])
theorem amake_sound (r : R X h γ w) {t : TypeId} {l c v : AV} {ul uc : Value} {h' : AHeap} (hl : V w (Ow X h γ) γ l ul) (hc : V w (Ow X h γ) γ c uc) (e : amake P t h l c = some (v, h')) :
    ∃ x w' γ', (Instr.makeSlice t ul uc).run P w = .ok x w' ∧ Goes X h γ w h' γ' w' ∧ V w' (Ow X h' γ') γ' v x := by
  unfold amake at e
  split at e
  · rename_i k bytes z ln cn hsl h1 h2
    obtain ⟨k1, rfl⟩ := asInt_inv h1
    obtain ⟨k2, rfl⟩ := asInt_inv h2
    cases hl.val_inv; cases hc.val_inv
    split at e
    · rename_i hcd; obtain ⟨c1, c2, c3⟩ := hcd
      cases e
      obtain ⟨el, i, zv, hu, hi, hzero, rfl, rfl, rfl, hk0, hb0, hzl, hok, hcells⟩ := tslice_all hsl
      have hzV : V w (Ow X h γ) γ (ofVal zv) zv := ofVal_V zv hcells
      have hzs : zv.cells.size = i.size := by rw [← (hzV.cv hok).1]; exact hzl
      have hcn : cn.toNat ≤ 2 ^ 47 := Nat.le_trans (Nat.le_mul_of_pos_right _ hb0) c3
      have wl : IntKind.i64.wrap ln = ln := IntWalk.i64_in _ (by omega)
      have wc : IntKind.i64.wrap cn = cn := IntWalk.i64_in _ (by omega)
      have hmul : (i.bytes : Int) * cn ≤ 2 ^ 47 := by
        have : ((cn.toNat * i.bytes : Nat) : Int) ≤ 2 ^ 47 := by exact_mod_cast c3
        rw [Int.natCast_mul, Int.toNat_of_nonneg (by omega), Int.mul_comm] at this
        exact this
      have hsize : (sizeOf el).run P w = .ok i.size w := by simp [sizeOf, typeInfo, hi]
      have hinfo : (typeInfo el).run P w = .ok i w := by simp [typeInfo, hi]
      let vs : Array Value := if cn.toNat * i.size = 0 then #[] else (Array.range (cn.toNat * i.size)).map (zv.cells[· % zv.cells.size]!)
      have hvs : vs.size = cn.toNat * i.size := by
        simp only [vs]; split
        · rename_i h0; simp [h0]
        · simp
      have hrun : (Instr.makeSlice t (.int k1 ln) (.int k2 cn)).run P w = .ok (.slice (some ⟨w.heap.size, 0, none⟩) ln.toNat cn.toNat) (w.alloc (.cells vs el)) := by
        have t1 : ((decide (cn < 0) || decide ((i.bytes : Int) * cn > 2 ^ 48) || decide (ln < 0) || decide (ln > cn)) = true) = False := by
          simp; omega
        simp only [Instr.makeSlice, Sem.run_bind, run_underlying hu, Result.andThen_ok, run_asInt, hinfo, wl, wc, t1, if_false, run_askRoom, hsize, Sem.run_pure]
        by_cases h0 : cn.toNat * i.size = 0
        · have hvs0 : vs = #[] := by simp only [vs, h0, if_true]
          simp only [h0, if_true, Sem.run_pure, Result.andThen_ok, newRow, Sem.run_bind, run_newObj, range0, hvs0]
          rfl
        · simp only [h0, if_false, Sem.run_bind, Sem.run_pure, run_zeroValue hi hzero, Result.andThen_ok, newRow, run_newObj, vs]
          rfl
      have hlc : ln.toNat ≤ cn.toNat := by omega
      have hlk : ln.toNat * i.size ≤ cn.toNat * i.size := Nat.mul_le_mul_right _ hlc
      have hrow : RowV w (Ow X h γ) γ i.size (List.replicate ln.toNat (ofVal zv)) vs := by
        refine RowV.replicate hzV hok hzl (by omega) fun a b ha hb => ?_
        have hab := slot_lt ha hb
        have h0 : ¬ (cn.toNat * i.size = 0) := by omega
        simp only [vs, h0, if_false]
        rw [zeros_at _ i.size _ _ hzs hk0 (by omega), Nat.mul_comm, Nat.mul_add_mod, Nat.mod_eq_of_lt hb]
      have hg := alloc_goes r (w' := w.alloc (.cells vs el)) (T := el) (z := (0, 0)) (c := vs) (o := .arr i.size (List.replicate ln.toNat (ofVal zv)) 0) rfl rfl rfl rfl (fun off _ => by simp) ⟨rfl, hrow.2.1, hrow.2.2⟩
      refine ⟨_, _, _, hrun, hg, ?_⟩
      refine .arr h.length 0 ln.toNat 0 i.size w.heap.size 0 cn.toNat 0 (by simp [Ghost.put]) hlc (.inl (by simp)) ⟨vs, el, (0, 0), by simp [World.alloc, -World.alloc_eq], ?_⟩
      rw [hvs]; simp
    · cases e
  · cases e
end
section
variable {P : Program} {X O : Nat → Prop} {h : AHeap} {γ : Ghost} {w : World}

/-! ### Stores -/
theorem putAt_other (us : List AV) : ∀ (cs : List AV) (off m : Nat), (m < off ∨ off + us.length ≤ m) → (putAt cs off us)[m]? = cs[m]? := by
  induction us with
  | nil => intro cs off m _; rfl
  | cons u r ih =>
    intro cs off m hm
    simp only [List.length_cons] at hm
    rw [putAt, ih _ _ _ (by omega), List.getElem?_set_ne (by omega)]
theorem putAt_at (us : List AV) : ∀ (cs : List AV) (off j : Nat), j < us.length → off + us.length ≤ cs.length → (putAt cs off us)[off + j]? = us[j]? := by
  induction us with
  | nil => intro cs off j hj; simp at hj
  | cons u r ih =>
    intro cs off j hj hs
    simp only [List.length_cons] at hj hs
    rw [putAt]
    cases j with
    | zero =>
      rw [putAt_other _ _ _ _ (by omega), Nat.add_zero, List.getElem?_set_self (by omega)]
      rfl
    | succ n =>
      have := ih (cs.set off u) (off + 1) n (by omega) (by simp; omega)
      rw [show off + (n + 1) = off + 1 + n by omega, this]
      simp
theorem write_goes (r : R X h γ w) {id g b p q : Nat} (hg : ogen (hget h id) = some g) (hγ : γ id g = some (b, p)) {us : List Value} (hfit : ∃ (c : Array Value) (T : TypeId) (z : Nat × Nat), w.heap[b]? = some (Obj.cells c T z) ∧ q + us.length ≤ c.size)
    {o' : AObj} (ho : ogen o' = some g) (hgens : ∀ k es g', o' = .arr k es g' → ∀ j q, γ id j = some q → j ≤ g')
    (hok : Sees w (Ow X h γ) γ (putW w b q us) (Ow X (h.set id o') γ) γ → OkObj (putW w b q us) (Ow X (h.set id o') γ) γ id o') : Goes X h γ w (h.set id o') γ (putW w b q us) :=
  change_goes r hg hγ (fun _ _ _ e => e) (fun _ _ _ e => .inl e) (putW_step us hfit) (fun g' b' p' e1 e2 => by rw [ho] at e1; cases e1; rw [hγ] at e2; cases e2; exact .inl rfl) hgens hok (by rintro rfl; cases ho)
theorem run_storeVar {t : TypeId} {u : Value} {b o : Nat} (hs : u.cells.size = tsize P t) (hp : 0 < tsize P t) (hf : Free w b) (hfit : ∀ c T z, w.heap[b]? = some (.cells c T z) → o + u.cells.toList.length ≤ c.size) (h1 : ∀ v ∈ u.cells.toList, v.oneCell' = true) :
    (storeVar t ⟨b, o, none⟩ u).run P w = .ok () (putW w b o u.cells.toList) := by
  simp only [storeVar, Sem.run_bind, run_sizeOf_pos hp, Result.andThen_ok]
  rw [if_neg (by simp [hs])]
  exact run_storeCells P _ w o 0 hf (fun c T z hh => by simpa using hfit c T z hh) h1
theorem CV.one {cs : List AV} {vs : Array Value} (hc : CV w O γ cs vs) : ∀ v ∈ vs.toList, v.oneCell' = true := by
  intro v hv
  obtain ⟨i, hi⟩ := List.getElem?_of_mem hv
  have hlt : i < vs.size := by have := (List.getElem?_eq_some_iff.1 hi).1; simpa using this
  have hlt' : i < cs.length := by rw [hc.1]; exact hlt
  have hci : cs[i]? = some cs[i] := by simp [hlt']
  exact ((hc.2.2 i cs[i] v hci (by simpa using hi)).cell_one (hc.2.1 i _ hci)).1
theorem CellsAt.put {w' : World} {O' : Nat → Prop} {γ' : Ghost} {b o off : Nat} {cs us : List AV} {ws : List Value} (hc : CellsAt w O γ b o cs) (s : Sees w O γ w' O' γ') (hl : us.length = ws.length) (hle : off + us.length ≤ cs.length)
    (hk : ∀ (i : Nat) (c : AV), us[i]? = some c → isCell c = true) (hv : ∀ (i : Nat) (c : AV) (v : Value), us[i]? = some c → ws[i]? = some v → V w O γ c v)
    (h1 : ∀ i, (i < o + off ∨ o + off + ws.length ≤ i) → w'.cell? ⟨b, i, none⟩ = w.cell? ⟨b, i, none⟩) (h2 : ∀ j, j < ws.length → w'.cell? ⟨b, o + off + j, none⟩ = ws[j]?) : CellsAt w' O' γ' b o (putAt cs off us) := by
  intro j c hj
  by_cases hin : off ≤ j ∧ j < off + us.length
  · obtain ⟨m, rfl⟩ : ∃ m, j = off + m := ⟨j - off, by omega⟩
    rw [putAt_at us cs off m (by omega) hle] at hj
    have hm : m < ws.length := by omega
    refine ⟨hk m c hj, ws[m], ?_, (hv m c _ hj (by simp [hm])).mono s⟩
    rw [show o + (off + m) = o + off + m by omega, h2 m hm]
    simp [hm]
  · rw [putAt_other us cs off j (by omega)] at hj
    obtain ⟨k1, v, k2, k3⟩ := hc j c hj
    exact ⟨k1, v, by rw [h1 _ (by omega)]; exact k2, k3.mono s⟩
theorem CellsAt.fits {b o : Nat} {cs : List AV} (hc : CellsAt w O γ b o cs) (hf : Free w b) {n : Nat} (hn : n ≤ cs.length) (h0 : 0 < n) : ∀ c T z, w.heap[b]? = some (Obj.cells c T z) → o + n ≤ c.size := by
  intro c T z hh
  obtain ⟨_, v, hv, _⟩ := hc (n - 1) cs[n - 1] (by simp)
  rw [cell_iff hh] at hv
  have := (Array.getElem?_eq_some_iff.1 hv).1
  omega
theorem patch_cells {e x : AV} {off : Nat} (hx : 0 < x.cells.length) (hle : off + x.cells.length ≤ e.cells.length) :
    (if x.cells.length = e.cells.length then x else patch e off x.cells).cells = putAt e.cells off x.cells := by
  split
  · rename_i hl
    have h0 : off = 0 := by omega
    subst h0
    apply List.ext_getElem?
    intro i
    by_cases hi : i < x.cells.length
    · have := putAt_at x.cells e.cells 0 i hi (by omega)
      rw [Nat.zero_add] at this
      exact this.symm
    · rw [putAt_other _ _ _ _ (by omega), List.getElem?_eq_none (by omega), List.getElem?_eq_none (by omega)]
  · rename_i hl
    cases e with
    | agg cs => rfl
    | _ => exact absurd (show x.cells.length = 1 by have h2 : off + x.cells.length ≤ 1 := hle; omega) hl
theorem patch_ok {e x : AV} {off : Nat} (hk : okVal x = true) (hx : 0 < x.cells.length) (hle : off + x.cells.length ≤ e.cells.length) :
    okVal (if x.cells.length = e.cells.length then x else patch e off x.cells) = true := by
  split
  · exact hk
  · rename_i hl
    cases e with
    | agg cs => rfl
    | _ => exact absurd (show x.cells.length = 1 by have h2 : off + x.cells.length ≤ 1 := hle; omega) hl
theorem astore_sound (r : R X h γ w) {t : TypeId} {a x : AV} {u ux : Value} {h' : AHeap} (ha : V w (Ow X h γ) γ a u) (hx : V w (Ow X h γ) γ x ux) (e : astore P t h a x = some h') :
    ∃ w', (Instr.storeAt t u ux).run P w = .ok () w' ∧ Goes X h γ w h' γ w' := by
  unfold astore at e
  split at e
  · rename_i hcd; obtain ⟨hsz, hpos, hk⟩ := hcd
    have hcv := hx.cv hk
    have hus : ux.cells.size = tsize P t := by rw [← hcv.1]; exact hsz
    have hlen : ux.cells.toList.length = x.cells.length := by simpa using hcv.1.symm
    have hone := hcv.one
    have hk' : ∀ (i : Nat) (c : AV), x.cells[i]? = some c → isCell c = true := hcv.2.1
    have hv' : ∀ (i : Nat) (c : AV) (v : Value), x.cells[i]? = some c → ux.cells.toList[i]? = some v → V w (Ow X h γ) γ c v := fun i c v hi hu => hcv.2.2 i c v hi (by simpa using hu)
    have xpos : 0 < x.cells.length := by omega
    cases ha with
    | ptr id off b o hg =>
      dsimp only at e
      split at e
      · rename_i cs hid
        split at e
        · rename_i hle
          cases e
          obtain ⟨hf, hc⟩ := r.vars hid hg
          have hfit := hc.fits hf hle (by omega)
          have hfit' : ∃ (c : Array Value) (T : TypeId) (z : Nat × Nat), w.heap[b]? = some (Obj.cells c T z) ∧ o + off + ux.cells.toList.length ≤ c.size := by
            obtain ⟨c, T, z, hh, _⟩ := hf
            exact ⟨c, T, z, hh, by have := hfit c T z hh; omega⟩
          refine ⟨_, by simpa [Instr.storeAt, Instr.sureAddr] using run_storeVar (P := P) hus hpos hf (fun c T z hh => by have := hfit c T z hh; omega) hone, ?_⟩
          have hcell := putW_cell ux.cells.toList hfit'
          refine write_goes r (by rw [hid]; rfl) hg hfit' (o' := .vars (putAt cs off x.cells)) rfl (fun k es g' e => by cases e) fun s => ?_
          exact ⟨b, o, hg, putW_free _ hf (fun c T z hh => by have := hfit c T z hh; omega), hc.put s hlen.symm hle hk' hv' hcell.1 hcell.2⟩
        · cases e
      · cases e
    | eptr id g k idx off b o hg =>
      dsimp only at e
      split at e
      · rename_i k' es g' hid
        split at e
        · rename_i hkg; obtain ⟨rfl, rfl⟩ := hkg
          split at e
          · rename_i el hel
            split at e
            · rename_i hle
              cases e
              obtain ⟨hf, hr⟩ := r.arr hid hg
              have hc := hr.at hel
              have hilt : idx < es.length := (List.getElem?_eq_some_iff.1 hel).1
              have hkl := (hr.1 _ _ hel).2
              have hfit := hc.fits hf hle (by omega)
              have hfit' : ∃ (c : Array Value) (T : TypeId) (z : Nat × Nat), w.heap[b]? = some (Obj.cells c T z) ∧ o + idx * k + off + ux.cells.toList.length ≤ c.size := by
                obtain ⟨c, T, z, hh, _⟩ := hf
                exact ⟨c, T, z, hh, by have := hfit c T z hh; omega⟩
              refine ⟨_, by simpa [Instr.storeAt, Instr.sureAddr] using run_storeVar (P := P) hus hpos hf (fun c T z hh => by have := hfit c T z hh; omega) hone, ?_⟩
              have hcell := putW_cell ux.cells.toList hfit'
              refine write_goes r (by rw [hid]; rfl) hg hfit' (o' := .arr k _ g) rfl (fun k2 es2 g2 e => by cases e; exact fun j q hq => r.gens _ _ _ _ _ _ hid hq) fun s => ?_
              refine ⟨b, o, hg, putW_free _ hf (fun c T z hh => by have := hfit c T z hh; omega), fun i e he => ?_, fun i j e c he hj => ?_⟩
              · by_cases hi : idx = i
                · subst hi
                  rw [List.getElem?_set_self hilt] at he; cases he
                  exact ⟨patch_ok hk xpos hle, by rw [patch_cells xpos hle, putAt_length]; exact hkl⟩
                · rw [List.getElem?_set_ne hi] at he; exact hr.1 i e he
              · by_cases hi : idx = i
                · subst hi
                  rw [List.getElem?_set_self hilt] at he; cases he
                  rw [patch_cells xpos hle] at hj
                  exact hc.put s hlen.symm hle hk' hv' hcell.1 hcell.2 j c hj
                · rw [List.getElem?_set_ne hi] at he
                  obtain ⟨a1, v, a2, a3⟩ := hr.2 i j e c he hj
                  have hjk : j < k := by have := (List.getElem?_eq_some_iff.1 hj).1; rw [(hr.1 i e he).2] at this; exact this
                  refine ⟨a1, v, ?_, a3.mono s⟩
                  rw [hcell.1 _ ?_]; · exact a2
                  rcases Nat.lt_or_gt_of_ne hi with hlt | hgt
                  · right
                    have := Nat.mul_le_mul_right k hlt
                    rw [Nat.succ_mul] at this
                    omega
                  · left; have := slot_lt hgt hjk; omega
            · cases e
          · cases e
        · cases e
      · rename_i cs hid
        split at e
        · rename_i hcd2; obtain ⟨rfl, rfl, rfl, hidx, hs1⟩ := hcd2
          cases e
          obtain ⟨hf, hc⟩ := r.vars hid hg
          have hle : idx + x.cells.length ≤ cs.length := by omega
          have hfit := hc.fits hf hle (by omega)
          have hfit' : ∃ (c : Array Value) (T : TypeId) (z : Nat × Nat), w.heap[b]? = some (Obj.cells c T z) ∧ o + idx + ux.cells.toList.length ≤ c.size := by
            obtain ⟨c, T, z, hh, _⟩ := hf
            exact ⟨c, T, z, hh, by have := hfit c T z hh; omega⟩
          have hcell := putW_cell ux.cells.toList hfit'
          refine ⟨_, by simpa [Instr.storeAt, Instr.sureAddr] using run_storeVar (P := P) (o := o + idx) hus hpos hf (fun c T z hh => by have := hfit c T z hh; omega) hone, ?_⟩
          refine write_goes r (by rw [hid]; rfl) hg hfit' (o' := .vars (putAt cs idx x.cells)) rfl (fun k es g' e => by cases e) fun s => ?_
          exact ⟨b, o, hg, putW_free _ hf (fun c T z hh => by have := hfit c T z hh; omega), hc.put s hlen.symm hle hk' hv' hcell.1 hcell.2⟩
        · cases e
      · cases e
    | _ => cases e
  · cases e
end
end Go.Ab
namespace Go.Ab
section
variable {P : Program} {X O : Nat → Prop} {h : AHeap} {γ : Ghost} {w : World}

/-! ### What a slice shows -/
theorem RowIs.sub {b o k off len : Nat} {es : List AV} (hr : RowIs w O γ b o k es) : RowIs w O γ b (o + off * k) k ((es.drop off).take len) :=
  ⟨fun i e he => hr.1 _ _ (take_drop_get he).2, fun i j e c he hj => by
    obtain ⟨h1, v, h2, h3⟩ := hr.2 _ _ _ _ (take_drop_get he).2 hj
    exact ⟨h1, v, by rw [← h2, Nat.add_mul]; congr 2; omega, h3⟩⟩
theorem RowIs.nil (b o k : Nat) : RowIs w O γ b o k [] := ⟨fun i e he => by simp at he, fun i j e c he => by simp at he⟩
def Shows (w : World) (O : Nat → Prop) (γ : Ghost) (es : List AV) (u : Value) : Prop :=
  ∃ a cap, u = .slice a es.length cap ∧ es.length ≤ cap ∧ (es = [] ∨ ∃ b o k, a = some ⟨b, o, none⟩ ∧ RowIs w O γ b o k es)
theorem sview_sound (r : R X h γ w) {x : AV} {u : Value} {es : List AV} (hx : V w (Ow X h γ) γ x u) (e : sview h x = some es) : Shows w (Ow X h γ) γ es u := by
  cases hx with
  | slc0 full a0 => cases e; exact ⟨a0, 0, rfl, Nat.le_refl _, .inl rfl⟩
  | emp a cap => cases e; exact ⟨some a, cap, rfl, Nat.zero_le _, .inl rfl⟩
  | slc full es b o cap k vals hcap hfull hk hc hv =>
    cases e
    exact ⟨some ⟨b, o, none⟩, cap, rfl, hcap, .inr ⟨b, o, k, rfl, hk, fun i j e c he hj => ⟨(hc i j e c he hj).1, vals i j, (hc i j e c he hj).2.2, hv i j e c he hj⟩⟩⟩
  | arr id off len g k b o cap o' hg hcap ho hrow =>
    have fin : ∀ {es0 : List AV}, off + len ≤ es0.length → RowIs w (Ow X h γ) γ b o k es0 → Shows w (Ow X h γ) γ ((es0.drop off).take len) (.slice (some ⟨b, o', none⟩) len cap) := by
      intro es0 hle hr
      have hlen : ((es0.drop off).take len).length = len := by simp; omega
      refine ⟨some ⟨b, o', none⟩, cap, by rw [hlen], by rw [hlen]; exact hcap, .inr ⟨b, o', k, rfl, ?_⟩⟩
      rcases ho with rfl | h0
      · exact hr.sub
      · have : (es0.drop off).take len = [] := List.eq_nil_of_length_eq_zero (by omega)
        rw [this]; exact RowIs.nil _ _ _
    simp only [sview] at e
    split at e
    · rename_i k' es' g' hid
      split at e
      · rename_i hc; obtain ⟨rfl, rfl, hle⟩ := hc; cases e; exact fin hle (r.arr hid hg).2
      · cases e
    · rename_i k' es' g' hid
      split at e
      · rename_i hc; obtain ⟨rfl, rfl, hle⟩ := hc; cases e; exact fin hle (r.frz hid hg).1
      · cases e
    · rename_i cs hid
      split at e
      · rename_i hc; obtain ⟨rfl, rfl, hle⟩ := hc
        cases e
        have hcs := (r.vars hid hg).2
        refine fin hle ⟨fun i e he => ?_, fun i j e c he hj => ?_⟩
        · obtain ⟨k1, v, _, k3⟩ := hcs i e he
          refine ⟨?_, by rw [(k3.cell_one k1).2.2]; rfl⟩
          cases e <;> first | rfl | (simp [isCell] at k1; done) | skip
          rename_i v'; cases v' <;> first | rfl | (simp [isCell] at k1; done)
        · obtain ⟨k1, v, k2, k3⟩ := hcs i e he
          rw [(k3.cell_one k1).2.2] at hj
          cases j with
          | zero => simp at hj; subst hj; exact ⟨k1, v, by simpa using k2, k3⟩
          | succ n => simp at hj
      · cases e
    · cases e
  | _ => simp [sview] at e
theorem RowIs.len {b o k kk : Nat} {es : List AV} (hr : RowIs w O γ b o k es) (ho : headOk kk es = true) (hne : es ≠ []) : k = kk := headOk_k hr.1 ho hne
def rowVals (w : World) (b o n : Nat) : List Value := (List.range n).map fun m => (w.cell? ⟨b, o + m, none⟩).getD undef
theorem RowIs.vals {b o k : Nat} {es : List AV} (hr : RowIs w O γ b o k es) (hk : 0 < k) {m : Nat} (hm : m < es.length * k) :
    ∃ e c, es[m / k]? = some e ∧ e.cells[m % k]? = some c ∧ isCell c = true ∧ ∃ v, w.cell? ⟨b, o + m, none⟩ = some v ∧ V w O γ c v := by
  have hq : m / k < es.length := (Nat.div_lt_iff_lt_mul hk).2 hm
  have hr1 := hr.1 (m / k) es[m / k] (by simp [hq])
  have hj : m % k < es[m / k].cells.length := by rw [hr1.2]; exact Nat.mod_lt _ hk
  have h1 : es[m / k]? = some es[m / k] := List.getElem?_eq_getElem hq
  have h2 : es[m / k].cells[m % k]? = some (es[m / k].cells[m % k]) := List.getElem?_eq_getElem hj
  obtain ⟨a1, v, a2, a3⟩ := hr.2 (m / k) (m % k) _ _ h1 h2
  refine ⟨_, _, h1, h2, a1, v, ?_, a3⟩
  rw [← a2, Nat.mul_comm (m / k) k, Nat.add_assoc, Nat.div_add_mod]
theorem rowVals_length (w : World) (b o n : Nat) : (rowVals w b o n).length = n := by simp [rowVals]
theorem rowVals_get {b o n m : Nat} {v : Value} (hm : m < n) (hv : w.cell? ⟨b, o + m, none⟩ = some v) : (rowVals w b o n)[m]? = some v := by
  simp [rowVals, hm, hv]
theorem RowIs.rowV {b o k n : Nat} {es : List AV} (hr : RowIs w O γ b o k es) (hn : es.length * k ≤ n) : RowV w O γ k es (rowVals w b o n).toArray := by
  refine ⟨by simpa [rowVals] using hn, hr.1, fun i j e c he hj => ?_⟩
  obtain ⟨h1, v, h2, h3⟩ := hr.2 i j e c he hj
  have hi : i < es.length := (List.getElem?_eq_some_iff.1 he).1
  have hjk : j < k := by have := (List.getElem?_eq_some_iff.1 hj).1; rw [(hr.1 i e he).2] at this; exact this
  have := slot_lt hi hjk
  refine ⟨h1, v, ?_, h3⟩
  simp only [List.getElem?_toArray]
  exact rowVals_get (by omega) (by rw [← h2, Nat.add_assoc])
theorem RowIs.one {b o k : Nat} {es : List AV} (hr : RowIs w O γ b o k es) (hk : 0 < k) : ∀ v ∈ rowVals w b o (es.length * k), v.oneCell' = true := by
  intro v hv
  obtain ⟨m, hm⟩ := List.getElem?_of_mem hv
  have hlt : m < es.length * k := by have := (List.getElem?_eq_some_iff.1 hm).1; simpa [rowVals] using this
  obtain ⟨e, c, _, _, h3, u, h4, h5⟩ := hr.vals hk hlt
  rw [rowVals_get hlt h4] at hm; cases hm
  exact (h5.cell_one h3).1
theorem RowIs.src {b o k cap : Nat} {es : List AV} {tx : TypeId} (hr : RowIs w O γ b o k es) (hk : 0 < k) (hs : isSeqT P tx = true) :
    Src P k tx (.slice (some ⟨b, o, none⟩) es.length cap) es.length (rowVals w b o (es.length * k)) w := by
  have hget : ∀ j u, (rowVals w b o (es.length * k))[j]? = some u → w.cell? ((⟨b, o, none⟩ : Addr).add j) = some u := by
    intro j u hj
    have hlt : j < es.length * k := by have := (List.getElem?_eq_some_iff.1 hj).1; simpa [rowVals] using this
    obtain ⟨e, c, _, _, _, v, h4, _⟩ := hr.vals hk hlt
    rw [rowVals_get hlt h4] at hj; cases hj
    rw [addr_add]; exact h4
  have hl : (rowVals w b o (es.length * k)).length = es.length * k := rowVals_length _ _ _ _
  refine ⟨?_, fun _ => rfl, run_firstCells_some w k es.length _ es.length cap _ hl hget, run_firstCells_some w.drew k es.length _ es.length cap _ hl hget, hl, hr.one hk⟩
  unfold isSeqT at hs
  split at hs
  · rename_i e' hu; exact .inl ⟨e', hu⟩
  · rename_i hu; exact .inr hu
  · cases hs
theorem first_nil (a : Option Addr) {k l c : Nat} : (Builtin.firstCells k 0 (.slice a l c)).run P w = .ok ([] : List Value).toArray w := by
  cases a with
  | none => exact run_firstCells_none w k 0 l c
  | some a => exact run_firstCells_some w k 0 a l c [] (by simp) (fun j v hj => by simp at hj)
theorem src_nil {a : Option Addr} {k cap : Nat} {tx : TypeId} (hs : isSeqT P tx = true) : Src P k tx (.slice a 0 cap) 0 [] w := by
  refine ⟨?_, fun _ => rfl, first_nil a, first_nil a, by simp, fun _ h => by cases h⟩
  unfold isSeqT at hs
  split at hs
  · rename_i e' hu; exact .inl ⟨e', hu⟩
  · rename_i hu; exact .inr hu
  · cases hs
theorem firstCells_str (k : Nat) (s : ByteArray) (w' : World) : (Builtin.firstCells k s.size (.string s)).run P w' = .ok (byteCells s).toArray w' := by
  simp [Builtin.firstCells, byteCells]
  apply Array.ext'
  simp
theorem src_string {k : Nat} {tx : TypeId} (s : ByteArray) (hs : isSeqT P tx = true) (hk : headOk k (s.data.toList.map byteVal) = true) : Src P k tx (.string s) s.size (byteCells s) w := by
  refine ⟨?_, fun _ => rfl, firstCells_str k s w, firstCells_str k s w.drew, ?_, fun u hu => by obtain ⟨_, _, rfl⟩ := List.mem_map.1 hu; rfl⟩
  · unfold isSeqT at hs
    split at hs
    · rename_i e' hu; exact .inl ⟨e', hu⟩
    · rename_i hu; exact .inr hu
    · cases hs
  · rw [byteCells_length]
    cases hl : s.data.toList with
    | nil =>
      have : s.size = 0 := by
        have : s.data.toList.length = 0 := by rw [hl]; rfl
        simpa using this
      rw [this, Nat.zero_mul]
    | cons x r => rw [hl] at hk; simp [headOk, byteVal, AV.cells] at hk; rw [← hk, Nat.mul_one]
theorem bytes_rowV (s : ByteArray) : RowV w O γ 1 (s.data.toList.map byteVal) (byteCells s).toArray := by
  refine ⟨by simp [byteCells], fun i e he => ?_, fun i j e c he hj => ?_⟩
  · simp only [List.getElem?_map] at he
    cases hx : s.data.toList[i]? with
    | none => rw [hx] at he; cases he
    | some x => rw [hx] at he; cases he; exact ⟨rfl, rfl⟩
  · simp only [List.getElem?_map] at he
    cases hx : s.data.toList[i]? with
    | none => rw [hx] at he; cases he
    | some x =>
      rw [hx] at he; cases he
      cases j with
      | zero => simp [byteVal, AV.cells] at hj; subst hj; exact ⟨rfl, _, by simp [byteCells, List.getElem?_map, hx], .val _⟩
      | succ n => simp [byteVal, AV.cells] at hj
theorem aelems_sound (r : R X h γ w) {x : AV} {u : Value} {xs : List AV} {k : Nat} {tx : TypeId} (hx : V w (Ow X h γ) γ x u) (e : aelems h x = some xs) (hs : isSeqT P tx = true) (hk : headOk k xs = true) (hkp : 0 < k) :
    ∃ news, Src P k tx u xs.length news w ∧ RowV w (Ow X h γ) γ k xs news.toArray ∧ news.length = xs.length * k := by
  unfold aelems at e
  split at e
  · rename_i s
    cases hx.val_inv; cases e
    have hsrc := src_string (P := P) (w := w) s hs hk
    have hl : (s.data.toList.map byteVal).length = s.size := by simp
    refine ⟨byteCells s, by rw [hl]; exact hsrc, ?_, by rw [hl]; exact hsrc.newsLen⟩
    cases hd : s.data.toList with
    | nil => exact ⟨by simp, fun i e he => by simp at he, fun i j e c he => by simp at he⟩
    | cons y t =>
      have : k = 1 := by rw [hd] at hk; simp [headOk, byteVal, AV.cells] at hk; exact hk.symm
      subst this
      rw [← hd]; exact bytes_rowV s
  · obtain ⟨a, cap, rfl, hcap, hh⟩ := sview_sound r hx e
    rcases hh with rfl | ⟨b, o, k', rfl, hr⟩
    · exact ⟨[], src_nil hs, ⟨by simp, fun i e he => by simp at he, fun i j e c he => by simp at he⟩, by simp⟩
    · by_cases hne : xs = []
      · subst hne
        have hr' : RowIs w (Ow X h γ) γ b o k [] := RowIs.nil b o k
        exact ⟨_, hr'.src hkp hs, hr'.rowV (by simp), by simp [rowVals]⟩
      · obtain rfl := hr.len hk hne
        exact ⟨_, hr.src hkp hs, hr.rowV (Nat.le_refl _), rowVals_length _ _ _ _⟩
theorem RowV.append {k : Nat} {es xs : List AV} {vs us rest : Array Value} (h1 : RowV w O γ k es vs) (h2 : RowV w O γ k xs us) (hl : vs.size = es.length * k) : RowV w O γ k (es ++ xs) (vs ++ us ++ rest) := by
  refine ⟨by have := h2.1; simp [Nat.add_mul]; omega, fun i e he => ?_, fun i j e c he hj => ?_⟩
  · by_cases hi : i < es.length
    · rw [List.getElem?_append_left hi] at he; exact h1.2.1 i e he
    · rw [List.getElem?_append_right (Nat.le_of_not_lt hi)] at he; exact h2.2.1 _ e he
  · by_cases hi : i < es.length
    · rw [List.getElem?_append_left hi] at he
      obtain ⟨a1, v, a2, a3⟩ := h1.2.2 i j e c he hj
      have hlt := (Array.getElem?_eq_some_iff.1 a2).1
      exact ⟨a1, v, by rw [Array.append_assoc, Array.getElem?_append_left hlt]; exact a2, a3⟩
    · rw [List.getElem?_append_right (Nat.le_of_not_lt hi)] at he
      obtain ⟨a1, v, a2, a3⟩ := h2.2.2 _ j e c he hj
      have hlt := (Array.getElem?_eq_some_iff.1 a2).1
      refine ⟨a1, v, ?_, a3⟩
      have hge : es.length * k ≤ i * k := Nat.mul_le_mul_right k (Nat.le_of_not_lt hi)
      have hsub : (i - es.length) * k = i * k - es.length * k := Nat.sub_mul _ _ _
      rw [Array.append_assoc, Array.getElem?_append_right (by omega), Array.getElem?_append_left (by omega)]
      rw [show i * k + j - vs.size = (i - es.length) * k + j by omega]
      exact a2
theorem zeroCells_size (z : Array Value) (n : Nat) : (Builtin.zeroCells z n).size = n * z.size := by simp [Builtin.zeroCells]
theorem ts_two {ts : Array TypeId} (h : ts.size = 2) : ts = #[argT ts 0, argT ts 1] := by
  unfold argT
  apply Array.ext
  · simp [h]
  · intro i h1 h2
    have : i = 0 ∨ i = 1 := by simp at h2; omega
    rcases this with rfl | rfl <;> simp [Array.getD, h]
theorem arr_olds {b o' k len cap : Nat} {es : List AV} (hr : RowIs w O γ b o' k es) (hk : 0 < k) (hl : es.length = len) :
    ∃ olds : List Value, (Builtin.firstCells k len (.slice (some ⟨b, o', none⟩) len cap)).run P w.drew = .ok olds.toArray w.drew ∧ RowV w O γ k es olds.toArray ∧ olds.length = len * k := by
  subst hl
  refine ⟨rowVals w b o' (es.length * k), ?_, hr.rowV (Nat.le_refl _), rowVals_length _ _ _ _⟩
  refine run_firstCells_some w.drew k es.length _ es.length cap _ (rowVals_length _ _ _ _) fun j u hj => ?_
  have hlt : j < es.length * k := by have := (List.getElem?_eq_some_iff.1 hj).1; simpa [rowVals] using this
  obtain ⟨e, c, _, _, _, v, h4, _⟩ := hr.vals hk hlt
  rw [rowVals_get hlt h4] at hj; cases hj
  rw [addr_add]; exact h4
theorem alloc_step {w' : World} {o : Obj} (hw : w'.heap = w.heap.push o) (h1 : w'.os = w.os) (h2 : w'.tape = w.tape) (h3 : w'.output = w.output) (O : Nat → Prop) : Step w w' O := by
  have hold : ∀ b, b < w.heap.size → w'.heap[b]? = w.heap[b]? := fun b hb => by rw [hw, Array.getElem?_push, if_neg (by omega)]
  exact ⟨h1, h2, h3, by rw [hw]; simp, fun b hb _ => hold b hb, fun b c' T' z' hh => ⟨c', z', by rw [hold b (Array.getElem?_eq_some_iff.1 hh).1]; exact hh, rfl⟩⟩
theorem append_arr (r : R X h γ w) {t tx ty el : TypeId} {i : TypeInfo} {zv : Value} {id off len g b o cap o' : Nat} {es xs : List AV} {ux : Value} {news : List Value}
    (hu : P.underlying t = some (.slice el)) (hi : P.info? el = some i) (hzero : i.zero = some zv) (hzs : zv.cells.size = i.size) (hk0 : 0 < i.size) (hb0 : 0 < i.bytes)
    (hid : hget h id = .arr i.size es g) (hle : off + len ≤ es.length) (hg : γ id g = some (b, o)) (hcap : len ≤ cap) (ho : o' = o + off * i.size ∨ cap = 0)
    (hrow0 : ∃ (c : Array Value) (T : TypeId) (z : Nat × Nat), w.heap[b]? = some (Obj.cells c T z) ∧ o + (off + cap) * i.size ≤ c.size)
    (hsrc : Src P i.size tx ux xs.length news w) (hrow : RowV w (Ow X h γ) γ i.size xs news.toArray) (hnl : news.length = xs.length * i.size) (hfit : (len + xs.length) * i.bytes ≤ 2 ^ 47) :
    ∃ y w' γ', (Builtin.append_ #[t, tx] ty #[.slice (some ⟨b, o', none⟩) len cap, ux]).run P w = .ok y w' ∧
      Goes X h γ w (h.set id (.arr i.size ((es.drop off).take len ++ xs) (g + 1))) γ' w' ∧
      V w' (Ow X (h.set id (.arr i.size ((es.drop off).take len ++ xs) (g + 1))) γ') γ' (.arr id 0 (len + xs.length) (g + 1) i.size) y := by
  obtain ⟨hf, hr⟩ := r.arr hid hg
  have hr1 : RowIs w (Ow X h γ) γ b (o + off * i.size) i.size ((es.drop off).take len) := hr.sub
  have hvl : ((es.drop off).take len).length = len := by simp; omega
  generalize (es.drop off).take len = es1 at *
  have hog : ogen (hget h id) = some g := by rw [hid]; rfl
  have hgnone : γ id (g + 1) = none := by
    cases e : γ id (g + 1) with
    | none => rfl
    | some p => have := r.gens _ _ _ _ _ _ hid e; omega
  have hext : ∀ p i' j q, γ i' j = some q → (γ.put id (g + 1) p) i' j = some q := by
    intro p i' j q e
    unfold Ghost.put
    rw [if_neg]
    · exact e
    · rintro ⟨rfl, rfl⟩; rw [hgnone] at e; cases e
  have hback : ∀ p i' j q, (γ.put id (g + 1) p) i' j = some q → γ i' j = some q ∨ (i' = id ∧ ogen (.arr i.size (es1 ++ xs) (g + 1)) = some j) := by
    intro p i' j q e
    unfold Ghost.put at e
    split at e
    · rename_i hc; obtain ⟨rfl, rfl⟩ := hc; exact .inr ⟨rfl, rfl⟩
    · exact .inl e
  have hput : ∀ p, (γ.put id (g + 1) p) id (g + 1) = some p := fun p => by simp [Ghost.put]
  have hgens' : ∀ p k2 es2 g2, AObj.arr i.size (es1 ++ xs) (g + 1) = .arr k2 es2 g2 → ∀ j q, (γ.put id (g + 1) p) id j = some q → j ≤ g2 := by
    intro p k2 es2 g2 e j q hq
    cases e
    unfold Ghost.put at hq
    split at hq
    · rename_i hc; omega
    · have := r.gens _ _ _ _ _ _ hid hq; omega
  obtain ⟨c, T, zz, hb, hsz⟩ := hrow0
  rw [Nat.add_mul] at hsz
  by_cases hroom : len + xs.length ≤ cap
  · -- there is room
    by_cases hn0 : news = []
    · -- nothing is written
      have hxs0 : xs = [] := by
        have : xs.length * i.size = 0 := by rw [← hnl, hn0]; rfl
        rcases Nat.mul_eq_zero.1 this with h1 | h1
        · exact List.eq_nil_of_length_eq_zero h1
        · omega
      subst hn0; subst hxs0
      have hrun : (Builtin.append_ #[t, tx] ty #[.slice (some ⟨b, o', none⟩) len cap, ux]).run P w = .ok (.slice (some ⟨b, o', none⟩) (len + 0) cap) w := by
        have hcl := hsrc.cells
        have hln := hsrc.len
        simp only [List.length_nil] at hcl hln hroom
        rcases hsrc.kind with ⟨e', hk'⟩ | hk' <;>
          simp [Builtin.append_, run_underlying hu, run_underlying hk', sizeOf, typeInfo, hi, hln, hcl, hcap, storeCells]
      simp only [List.append_nil] at hback hgens' ⊢
      have hgo : Goes X h γ w (h.set id (.arr i.size es1 (g + 1))) (γ.put id (g + 1) (b, o + off * i.size)) w := by
        refine change_goes r hog hg (hext _) (hback _) (Step.refl _ _) (fun g' b' p' e1 e2 => ?_) (hgens' _) fun s => ?_
        · simp only [ogen, Option.some.injEq] at e1; subst e1
          rw [hput] at e2; cases e2; exact .inl rfl
        · exact ⟨b, _, hput _, hf, hr1.mono s fun _ => rfl⟩
      refine ⟨_, _, _, hrun, hgo, .arr id 0 (len + 0) (g + 1) i.size b (o + off * i.size) cap o' (hput _) (by simpa using hcap) (by simpa using ho) ⟨c, T, zz, hb, by simp only [Nat.zero_add]; omega⟩⟩
    · have hnpos : 0 < news.length := List.length_pos_iff.2 hn0
      have hxpos : 0 < xs.length := Nat.pos_of_ne_zero fun h0 => by rw [h0, Nat.zero_mul] at hnl; omega
      obtain rfl : o' = o + off * i.size := by rcases ho with h0 | h0 <;> omega
      have hm : (len + xs.length) * i.size ≤ cap * i.size := Nat.mul_le_mul_right _ hroom
      rw [Nat.add_mul] at hm
      have hfitW : ∃ (c : Array Value) (T : TypeId) (z : Nat × Nat), w.heap[b]? = some (Obj.cells c T z) ∧ o + off * i.size + len * i.size + news.length ≤ c.size := ⟨c, T, zz, hb, by omega⟩
      have hrun : (Builtin.append_ #[t, tx] ty #[.slice (some ⟨b, o + off * i.size, none⟩) len cap, ux]).run P w = .ok (.slice (some ⟨b, o + off * i.size, none⟩) (len + xs.length) cap) (putW w b (o + off * i.size + len * i.size) news) := by
        have hst : (storeCells ⟨b, o + off * i.size + len * i.size, none⟩ news 0).run P w = .ok () (putW w b (o + off * i.size + len * i.size + 0) news) := by
          refine run_storeCells P news w _ 0 hf (fun c2 T2 z2 hh2 => ?_) hsrc.one
          rw [hb] at hh2; cases hh2; omega
        rw [Nat.add_zero] at hst
        rcases hsrc.kind with ⟨e', hk'⟩ | hk' <;>
          simp [Builtin.append_, run_underlying hu, run_underlying hk', sizeOf, typeInfo, hi, hsrc.len, hroom, hsrc.cells, addr_add, hst]
      obtain ⟨hc1, hc2⟩ := putW_cell news hfitW
      have hgo : Goes X h γ w (h.set id (.arr i.size (es1 ++ xs) (g + 1))) (γ.put id (g + 1) (b, o + off * i.size)) (putW w b (o + off * i.size + len * i.size) news) := by
        refine change_goes r hog hg (hext _) (hback _) (putW_step news hfitW) (fun g' b' p' e1 e2 => ?_) (hgens' _) fun s => ?_
        · simp only [ogen, Option.some.injEq] at e1; subst e1
          rw [hput] at e2; cases e2; exact .inl rfl
        · refine ⟨b, _, hput _, putW_free _ hf (fun c2 T2 z2 hh2 => by rw [hb] at hh2; cases hh2; omega), fun m e he => ?_, fun m j e cc he hj => ?_⟩
          · by_cases hm' : m < es1.length
            · rw [List.getElem?_append_left hm'] at he; exact hr1.1 m e he
            · rw [List.getElem?_append_right (Nat.le_of_not_lt hm')] at he; exact hrow.2.1 _ e he
          · by_cases hm' : m < es1.length
            · rw [List.getElem?_append_left hm'] at he
              obtain ⟨a1, v, a2, a3⟩ := hr1.2 m j e cc he hj
              have hjk : j < i.size := by have := (List.getElem?_eq_some_iff.1 hj).1; rw [(hr1.1 m e he).2] at this; exact this
              have := slot_lt hm' hjk
              rw [hvl] at this
              exact ⟨a1, v, by rw [hc1 _ (.inl (by omega))]; exact a2, a3.mono s⟩
            · rw [List.getElem?_append_right (Nat.le_of_not_lt hm')] at he
              obtain ⟨a1, v, a2, a3⟩ := hrow.2.2 _ j e cc he hj
              have hlt := (Array.getElem?_eq_some_iff.1 a2).1
              simp only [List.size_toArray] at hlt
              have hge : es1.length * i.size ≤ m * i.size := Nat.mul_le_mul_right _ (Nat.le_of_not_lt hm')
              have hsub : (m - es1.length) * i.size = m * i.size - es1.length * i.size := Nat.sub_mul _ _ _
              refine ⟨a1, v, ?_, a3.mono s⟩
              have := hc2 ((m - es1.length) * i.size + j) hlt
              rw [hvl] at hge hsub this
              rw [show o + off * i.size + m * i.size + j = o + off * i.size + len * i.size + ((m - len) * i.size + j) by omega, this]
              simpa [hvl] using a2
      exact ⟨_, _, _, hrun, hgo, .arr id 0 (len + xs.length) (g + 1) i.size b (o + off * i.size) cap _ (hput _) hroom (.inl (by simp)) (by
        obtain ⟨c', z', k1, k2⟩ := hgo.step.row b c T zz hb
        exact ⟨c', T, z', k1, by rw [k2, Nat.zero_add]; omega⟩)⟩
  · -- a new row
    have hxpos : len + xs.length > cap := by omega
    have hro : RowIs w (Ow X h γ) γ b o' i.size es1 := by
      rcases ho with h0 | h0
      · rw [h0]; exact hr1
      · have : es1 = [] := List.eq_nil_of_length_eq_zero (by omega)
        rw [this]; exact RowIs.nil _ _ _
    obtain ⟨olds, hold, holdrow, holdl⟩ := arr_olds (P := P) (cap := cap) hro hk0 hvl
    have hbig : len + xs.length ≤ 2 ^ 47 := Nat.le_trans (Nat.le_mul_of_pos_right _ hb0) hfit
    have hrun := run_append_grow_src w t tx ty el i zv hu hi hzero (some ⟨b, o', none⟩) len cap olds hold ux xs.length news hsrc (by omega) (by omega) (growslice_fits (by omega) (by omega))
    have hge := grownCap_ge w (len + xs.length) cap el
    generalize hN : grownCap w (len + xs.length) cap el = N at *
    have hz' := zeroCells_size zv.cells (N - (len + xs.length))
    rw [hzs, Nat.sub_mul, Nat.add_mul] at hz'
    have hm : (len + xs.length) * i.size ≤ N * i.size := Nat.mul_le_mul_right _ hge
    rw [Nat.add_mul] at hm
    have hrv := holdrow.append (rest := Builtin.zeroCells zv.cells (N - (len + xs.length))) hrow (by simpa [hvl] using holdl)
    have e1 : olds.toArray ++ news.toArray ++ Builtin.zeroCells zv.cells (N - (len + xs.length)) = (olds ++ news).toArray ++ Builtin.zeroCells zv.cells (N - (len + xs.length)) := by simp
    rw [e1] at hrv
    generalize hcc : (olds ++ news).toArray ++ Builtin.zeroCells zv.cells (N - (len + xs.length)) = cc at *
    have hccs : cc.size = N * i.size := by rw [← hcc]; simp only [Array.size_append, List.size_toArray, List.length_append, holdl, hnl, hz']; omega
    have hnew : (w.drew.alloc (.cells cc el)).heap[w.heap.size]? = some (.cells cc el (0, 0)) := by simp [World.alloc, World.drew, -World.alloc_eq, -World.drew_eq]
    have hgo : Goes X h γ w (h.set id (.arr i.size (es1 ++ xs) (g + 1))) (γ.put id (g + 1) (w.heap.size, 0)) (w.drew.alloc (.cells cc el)) := by
      refine change_goes r hog hg (hext _) (hback _) (alloc_step (w := w) (w' := w.drew.alloc (.cells cc el)) (o := .cells cc el) rfl rfl rfl rfl _) (fun g' b' p' e1 e2 => ?_) (hgens' _) fun s => ?_
      · simp only [ogen, Option.some.injEq] at e1; subst e1
        rw [hput] at e2; cases e2; exact .inr (Nat.le_refl _)
      · refine ⟨_, _, hput _, ⟨cc, el, (0, 0), hnew, fun off2 _ => by simp only [World.frozen?, hnew]; simp⟩, hrv.2.1, fun m j e x he hj => ?_⟩
        obtain ⟨a1, v, a2, a3⟩ := hrv.2.2 m j e x he hj
        exact ⟨a1, v, by rw [cell_iff hnew, Nat.zero_add]; exact a2, a3.mono s⟩
    exact ⟨_, _, _, hrun, hgo, .arr id 0 (len + xs.length) (g + 1) i.size w.heap.size 0 N 0 (hput _) hge (.inl (by simp)) ⟨cc, el, (0, 0), hnew, by rw [hccs]; simp⟩⟩
theorem aappend_sound (r : R X h γ w) {ts : Array TypeId} {ty : TypeId} {s x v : AV} {us ux : Value} {h' : AHeap} (hs : V w (Ow X h γ) γ s us) (hx : V w (Ow X h γ) γ x ux)
    (hts : ts.size = 2) (hsq : isSeqT P (argT ts 1) = true) (e : aappend P (argT ts 0) h s x = some (v, h')) :
    ∃ y w' γ', (Builtin.append_ ts ty #[us, ux]).run P w = .ok y w' ∧ Goes X h γ w h' γ' w' ∧ V w' (Ow X h' γ') γ' v y := by
  rw [ts_two hts]
  generalize argT ts 0 = t at *
  generalize argT ts 1 = tx at *
  unfold aappend at e
  split at e
  · cases e
  · rename_i ks bytes z hsl
    obtain ⟨el, i, zv, hu, hi, hzero, rfl, rfl, rfl, hk0, hb0, hzl, hok, hcells⟩ := tslice_all hsl
    have hzV : V w (Ow X h γ) γ (ofVal zv) zv := ofVal_V zv hcells
    have hzs : zv.cells.size = i.size := by rw [← (hzV.cv hok).1]; exact hzl
    split at e
    · cases e
    · rename_i xs hxs
      split at e
      · cases e
      · rename_i hho
        have hho' : headOk i.size xs = true := by simpa using hho
        obtain ⟨news, hsrc, hrow, hnl⟩ := aelems_sound (P := P) r hx hxs hsq hho' hk0
        split at e
        · rename_i es
          split at e
          · cases e
          · rename_i hhe
            have hhe' : headOk i.size es = true := by simpa using hhe
            -- what lies there
            obtain ⟨a, cap, rfl, hcap, hh⟩ := sview_sound r hs (es := es) rfl
            have hfull : cap = es.length := by
              cases hs with
              | slc0 _ _ => rfl
              | slc _ _ b o cap k vals hcap' hfull hk hc hv => exact hfull rfl
            subst hfull
            split at e
            · rename_i hxe
              cases e
              subst hxe
              refine ⟨.slice a es.length es.length, w, γ, ?_, Goes.refl r, hs⟩
              have hn0 : news = [] := List.eq_nil_of_length_eq_zero (by rw [hnl]; simp)
              subst hn0
              have hcl := hsrc.cells
              have hln := hsrc.len
              simp only [List.length_nil] at hcl hln
              rcases a with _ | a
              · rcases hsrc.kind with ⟨e', hk'⟩ | hk' <;>
                  simp [Builtin.append_, run_underlying hu, run_underlying hk', sizeOf, typeInfo, hi, hln, hcl]
              · rcases hsrc.kind with ⟨e', hk'⟩ | hk' <;>
                  simp [Builtin.append_, run_underlying hu, run_underlying hk', sizeOf, typeInfo, hi, hln, hcl, storeCells]
            · rename_i hxe
              split at e
              · rename_i hfit
                cases e
                have hxl : 0 < xs.length := List.length_pos_iff.2 hxe
                have hbig : es.length + xs.length ≤ 2 ^ 47 := Nat.le_trans (Nat.le_mul_of_pos_right _ hb0) hfit
                -- the elements that lie there
                obtain ⟨olds, hold, holdrow, holdl⟩ : ∃ olds : List Value, (Builtin.firstCells i.size es.length (.slice a es.length es.length)).run P w.drew = .ok olds.toArray w.drew ∧ RowV w (Ow X h γ) γ i.size es olds.toArray ∧ olds.length = es.length * i.size := by
                  rcases hh with rfl | ⟨b, o, k', rfl, hr⟩
                  · exact ⟨[], first_nil a, ⟨by simp, fun i e he => by simp at he, fun i j e c he => by simp at he⟩, by simp⟩
                  · by_cases hne : es = []
                    · subst hne
                      have hr' : RowIs w (Ow X h γ) γ b o i.size [] := RowIs.nil b o i.size
                      exact ⟨_, (hr'.src (cap := 0) hk0 hsq).cellsD, hr'.rowV (by simp), by simp [rowVals]⟩
                    · obtain rfl := hr.len hhe' hne
                      exact ⟨_, (hr.src (cap := es.length) hk0 hsq).cellsD, hr.rowV (Nat.le_refl _), rowVals_length _ _ _ _⟩
                have hrun := run_append_grow_src w t tx ty el i zv hu hi hzero a es.length es.length olds hold ux xs.length news hsrc (by omega) (by omega) (growslice_fits (by omega) (by omega))
                have hge := grownCap_ge w (es.length + xs.length) es.length el
                generalize hN : grownCap w (es.length + xs.length) es.length el = N at *
                have hz' := zeroCells_size zv.cells (N - (es.length + xs.length))
                rw [hzs, Nat.sub_mul, Nat.add_mul] at hz'
                have hm : (es.length + xs.length) * i.size ≤ N * i.size := Nat.mul_le_mul_right _ hge
                rw [Nat.add_mul] at hm
                have hrv := holdrow.append (rest := Builtin.zeroCells zv.cells (N - (es.length + xs.length))) hrow (by simpa using holdl)
                have e1 : olds.toArray ++ news.toArray ++ Builtin.zeroCells zv.cells (N - (es.length + xs.length)) = (olds ++ news).toArray ++ Builtin.zeroCells zv.cells (N - (es.length + xs.length)) := by simp
                rw [e1] at hrv
                generalize hcc : (olds ++ news).toArray ++ Builtin.zeroCells zv.cells (N - (es.length + xs.length)) = cc at *
                have hccs : cc.size = N * i.size := by rw [← hcc]; simp only [Array.size_append, List.size_toArray, List.length_append, holdl, hnl, hz']; omega
                have hnew : (w.drew.alloc (.cells cc el)).heap[w.heap.size]? = some (.cells cc el (0, 0)) := by simp [World.alloc, World.drew, -World.alloc_eq, -World.drew_eq]
                exact ⟨_, _, _, hrun, alloc_goes r (T := el) (z := (0, 0)) (o := .arr i.size (es ++ xs) 0) rfl rfl rfl rfl (fun off _ => by simp) ⟨rfl, hrv.2.1, hrv.2.2⟩,
                  .arr h.length 0 _ 0 i.size w.heap.size 0 N 0 (by simp [Ghost.put]) hge (.inl (by simp)) ⟨cc, el, (0, 0), hnew, by rw [hccs]; simp⟩⟩
              · cases e
        · rename_i id off len g k
          split at e
          · rename_i k' es g' hid
            split at e
            · rename_i hcd; obtain ⟨rfl, rfl, hle, rfl, hfit⟩ := hcd
              cases e
              cases hs with
              | arr id off len g k b o cap o' hg hcap ho hrow0 =>
                exact append_arr r hu hi hzero hzs hk0 hb0 hid hle hg hcap ho hrow0 hsrc hrow hnl hfit
            · cases e
          · cases e
        · cases e
end
end Go.Ab
namespace Go.Ab
set_option linter.unusedSimpArgs false
set_option linter.unusedVariables false
open Go.Lib
section
variable {P : Program} {X O : Nat → Prop} {h : AHeap} {γ : Ghost} {w : World}

/-! ### Conversions -/
theorem bytesOf_inv : ∀ {es : List AV} {l : List UInt8}, bytesOf es = some l → ∃ ns : List Int, es = ns.map (fun n => AV.val (.int .u8 n)) ∧ l = ns.map fun n => UInt8.ofNat n.toNat
  | [], l, e => by cases e; exact ⟨[], rfl, rfl⟩
  | e0 :: r, l, e => by
    unfold bytesOf at e
    split at e
    · rename_i heq; cases heq
    · rename_i n r' heq
      cases heq
      cases hb : bytesOf r with
      | none => rw [hb] at e; cases e
      | some l' =>
        rw [hb] at e; cases e
        obtain ⟨ns, rfl, rfl⟩ := bytesOf_inv hb
        exact ⟨n :: ns, rfl, rfl⟩
    · cases e
theorem foldl_push (ns : List Int) : ∀ s : ByteArray, ns.foldl (fun r n => r.push (UInt8.ofNat n.toNat)) s = ⟨s.data ++ (ns.map fun n => UInt8.ofNat n.toNat).toArray⟩ := by
  induction ns with
  | nil => intro s; simp
  | cons n r ih =>
    intro s
    rw [List.foldl_cons, ih]
    congr 1
    apply Array.ext'
    simp [ByteArray.push]
theorem bytes_world (w : World) (e : TypeId) (s : ByteArray) : (bytesWorld w e s).heap = w.heap.push (.cells (bytesCells w e s) e ((bytesCells w e s).size, (bytesCells w e s).size + 1)) := by
  apply Array.ext_getElem?
  intro j
  by_cases h1 : j < w.heap.size
  · rw [bytesWorld_at_old w e s j h1, Array.getElem?_push, if_neg (by omega)]
  · by_cases h2 : j = w.heap.size
    · subst h2; rw [bytesWorld_at_new]; simp
    · rw [Array.getElem?_eq_none (by rw [bytesWorld_size]; omega), Array.getElem?_eq_none (by simp; omega)]
theorem aconvert_sound (r : R X h γ w) {src dst : TypeId} {x v : AV} {u : Value} {h' : AHeap} (hx : V w (Ow X h γ) γ x u) (e : aconvert P src dst h x = some (v, h')) :
    ∃ y w' γ', (convert src dst u).run P w = .ok y w' ∧ Goes X h γ w h' γ' w' ∧ V w' (Ow X h' γ') γ' v y := by
  unfold aconvert at e
  split at e
  · rename_i k0 k hs hd
    split at e
    · cases hx.val_inv; cases e
      exact ⟨_, w, γ, by simp [convert, run_underlying hs, run_underlying hd, Conv.intToInt], Goes.refl r, .val _⟩
    · cases e
  · rename_i hs hd
    split at e
    · cases hx.val_inv; cases e
      exact ⟨_, w, γ, by simp [convert, run_underlying hs, run_underlying hd], Goes.refl r, .val _⟩
    · cases e
  · rename_i el hs hd
    split at e
    · rename_i s hel
      cases hx.val_inv; cases e
      have hrun := run_convert_string_bytes w src dst el s hs hd hel
      have hge := grownCap_ge w s.size 0 el
      have hsz : (bytesCells w el s).size = grownCap w s.size 0 el := by simp [bytesCells]; omega
      refine ⟨_, _, _, hrun, alloc_goes r (bytes_world w el s) rfl rfl rfl (fun off ho => by simp; omega) (o := .arr 1 (s.data.toList.map byteVal) 0) ?_, ?_⟩
      · have hb := bytes_rowV (w := w) (O := Ow X h γ) (γ := γ) s
        refine ⟨rfl, hb.2.1, fun i j e x he hj => ?_⟩
        obtain ⟨a1, v, a2, a3⟩ := hb.2.2 i j e x he hj
        refine ⟨a1, v, ?_, a3⟩
        have hlt := (Array.getElem?_eq_some_iff.1 a2).1
        have e1 : bytesCells w el s = (byteCells s).toArray ++ Array.replicate (grownCap w s.size 0 el - s.size) (.int .u8 0) := by
          unfold bytesCells byteCells
          congr 1
          apply Array.ext'; simp
        rw [e1, Array.getElem?_append_left hlt]; exact a2
      · exact .arr h.length 0 s.size 0 1 w.heap.size 0 _ 0 (by simp [Ghost.put]) hge (.inl (by simp)) ⟨_, _, _, bytesWorld_at_new w el s, by rw [hsz]; simp⟩
    · cases e
  · rename_i el hs hd
    split at e
    · rename_i es hel hv
      split at e
      · rename_i ho
        cases hb : bytesOf es with
        | none => rw [hb] at e; cases e
        | some l =>
          rw [hb] at e; cases e
          obtain ⟨ns, rfl, rfl⟩ := bytesOf_inv hb
          obtain ⟨a, cap, rfl, hcap, hh⟩ := sview_sound r hx hv
          refine ⟨_, w, γ, ?_, Goes.refl r, .val _⟩
          rw [run_convert_bytes_string w src dst el a _ cap hs hel hd]
          rcases hh with hnil | ⟨b, o, k, rfl, hr⟩
          · simp at hnil; subst hnil
            cases a with
            | none => rfl
            | some a => rfl
          · have hload : (loadCells ⟨b, o, none⟩ (ns.map fun n => AV.val (.int .u8 n)).length).run P w = .ok (ns.map (Value.int .u8)).toArray w := by
              have := run_loadCells_list (P := P) w ⟨b, o, none⟩ (ns.map (Value.int .u8)) fun j u hj => ?_
              · simpa using this
              · simp only [List.getElem?_map] at hj
                cases hn : ns[j]? with
                | none => rw [hn] at hj; cases hj
                | some n =>
                  rw [hn] at hj; cases hj
                  have hj' : (ns.map fun n => AV.val (.int .u8 n))[j]? = some (.val (.int .u8 n)) := by simp [hn]
                  obtain ⟨_, v, h2, h3⟩ := hr.2 j 0 _ (.val (.int .u8 n)) hj' rfl
                  have hk1 : k = 1 := by have := (hr.1 _ _ hj').2; simpa [AV.cells] using this.symm
                  subst hk1
                  cases h3.val_inv
                  rw [addr_add]; simpa using h2
            rw [run_bytesToString w _ _ cap ns hload, foldl_push]
            have e0 : ByteArray.empty.data ++ (ns.map fun n => UInt8.ofNat n.toNat).toArray = (ns.map fun n => UInt8.ofNat n.toNat).toArray := Array.empty_append
            rw [e0]
      · cases e
    · cases e
  · cases e

/-! ### copy, len, min, max -/
theorem take_get {α : Type} {l : List α} {n i : Nat} {e : α} (h : (l.take n)[i]? = some e) : i < n ∧ l[i]? = some e := by
  have hlt : i < n := by
    have := (List.getElem?_eq_some_iff.1 h).1; simp at this; omega
  rw [List.getElem?_take_of_lt hlt] at h
  exact ⟨hlt, h⟩
theorem afirst_sound (r : R X h γ w) {x : AV} {u : Value} {xs : List AV} {k n : Nat} (hx : V w (Ow X h γ) γ x u) (e : aelems h x = some xs) (hk : headOk k xs = true) (hkp : 0 < k) (hn : n ≤ xs.length) :
    (∀ w' : World, ∃ m, (Builtin.lenOf u).run P w' = .ok m w' ∧ m = xs.length) ∧
    ∃ us : List Value, (Builtin.firstCells k n u).run P w = .ok us.toArray w ∧ RowV w (Ow X h γ) γ k (xs.take n) us.toArray ∧ us.length = n * k ∧ ∀ v ∈ us, v.oneCell' = true := by
  unfold aelems at e
  split at e
  · rename_i s
    cases hx.val_inv; cases e
    refine ⟨fun _ => ⟨s.size, rfl, by simp⟩, ?_⟩
    by_cases h0 : n = 0
    · subst h0
      exact ⟨[], by simp [Builtin.firstCells], ⟨by simp, fun i e he => by simp at he, fun i j e c he => by simp at he⟩, by simp, fun v hv => by cases hv⟩
    · have : k = 1 := by
        cases hd : s.data.toList with
        | nil => rw [hd] at hn; simp at hn; omega
        | cons y t => rw [hd] at hk; simp [headOk, byteVal, AV.cells] at hk; exact hk.symm
      subst this
      have hb := bytes_rowV (w := w) (O := Ow X h γ) (γ := γ) s
      have hbl : (byteCells s).length = s.size := byteCells_length s
      simp at hn
      refine ⟨(byteCells s).take n, ?_, ⟨by simp [hbl], fun i e he => ?_, fun i j e c he hj => ?_⟩, by simp [hbl]; omega, fun v hv => ?_⟩
      · simp only [Builtin.firstCells, Sem.run_pure]
        congr 1
        apply Array.ext'
        simp [byteCells]
      · exact hb.2.1 i e (take_get he).2
      · obtain ⟨hin, he'⟩ := take_get he
        obtain ⟨a1, v, a2, a3⟩ := hb.2.2 i j e c he' hj
        have hj0 : j = 0 := by
          have h1 := (List.getElem?_eq_some_iff.1 hj).1
          have h2 := (hb.2.1 i e he').2
          omega
        subst hj0
        refine ⟨a1, v, ?_, a3⟩
        simp only [List.getElem?_toArray, Nat.mul_one, Nat.add_zero] at a2 ⊢
        rw [List.getElem?_take_of_lt hin]; exact a2
      · have := List.mem_of_mem_take hv
        obtain ⟨_, _, rfl⟩ := List.mem_map.1 this
        rfl
  · obtain ⟨a, cap, rfl, hcap, hh⟩ := sview_sound r hx e
    refine ⟨fun _ => ⟨xs.length, rfl, rfl⟩, ?_⟩
    have nil : n = 0 → ∃ us : List Value, (Builtin.firstCells k n (.slice a xs.length cap)).run P w = .ok us.toArray w ∧ RowV w (Ow X h γ) γ k (xs.take n) us.toArray ∧ us.length = n * k ∧ ∀ v ∈ us, v.oneCell' = true := by
      rintro rfl
      refine ⟨[], ?_, ⟨by simp, fun i e he => by simp at he, fun i j e c he => by simp at he⟩, by simp, fun v hv => by cases hv⟩
      cases a with
      | none => exact run_firstCells_none w k 0 xs.length cap
      | some a => exact run_firstCells_some w k 0 a xs.length cap [] (by simp) (fun j v hj => by simp at hj)
    rcases hh with rfl | ⟨b, o, k', rfl, hr⟩
    · exact nil (by simpa using hn)
    · by_cases h0 : n = 0
      · exact nil h0
      · have hne : xs ≠ [] := by rintro rfl; simp at hn; omega
        obtain rfl := hr.len hk hne
        have hr' : RowIs w (Ow X h γ) γ b o k' (xs.take n) := by simpa using hr.sub (off := 0) (len := n)
        have hl : (xs.take n).length = n := by simp; omega
        obtain ⟨us, h1, h2, h3⟩ := arr_olds (P := P) (cap := cap) hr' hkp hl
        refine ⟨rowVals w b o (n * k'), ?_, by have := hr'.rowV (n := n * k') (by rw [hl]; exact Nat.le_refl _); exact this, rowVals_length _ _ _ _, by have := hr'.one hkp; rw [hl] at this; exact this⟩
        refine run_firstCells_some w k' n _ xs.length cap _ (rowVals_length _ _ _ _) fun j u hj => ?_
        have hlt : j < (xs.take n).length * k' := by have := (List.getElem?_eq_some_iff.1 hj).1; rw [hl]; simpa [rowVals] using this
        obtain ⟨e, c, _, _, _, v, h4, _⟩ := hr'.vals hkp hlt
        rw [hl] at hlt
        rw [rowVals_get hlt h4] at hj; cases hj
        rw [addr_add]; exact h4
theorem acopy_sound (r : R X h γ w) {ts : Array TypeId} {ty : TypeId} {d x v : AV} {ud ux : Value} {h' : AHeap} (hd : V w (Ow X h γ) γ d ud) (hx : V w (Ow X h γ) γ x ux)
    (hts : 0 < ts.size) (e : acopy P (argT ts 0) h d x = some (v, h')) :
    ∃ y w', (Builtin.copy_ ts ty #[ud, ux]).run P w = .ok y w' ∧ Goes X h γ w h' γ w' ∧ V w' (Ow X h' γ) γ v y := by
  have h0 : ts[0]? = some (argT ts 0) := by unfold argT; simp [Array.getD, hts]
  generalize argT ts 0 = t at *
  unfold acopy at e
  split at e
  · cases e
  · rename_i ks bytes z hsl
    obtain ⟨el, i, zv, hu, hi, hzero, rfl, rfl, rfl, hk0, hb0, hzl, hok, hcells⟩ := tslice_all hsl
    split at e
    · cases e
    · rename_i xs hxs
      split at e
      · rename_i id off len g k
        split at e
        · rename_i k' es g' hid
          split at e
          · rename_i hcd; obtain ⟨rfl, rfl, hle, rfl, hho⟩ := hcd
            cases e
            cases hd with
            | arr id off len g k b o cap o' hg hcap ho hrow0 =>
              obtain ⟨hf, hr⟩ := r.arr hid hg
              obtain ⟨c, T, zz, hb, hsz⟩ := hrow0
              obtain ⟨hlen, us, hu1, hrow, hul, hone⟩ := afirst_sound (P := P) (n := min xs.length len) r hx hxs hho hk0 (Nat.min_le_left _ _)
              obtain ⟨m, hm1, rfl⟩ := hlen w
              have hmin : Nat.min xs.length len = min xs.length len := rfl
              have htake : xs.take len = xs.take (min xs.length len) := by
                rcases Nat.le_total xs.length len with hx' | hx'
                · rw [Nat.min_eq_left hx', List.take_of_length_le hx', List.take_of_length_le (Nat.le_refl _)]
                · rw [Nat.min_eq_right hx']
              rw [htake]
              generalize hn : min xs.length len = n at *
              have hnx : n ≤ xs.length := by omega
              have hnl : n ≤ len := by omega
              have hpos : us = [] ∨ o' = o + off * i.size := by
                rcases ho with h1 | h1
                · exact .inr h1
                · left; exact List.eq_nil_of_length_eq_zero (by rw [hul, show n = 0 by omega, Nat.zero_mul])
              have hnk : n * i.size ≤ cap * i.size := Nat.mul_le_mul_right _ (by omega)
              rw [Nat.add_mul] at hsz
              have hfitW : ∃ (c : Array Value) (T : TypeId) (z : Nat × Nat), w.heap[b]? = some (Obj.cells c T z) ∧ o + off * i.size + us.length ≤ c.size := ⟨c, T, zz, hb, by omega⟩
              have hst : (storeCells ⟨b, o', none⟩ us 0).run P w = .ok () (putW w b (o + off * i.size) us) := by
                rcases hpos with h1 | h1
                · subst h1; rfl
                · rw [h1]
                  exact run_storeCells P us w (o + off * i.size) 0 hf (fun c2 T2 z2 hh2 => by rw [hb] at hh2; cases hh2; omega) hone
              obtain ⟨hc1, hc2⟩ := putW_cell us hfitW
              have hog : ogen (hget h id) = some g := by rw [hid]; rfl
              have htl : (xs.take n).length = n := by simp; omega
              have h1l : (es.take off).length = off := by simp; omega
              have hgo : Goes X h γ w (h.set id (.arr i.size (es.take off ++ xs.take n ++ es.drop (off + n)) g)) γ (putW w b (o + off * i.size) us) := by
                refine write_goes r hog hg hfitW (o' := .arr i.size _ g) rfl (fun k2 es2 g2 e => by cases e; exact fun j q hq => r.gens _ _ _ _ _ _ hid hq) fun s => ?_
                have get : ∀ m e, (es.take off ++ xs.take n ++ es.drop (off + n))[m]? = some e → (es[m]? = some e ∧ (m < off ∨ off + n ≤ m)) ∨ (∃ q, q < n ∧ m = off + q ∧ (xs.take n)[q]? = some e) := by
                  intro m e he
                  by_cases h1 : m < off
                  · rw [List.append_assoc, List.getElem?_append_left (by omega), List.getElem?_take_of_lt h1] at he
                    exact .inl ⟨he, .inl h1⟩
                  · by_cases h2 : m < off + n
                    · rw [List.append_assoc, List.getElem?_append_right (by omega), List.getElem?_append_left (by omega), h1l] at he
                      exact .inr ⟨m - off, by omega, by omega, he⟩
                    · rw [List.getElem?_append_right (by simp; omega), List.getElem?_drop] at he
                      simp only [List.length_append, h1l, htl] at he
                      rw [show off + n + (m - (off + n)) = m by omega] at he
                      exact .inl ⟨he, .inr (by omega)⟩
                refine ⟨b, o, hg, putW_free _ hf (fun c2 T2 z2 hh2 => by rw [hb] at hh2; cases hh2; omega), fun m e he => ?_, fun m j e cc he hj => ?_⟩
                · rcases get m e he with ⟨h1, _⟩ | ⟨q, _, rfl, h1⟩
                  · exact hr.1 m e h1
                  · exact hrow.2.1 q e h1
                · rcases get m e he with ⟨h1, h2⟩ | ⟨q, hq, rfl, h1⟩
                  · obtain ⟨a1, v, a2, a3⟩ := hr.2 m j e cc h1 hj
                    have hjk : j < i.size := by have := (List.getElem?_eq_some_iff.1 hj).1; rw [(hr.1 m e h1).2] at this; exact this
                    refine ⟨a1, v, ?_, a3.mono s⟩
                    rw [hc1 _ ?_]; · exact a2
                    rw [hul]
                    rcases h2 with h2 | h2
                    · left; have := slot_lt h2 hjk; omega
                    · right; have := Nat.mul_le_mul_right i.size h2; rw [Nat.add_mul] at this; omega
                  · obtain ⟨a1, v, a2, a3⟩ := hrow.2.2 q j e cc h1 hj
                    have hlt := (Array.getElem?_eq_some_iff.1 a2).1
                    simp only [List.size_toArray] at hlt
                    refine ⟨a1, v, ?_, a3.mono s⟩
                    have := hc2 (q * i.size + j) hlt
                    rw [Nat.add_mul, show o + (off * i.size + q * i.size) + j = o + off * i.size + (q * i.size + j) by omega, this]
                    simpa using a2
              refine ⟨.int .i64 (n : Int), _, ?_, hgo, .val _⟩
              simp only [Builtin.copy_, h0, Sem.run_bind]
              simp [run_underlying hu, hm1, hmin, hn, sizeOf, typeInfo, hi, hu1, hst, goInt]
          · cases e
        · cases e
      · cases e
theorem alen_sound {ts : Array TypeId} {ty : TypeId} {x v : AV} {u : Value} (hts : 0 < ts.size) (hx : V w O γ x u) (e : alen P (argT ts 0) x = some v) : ∃ y, (Builtin.len_ ts ty #[u]).run P w = .ok y w ∧ V w O γ v y := by
  have h0 : ts[0]? = some (argT ts 0) := by unfold argT; simp [Array.getD, hts]
  generalize argT ts 0 = t at *
  unfold alen at e
  split at e
  · split at e
    · rename_i ht; cases hx.val_inv; cases e
      exact ⟨_, by simp [Builtin.len_, h0, run_underlying (strT_iff ht)]; rfl, .val _⟩
    · cases e
  · split at e
    · rename_i n el ht
      cases e
      have hu := tarr_iff ht
      refine ⟨goInt n, ?_, .val _⟩
      cases u <;> simp [Builtin.len_, h0, run_underlying hu]
    · rename_i ks b z ht hsl
      obtain ⟨el, hu, _, _⟩ := tslice_iff hsl
      cases hx with
      | slc0 full a0 => simp [slen] at e; subst e; exact ⟨_, by simp [Builtin.len_, h0, run_underlying hu]; rfl, .val _⟩
      | slc full es b o cap k vals _ _ _ _ _ => simp [slen] at e; subst e; exact ⟨_, by simp [Builtin.len_, h0, run_underlying hu]; rfl, .val _⟩
      | arr id off len g k b o cap o' _ _ _ _ => simp [slen] at e; subst e; exact ⟨_, by simp [Builtin.len_, h0, run_underlying hu]; rfl, .val _⟩
      | emp a0 cap => simp [slen] at e; subst e; exact ⟨_, by simp [Builtin.len_, h0, run_underlying hu]; rfl, .val _⟩
      | _ => simp [slen] at e
    · cases e
theorem afold_sound {f : AV → AV → Option AV} {g : Value → Value → Sem Value} (hfg : ∀ {a b c : AV} {x y : Value}, V w O γ a x → V w O γ b y → f a b = some c → ∃ z, (g x y).run P w = .ok z w ∧ V w O γ c z) :
    ∀ (l : List AV) (vs : List Value) {a c : AV} {x : Value}, V w O γ a x → l.length = vs.length → (∀ (i : Nat) (b : AV) (y : Value), l[i]? = some b → vs[i]? = some y → V w O γ b y) → afold f a l = some c →
      ∃ z, (vs.foldlM g x).run P w = .ok z w ∧ V w O γ c z := by
  intro l
  induction l with
  | nil =>
    intro vs a c x ha hl _ e
    cases vs with
    | nil => cases e; exact ⟨x, rfl, ha⟩
    | cons _ _ => simp at hl
  | cons b r ih =>
    intro vs a c x ha hl hv e
    cases vs with
    | nil => simp at hl
    | cons y t =>
      unfold afold at e
      split at e
      · rename_i z hz
        obtain ⟨z', h1, h2⟩ := hfg ha (hv 0 _ _ rfl rfl) hz
        obtain ⟨z2, h3, h4⟩ := ih t h2 (by simpa using hl) (fun i b y hb hy => hv (i + 1) b y (by simpa using hb) (by simpa using hy)) e
        exact ⟨z2, by simp only [List.foldlM_cons, Sem.run_bind, h1, Result.andThen_ok, h3], h4⟩
      · cases e
theorem amin2_sound {a b c : AV} {x y : Value} (ha : V w O γ a x) (hb : V w O γ b y) (e : amin2 a b = some c) : ∃ z, (Builtin.min2 x y).run P w = .ok z w ∧ V w O γ c z := by
  unfold amin2 at e
  split at e
  · cases ha.val_inv; cases hb.val_inv; cases e; exact ⟨_, rfl, .val _⟩
  · cases e
theorem amax2_sound {a b c : AV} {x y : Value} (ha : V w O γ a x) (hb : V w O γ b y) (e : amax2 a b = some c) : ∃ z, (Builtin.max2 x y).run P w = .ok z w ∧ V w O γ c z := by
  unfold amax2 at e
  split at e
  · cases ha.val_inv; cases hb.val_inv; cases e; exact ⟨_, rfl, .val _⟩
  · cases e
end
end Go.Ab
