/-
  Each operation of the abstract machine is one of the model's: new memory, stores.
-/
import Derived.Test.YtlpkfeplbcadbaaAb8
import Derived.IntWalk
namespace Go.Ab
set_option linter.unusedSimpArgs false
set_option linter.unusedVariables false
section
variable {P : Program} {X O : Nat → Prop} {h : AHeap} {γ : Ghost} {w : World}

/-- A new block of which the abstract memory does not know. -/
theorem idle_goes (r : R X h γ w) {w' : World} {o : Obj} (hw : w'.heap = w.heap.push o) (h1 : w'.os = w.os) (h2 : w'.tape = w.tape) (h3 : w'.output = w.output) : Goes X h γ w h γ w' := by
  have hold : ∀ b, b < w.heap.size → w'.heap[b]? = w.heap[b]? := fun b hb => by rw [hw, Array.getElem?_push, if_neg (by omega)]
  have hstep : Step w w' (Own h γ) := ⟨h1, h2, h3, by rw [hw]; simp, fun b hb _ => hold b hb, fun b c' T' z' hh => ⟨c', z', by rw [hold b (Array.getElem?_eq_some_iff.1 hh).1]; exact hh, rfl⟩⟩
  have hsees : Sees w (Ow X h γ) γ w' (Ow X h γ) γ := ⟨fun _ _ _ e => e, fun b off v hO hv => ⟨hO, by rw [cell?_of_heap (hold b (lt_of_cell hv))]; exact hv⟩, hstep.row⟩
  exact ⟨⟨r.dom, r.gens, fun id => (r.obj id).keep hsees fun g b p e1 e2 => hold b (r.own_lt ⟨id, g, p, e2, e1⟩), r.inj, r.apart, fun b hb => Nat.lt_of_lt_of_le (r.xin b hb) hstep.size⟩,
    fun _ _ _ e => e, hstep, fun _ _ e => e⟩
/-- A draw alone. -/
theorem drew_goes (r : R X h γ w) : Goes X h γ w h γ w.drew :=
  ⟨⟨r.dom, r.gens, fun id => (r.obj id).keep ⟨fun _ _ _ e => e, fun _ _ _ hO hv => ⟨hO, hv⟩, fun _ c _ z hh => ⟨c, z, hh, rfl⟩⟩ fun _ _ _ _ _ => rfl, r.inj, r.apart, r.xin⟩,
    fun _ _ _ e => e, ⟨rfl, rfl, rfl, Nat.le_refl _, fun _ _ _ => rfl, fun _ c _ z hh => ⟨c, z, hh, rfl⟩⟩, fun _ _ e => e⟩

/-! ### Rows -/
def putV (vs : Array Value) (off : Nat) (us : List Value) : Array Value := us.zipIdx.foldl (fun (cs : Array Value) (p : Value × Nat) => cs.setIfInBounds (off + p.2) p.1) vs
theorem putV_cons (vs : Array Value) (off : Nat) (u : Value) (us : List Value) : putV vs off (u :: us) = putV (vs.setIfInBounds off u) (off + 1) us := by
  unfold putV
  simp only [List.zipIdx_cons, List.foldl_cons, Nat.add_zero, Nat.zero_add]
  rw [foldl_put]
theorem putV_size (us : List Value) : ∀ (vs : Array Value) (off : Nat), (putV vs off us).size = vs.size := by
  induction us with
  | nil => intro vs off; rfl
  | cons u r ih => intro vs off; rw [putV_cons, ih]; simp
theorem putV_other (us : List Value) : ∀ (vs : Array Value) (off m : Nat), (m < off ∨ off + us.length ≤ m) → (putV vs off us)[m]? = vs[m]? := by
  induction us with
  | nil => intro vs off m _; rfl
  | cons u r ih =>
    intro vs off m hm
    simp only [List.length_cons] at hm
    rw [putV_cons, ih _ _ _ (by omega), Array.getElem?_setIfInBounds_ne (by omega)]
theorem putV_at (us : List Value) : ∀ (vs : Array Value) (off j : Nat), j < us.length → off + us.length ≤ vs.size → (putV vs off us)[off + j]? = us[j]? := by
  induction us with
  | nil => intro vs off j hj; simp at hj
  | cons u r ih =>
    intro vs off j hj hs
    simp only [List.length_cons] at hj hs
    rw [putV_cons]
    cases j with
    | zero =>
      rw [Nat.add_zero, putV_other _ _ _ _ (by omega)]
      have : off < vs.size := by omega
      simp [this]
    | succ n =>
      have := ih (vs.setIfInBounds off u) (off + 1) n (by omega) (by simp; omega)
      rw [show off + (n + 1) = off + 1 + n by omega, this]
      simp
/-- A row of elements in an array of cells. -/
def RowV (w : World) (O : Nat → Prop) (γ : Ghost) (k : Nat) (es : List AV) (vs : Array Value) : Prop :=
  es.length * k ≤ vs.size ∧ (∀ (i : Nat) (e : AV), es[i]? = some e → okVal e = true ∧ e.cells.length = k) ∧
    ∀ (i j : Nat) (e c : AV), es[i]? = some e → e.cells[j]? = some c → isCell c = true ∧ ∃ v, vs[i * k + j]? = some v ∧ V w O γ c v
theorem mul_slot {i i' k j j' : Nat} (hj : j < k) (hj' : j' < k) (e : i * k + j = i' * k + j') : i = i' ∧ j = j' := by
  have h1 : (i * k + j) / k = i := by rw [Nat.mul_comm, Nat.mul_add_div (by omega), Nat.div_eq_of_lt hj, Nat.add_zero]
  have h2 : (i' * k + j') / k = i' := by rw [Nat.mul_comm, Nat.mul_add_div (by omega), Nat.div_eq_of_lt hj', Nat.add_zero]
  have : i = i' := by rw [← h1, ← h2, e]
  subst this
  exact ⟨rfl, by omega⟩
theorem slot_lt {i n k j : Nat} (hi : i < n) (hj : j < k) : i * k + j < n * k := by
  have : (i + 1) * k ≤ n * k := Nat.mul_le_mul_right k hi
  rw [Nat.add_mul] at this
  omega
theorem RowV.set {k : Nat} {es : List AV} {vs : Array Value} (hr : RowV w O γ k es vs) {i : Nat} (hi : i < es.length) {a : AV} {u : Value} (ha : V w O γ a u) (hk : okVal a = true) (hl : a.cells.length = k) :
    RowV w O γ k (es.set i a) (putV vs (i * k) u.cells.toList) := by
  have hcv := ha.cv hk
  have hsz : u.cells.toList.length = k := by simpa using hcv.1.symm.trans hl
  have hfit : i * k + k ≤ vs.size := by
    have h1 := hr.1
    have h2 : (i + 1) * k ≤ es.length * k := Nat.mul_le_mul_right k hi
    rw [Nat.add_mul] at h2
    omega
  refine ⟨by rw [List.length_set, putV_size]; exact hr.1, fun m e he => ?_, fun m j e c he hj => ?_⟩
  · by_cases e1 : i = m
    · subst e1; rw [List.getElem?_set_self (by omega)] at he; cases he; exact ⟨hk, hl⟩
    · rw [List.getElem?_set_ne e1] at he; exact hr.2.1 m e he
  · by_cases e1 : i = m
    · subst e1
      rw [List.getElem?_set_self (by omega)] at he; cases he
      have hjk : j < k := by have := (List.getElem?_eq_some_iff.1 hj).1; omega
      refine ⟨hcv.2.1 _ _ hj, ?_⟩
      have hju : j < u.cells.size := by rw [← hcv.1]; omega
      refine ⟨u.cells[j], ?_, hcv.2.2 _ _ _ hj (by simp [hju])⟩
      rw [putV_at _ _ _ _ (by omega) (by omega)]
      simp [hju]
    · rw [List.getElem?_set_ne e1] at he
      obtain ⟨h1, v, h2, h3⟩ := hr.2.2 m j e c he hj
      have hjk : j < k := by have := (List.getElem?_eq_some_iff.1 hj).1; rw [(hr.2.1 m e he).2] at this; exact this
      refine ⟨h1, v, ?_, h3⟩
      rw [putV_other _ _ _ _ ?_]
      · exact h2
      · rw [hsz]
        rcases Nat.lt_or_gt_of_ne e1 with hlt | hgt
        · right
          have := Nat.mul_le_mul_right k hlt
          rw [Nat.succ_mul] at this
          omega
        · left; exact slot_lt hgt hjk
theorem RowV.replicate {k n : Nat} {z : AV} {zv : Value} {vs : Array Value} (hz : V w O γ z zv) (hok : okVal z = true) (hl : z.cells.length = k) (hsz : n * k ≤ vs.size)
    (hv : ∀ i j, i < n → j < k → vs[i * k + j]? = zv.cells[j]?) : RowV w O γ k (List.replicate n z) vs := by
  have hcv := hz.cv hok
  refine ⟨by simpa using hsz, fun i e he => ?_, fun i j e c he hj => ?_⟩
  · have := (List.mem_replicate.1 (List.mem_of_getElem? he)).2; subst this; exact ⟨hok, hl⟩
  · have hi : i < n := by have := (List.getElem?_eq_some_iff.1 he).1; simpa using this
    have := (List.mem_replicate.1 (List.mem_of_getElem? he)).2; subst this
    have hjk : j < k := by have := (List.getElem?_eq_some_iff.1 hj).1; omega
    have hju : j < zv.cells.size := by rw [← hcv.1]; omega
    exact ⟨hcv.2.1 _ _ hj, zv.cells[j], by rw [hv i j hi hjk]; simp [hju], hcv.2.2 _ _ _ hj (by simp [hju])⟩
theorem zeros_at (zero : Array Value) (k n m : Nat) (hk : zero.size = k) (h0 : 0 < k) (hm : m < n) : ((Array.range n).map (zero[· % zero.size]!))[m]? = zero[m % k]? := by
  have hlt : m % k < zero.size := by rw [hk]; exact Nat.mod_lt _ h0
  rw [Array.getElem?_map, Array.getElem?_eq_getElem hlt]
  have e : (Array.range n)[m]? = some m := by simp [hm]
  rw [e]
  simp only [Option.map_some, hk]
  rw [getElem!_pos zero (m % k) hlt]
theorem range0 (f : Nat → Value) : (Array.range 0).map f = #[] := by apply Array.ext'; simp
theorem afillS_sound {k : Nat} (hkp : 0 < k) : ∀ (parts : List (Nat × AV)) (vparts : List (Nat × Value)) {es es' : List AV} {vs : Array Value}, RowV w O γ k es vs →
    parts.length = vparts.length → (∀ (i : Nat) (p : Nat × AV) (q : Nat × Value), parts[i]? = some p → vparts[i]? = some q → p.1 = q.1 ∧ V w O γ p.2 q.2) → afillS k es parts = some es' →
    ∃ vs', Instr.fill (fun i => some (i * k, k)) vs vparts = some vs' ∧ RowV w O γ k es' vs' ∧ vs'.size = vs.size ∧ es'.length = es.length := by
  intro parts
  induction parts with
  | nil =>
    intro vparts es es' vs hr hl _ e
    cases vparts with
    | nil => cases e; exact ⟨vs, rfl, hr, rfl, rfl⟩
    | cons _ _ => simp at hl
  | cons p r ih =>
    intro vparts es es' vs hr hl hv e
    cases vparts with
    | nil => simp at hl
    | cons q t =>
      obtain ⟨i, v⟩ := p
      obtain ⟨i', u⟩ := q
      obtain ⟨rfl, hvu⟩ := hv 0 _ _ rfl rfl
      simp only [afillS] at e
      split at e
      · rename_i hcd; obtain ⟨h1, h2, h3⟩ := hcd
        have hcv := hvu.cv h2
        have hsz : u.cells.size = k := by rw [← hcv.1]; exact h1
        have hfit : i * k + k ≤ vs.size := by
          have h4 := hr.1
          have h5 : (i + 1) * k ≤ es.length * k := Nat.mul_le_mul_right k h3
          rw [Nat.add_mul] at h5
          omega
        simp only [Instr.fill]
        rw [if_neg (by simp only [ne_eq, Bool.or_eq_true, decide_eq_true_eq, not_or, Decidable.not_not]; exact ⟨hsz, by omega⟩)]
        obtain ⟨vs', a1, a2, a3, a4⟩ := ih t (hr.set h3 hvu h2 h1) (by simpa using hl) (fun i p q hp hq => hv (i + 1) p q (by simpa using hp) (by simpa using hq)) e
        refine ⟨vs', ?_, a2, by rw [a3, putV_size], by rw [a4]; simp⟩
        rw [zipIdx_foldl_array]
        exact a1
      · cases e
/-- A new slice that nobody writes. -/
theorem new_slc (r : R X h γ w) {w' : World} {k : Nat} {es : List AV} {vs : Array Value} {T : TypeId} {z : Nat × Nat} (hw : w'.heap = w.heap.push (.cells vs T z)) (g : Goes X h γ w h γ w')
    (hr : RowV w (Ow X h γ) γ k es vs) : V w' (Ow X h γ) γ (.slc true es) (.slice (some ⟨w.heap.size, 0, none⟩) es.length es.length) := by
  have hnew : w'.heap[w.heap.size]? = some (.cells vs T z) := by rw [hw]; simp
  refine .slc true es _ _ _ k (fun i j => (vs[i * k + j]?).getD undef) (Nat.le_refl _) (fun _ => rfl) hr.2.1 (fun i j e c he hj => ?_) (fun i j e c he hj => ?_)
  · obtain ⟨h1, v, h2, h3⟩ := hr.2.2 i j e c he hj
    refine ⟨h1, ?_, ?_⟩
    · rintro (hx | ho)
      · exact absurd (r.xin _ hx) (Nat.lt_irrefl _)
      · exact absurd (r.own_lt ho) (Nat.lt_irrefl _)
    · rw [cell_iff hnew, Nat.zero_add, h2]; rfl
  · obtain ⟨h1, v, h2, h3⟩ := hr.2.2 i j e c he hj
    rw [h2]; exact h3.goes g
theorem abuildSlice_sound (r : R X h γ w) {t : TypeId} {len : Nat} {parts : List (Nat × AV)} {vparts : Array (Nat × Value)} {v : AV} (hl : parts.length = vparts.size)
    (hv : ∀ (i : Nat) (p : Nat × AV) (q : Nat × Value), parts[i]? = some p → vparts[i]? = some q → p.1 = q.1 ∧ V w (Ow X h γ) γ p.2 q.2) (e : abuildSlice P t len parts = some v) :
    ∃ x w', (Instr.buildSlice t len vparts).run P w = .ok x w' ∧ Goes X h γ w h γ w' ∧ V w' (Ow X h γ) γ v x := by
  unfold abuildSlice at e
  have hv' : ∀ (i : Nat) (p : Nat × AV) (q : Nat × Value), parts[i]? = some p → vparts.toList[i]? = some q → p.1 = q.1 ∧ V w (Ow X h γ) γ p.2 q.2 := fun i p q hp hq => hv i p q hp (by simpa using hq)
  split at e
  · rename_i k bb z hsl
    split at e
    · rename_i hsmall
      obtain ⟨el, i, zv, hu, hi, hzero, rfl, rfl, rfl, hk0, hb0, hzl, hok, hcells⟩ := tslice_all hsl
      cases hf : afillS i.size (List.replicate len (ofVal zv)) parts with
      | none => rw [hf] at e; cases e
      | some es' =>
        rw [hf] at e; cases e
        have hzV : V w (Ow X h γ) γ (ofVal zv) zv := ofVal_V zv hcells
        have hzs : zv.cells.size = i.size := by rw [← (hzV.cv hok).1]; exact hzl
        have hsize : (sizeOf el).run P w = .ok i.size w := by simp [sizeOf, typeInfo, hi]
        by_cases hlen : len = 0
        · subst hlen
          obtain ⟨vs', a1, a2, a3, a4⟩ := afillS_sound (w := w) (O := Ow X h γ) (γ := γ) hk0 parts vparts.toList (vs := #[]) (es := []) ⟨by simp, fun i e he => by simp at he, fun i j e c he => by simp at he⟩ (by simpa using hl) hv' (by simpa using hf)
          have hg := idle_goes r (w' := w.alloc (.cells vs' el)) (o := .cells vs' el) rfl rfl rfl rfl
          refine ⟨.slice (some ⟨w.heap.size, 0, none⟩) 0 0, w.alloc (.cells vs' el), ?_, hg, ?_⟩
          · simp only [Instr.buildSlice, Sem.run_bind, run_underlying hu, Result.andThen_ok, hsize, Nat.zero_mul, if_true, Sem.run_pure, range0, a1, newRow, run_newObj]
            rw [if_neg (by omega)]
            simp only [Sem.run_pure, Result.andThen_ok, range0, a1, Sem.run_bind, run_newObj]
            rfl
          · have := new_slc r rfl hg a2
            rw [a4] at this
            exact this
        · have hpos : 0 < len * i.size := Nat.mul_pos (by omega) hk0
          have hrow : RowV w (Ow X h γ) γ i.size (List.replicate len (ofVal zv)) ((Array.range (len * i.size)).map (zv.cells[· % zv.cells.size]!)) := by
            refine RowV.replicate hzV hok hzl (by simp) fun a b ha hb => ?_
            rw [zeros_at _ i.size _ _ hzs hk0 (slot_lt ha hb), Nat.mul_comm, Nat.mul_add_mod, Nat.mod_eq_of_lt hb]
          obtain ⟨vs', a1, a2, a3, a4⟩ := afillS_sound hk0 parts vparts.toList hrow (by simpa using hl) hv' hf
          have hg := idle_goes r (w' := w.alloc (.cells vs' el)) (o := .cells vs' el) rfl rfl rfl rfl
          have hlen' : es'.length = len := by rw [a4]; simp
          refine ⟨.slice (some ⟨w.heap.size, 0, none⟩) len len, w.alloc (.cells vs' el), ?_, hg, ?_⟩
          · have hns : ¬ (len * i.size > 2 ^ 24) := by omega
            have hn0 : ¬ (len * i.size = 0) := by omega
            simp only [Instr.buildSlice, Sem.run_bind, run_underlying hu, Result.andThen_ok, hsize, if_neg hns, if_neg hn0, Sem.run_pure, run_zeroValue hi hzero, a1, newRow, run_newObj]
            rfl
          · have := new_slc r rfl hg a2
            rw [hlen'] at this
            exact this
    · cases e
  · cases e
theorem box_goes (r : R X h γ w) {a : AV} {u : Value} (ha : V w (Ow X h γ) γ a u) (hk : okVal a = true) (t : TypeId) :
    ∃ w' γ', (newVar t u).run P w = .ok ⟨w.heap.size, 0, none⟩ w' ∧ Goes X h γ w (h ++ [.vars a.cells]) γ' w' ∧ V w' (Ow X (h ++ [.vars a.cells]) γ') γ' (.ptr h.length 0) (.pointer (some ⟨w.heap.size, 0, none⟩)) := by
  have hcv := ha.cv hk
  refine ⟨w.alloc (.cells u.cells t), γ.put h.length 0 (w.heap.size, 0), rfl, alloc_goes r (T := t) (z := (0, 0)) (c := u.cells) rfl rfl rfl rfl (fun off _ => by simp) ?_, ?_⟩
  · intro j x hj
    have hlt : j < u.cells.size := by have := (List.getElem?_eq_some_iff.1 hj).1; rw [← hcv.1]; exact this
    exact ⟨hcv.2.1 _ _ hj, u.cells[j], by simp [hlt], hcv.2.2 _ _ _ hj (by simp [hlt])⟩
  · exact .ptr h.length 0 w.heap.size 0 (by simp [Ghost.put])
theorem amake_sound (r : R X h γ w) {t : TypeId} {l c v : AV} {ul uc : Value} {h' : AHeap} (hl : V w (Ow X h γ) γ l ul) (hc : V w (Ow X h γ) γ c uc) (e : amake P t h l c = some (v, h')) :
    ∃ x w' γ', (Instr.makeSlice t ul uc).run P w = .ok x w' ∧ Goes X h γ w h' γ' w' ∧ V w' (Ow X h' γ') γ' v x := by
  unfold amake at e
  split at e
  · rename_i k bytes z ln cn hsl h1 h2
    obtain ⟨k1, rfl⟩ := asInt_inv h1
    obtain ⟨k2, rfl⟩ := asInt_inv h2
    cases hl.val_inv; cases hc.val_inv
    split at e
    · rename_i hcd; obtain ⟨c1, c2, c3⟩ := hcd
      cases e
      obtain ⟨el, i, zv, hu, hi, hzero, rfl, rfl, rfl, hk0, hb0, hzl, hok, hcells⟩ := tslice_all hsl
      have hzV : V w (Ow X h γ) γ (ofVal zv) zv := ofVal_V zv hcells
      have hzs : zv.cells.size = i.size := by rw [← (hzV.cv hok).1]; exact hzl
      have hcn : cn.toNat ≤ 2 ^ 47 := Nat.le_trans (Nat.le_mul_of_pos_right _ hb0) c3
      have wl : IntKind.i64.wrap ln = ln := IntWalk.i64_in _ (by omega)
      have wc : IntKind.i64.wrap cn = cn := IntWalk.i64_in _ (by omega)
      have hmul : (i.bytes : Int) * cn ≤ 2 ^ 47 := by
        have : ((cn.toNat * i.bytes : Nat) : Int) ≤ 2 ^ 47 := by exact_mod_cast c3
        rw [Int.natCast_mul, Int.toNat_of_nonneg (by omega), Int.mul_comm] at this
        exact this
      have hsize : (sizeOf el).run P w = .ok i.size w := by simp [sizeOf, typeInfo, hi]
      have hinfo : (typeInfo el).run P w = .ok i w := by simp [typeInfo, hi]
      let vs : Array Value := if cn.toNat * i.size = 0 then #[] else (Array.range (cn.toNat * i.size)).map (zv.cells[· % zv.cells.size]!)
      have hvs : vs.size = cn.toNat * i.size := by
        simp only [vs]; split
        · rename_i h0; simp [h0]
        · simp
      have hrun : (Instr.makeSlice t (.int k1 ln) (.int k2 cn)).run P w = .ok (.slice (some ⟨w.heap.size, 0, none⟩) ln.toNat cn.toNat) (w.alloc (.cells vs el)) := by
        have t1 : ((decide (cn < 0) || decide ((i.bytes : Int) * cn > 2 ^ 48) || decide (ln < 0) || decide (ln > cn)) = true) = False := by
          simp; omega
        simp only [Instr.makeSlice, Sem.run_bind, run_underlying hu, Result.andThen_ok, run_asInt, hinfo, wl, wc, t1, if_false, run_askRoom, hsize, Sem.run_pure]
        by_cases h0 : cn.toNat * i.size = 0
        · have hvs0 : vs = #[] := by simp only [vs, h0, if_true]
          simp only [h0, if_true, Sem.run_pure, Result.andThen_ok, newRow, Sem.run_bind, run_newObj, range0, hvs0]
          rfl
        · simp only [h0, if_false, Sem.run_bind, Sem.run_pure, run_zeroValue hi hzero, Result.andThen_ok, newRow, run_newObj, vs]
          rfl
      have hlc : ln.toNat ≤ cn.toNat := by omega
      have hlk : ln.toNat * i.size ≤ cn.toNat * i.size := Nat.mul_le_mul_right _ hlc
      have hrow : RowV w (Ow X h γ) γ i.size (List.replicate ln.toNat (ofVal zv)) vs := by
        refine RowV.replicate hzV hok hzl (by omega) fun a b ha hb => ?_
        have hab := slot_lt ha hb
        have h0 : ¬ (cn.toNat * i.size = 0) := by omega
        simp only [vs, h0, if_false]
        rw [zeros_at _ i.size _ _ hzs hk0 (by omega), Nat.mul_comm, Nat.mul_add_mod, Nat.mod_eq_of_lt hb]
      have hg := alloc_goes r (w' := w.alloc (.cells vs el)) (T := el) (z := (0, 0)) (c := vs) (o := .arr i.size (List.replicate ln.toNat (ofVal zv)) 0) rfl rfl rfl rfl (fun off _ => by simp) ⟨rfl, hrow.2.1, hrow.2.2⟩
      refine ⟨_, _, _, hrun, hg, ?_⟩
      refine .arr h.length 0 ln.toNat 0 i.size w.heap.size 0 cn.toNat 0 (by simp [Ghost.put]) hlc (.inl (by simp)) ⟨vs, el, (0, 0), by simp [World.alloc, -World.alloc_eq], ?_⟩
      rw [hvs]; simp
    · cases e
  · cases e
end
end Go.Ab
