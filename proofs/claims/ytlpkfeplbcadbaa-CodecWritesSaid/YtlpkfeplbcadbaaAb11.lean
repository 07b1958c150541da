/-
  Each operation of the abstract machine is one of the model's: conversions, append, copy, len.
-/
import Derived.Test.YtlpkfeplbcadbaaAb10
namespace Go.Ab
section
variable {P : Program} {X O : Nat → Prop} {h : AHeap} {γ : Ghost} {w : World}

theorem setCells_eq (b : Nat) (vs : List Value) : ∀ (w : World) (o : Nat), w.setCells b o vs = putW w b o vs := by
  induction vs with
  | nil => intro w o; rfl
  | cons v r ih => intro w o; exact ih _ _

/-! ### What a slice shows -/
theorem RowIs.sub {b o k off len : Nat} {es : List AV} (hr : RowIs w O γ b o k es) : RowIs w O γ b (o + off * k) k ((es.drop off).take len) :=
  ⟨fun i e he => hr.1 _ _ (take_drop_get he).2, fun i j e c he hj => by
    obtain ⟨h1, v, h2, h3⟩ := hr.2 _ _ _ _ (take_drop_get he).2 hj
    exact ⟨h1, v, by rw [← h2, Nat.add_mul]; congr 2; omega, h3⟩⟩
theorem RowIs.nil (b o k : Nat) : RowIs w O γ b o k [] := ⟨fun i e he => by simp at he, fun i j e c he => by simp at he⟩
/-- A slice's value, and the row behind it. -/
def Shows (w : World) (O : Nat → Prop) (γ : Ghost) (es : List AV) (u : Value) : Prop :=
  ∃ a cap, u = .slice a es.length cap ∧ es.length ≤ cap ∧ (es = [] ∨ ∃ b o k, a = some ⟨b, o, none⟩ ∧ RowIs w O γ b o k es)
theorem sview_sound (r : R X h γ w) {x : AV} {u : Value} {es : List AV} (hx : V w (Ow X h γ) γ x u) (e : sview h x = some es) : Shows w (Ow X h γ) γ es u := by
  cases hx with
  | slc0 full a0 => cases e; exact ⟨a0, 0, rfl, Nat.le_refl _, .inl rfl⟩
  | slc full es b o cap k vals hcap hfull hk hc hv =>
    cases e
    exact ⟨some ⟨b, o, none⟩, cap, rfl, hcap, .inr ⟨b, o, k, rfl, hk, fun i j e c he hj => ⟨(hc i j e c he hj).1, vals i j, (hc i j e c he hj).2.2, hv i j e c he hj⟩⟩⟩
  | arr id off len g k b o cap o' hg hcap ho hrow =>
    have fin : ∀ {es0 : List AV}, off + len ≤ es0.length → RowIs w (Ow X h γ) γ b o k es0 → Shows w (Ow X h γ) γ ((es0.drop off).take len) (.slice (some ⟨b, o', none⟩) len cap) := by
      intro es0 hle hr
      have hlen : ((es0.drop off).take len).length = len := by simp; omega
      refine ⟨some ⟨b, o', none⟩, cap, by rw [hlen], by rw [hlen]; exact hcap, .inr ⟨b, o', k, rfl, ?_⟩⟩
      rcases ho with rfl | h0
      · exact hr.sub
      · have : (es0.drop off).take len = [] := List.eq_nil_of_length_eq_zero (by omega)
        rw [this]; exact RowIs.nil _ _ _
    simp only [sview] at e
    split at e
    · rename_i k' es' g' hid
      split at e
      · rename_i hc; obtain ⟨rfl, rfl, hle⟩ := hc; cases e; exact fin hle (r.arr hid hg).2
      · cases e
    · rename_i k' es' g' hid
      split at e
      · rename_i hc; obtain ⟨rfl, rfl, hle⟩ := hc; cases e; exact fin hle (r.frz hid hg).1
      · cases e
    · rename_i cs hid
      split at e
      · rename_i hc; obtain ⟨rfl, rfl, hle⟩ := hc
        cases e
        have hcs := (r.vars hid hg).2
        refine fin hle ⟨fun i e he => ?_, fun i j e c he hj => ?_⟩
        · obtain ⟨k1, v, _, k3⟩ := hcs i e he
          refine ⟨?_, by rw [(k3.cell_one k1).2.2]; rfl⟩
          cases e <;> first | rfl | (simp [isCell] at k1; done) | skip
          rename_i v'; cases v' <;> first | rfl | (simp [isCell] at k1; done)
        · obtain ⟨k1, v, k2, k3⟩ := hcs i e he
          rw [(k3.cell_one k1).2.2] at hj
          cases j with
          | zero => simp at hj; subst hj; exact ⟨k1, v, by simpa using k2, k3⟩
          | succ n => simp at hj
      · cases e
    · cases e
  | _ => simp [sview] at e
theorem RowIs.len {b o k kk : Nat} {es : List AV} (hr : RowIs w O γ b o k es) (ho : headOk kk es = true) (hne : es ≠ []) : k = kk := headOk_k hr.1 ho hne
/-- The cells behind a row, as a list. -/
def rowVals (w : World) (b o n : Nat) : List Value := (List.range n).map fun m => (w.cell? ⟨b, o + m, none⟩).getD undef
theorem RowIs.vals {b o k : Nat} {es : List AV} (hr : RowIs w O γ b o k es) (hk : 0 < k) {m : Nat} (hm : m < es.length * k) :
    ∃ e c, es[m / k]? = some e ∧ e.cells[m % k]? = some c ∧ isCell c = true ∧ ∃ v, w.cell? ⟨b, o + m, none⟩ = some v ∧ V w O γ c v := by
  have hq : m / k < es.length := (Nat.div_lt_iff_lt_mul hk).2 hm
  have hr1 := hr.1 (m / k) es[m / k] (by simp [hq])
  have hj : m % k < es[m / k].cells.length := by rw [hr1.2]; exact Nat.mod_lt _ hk
  have h1 : es[m / k]? = some es[m / k] := List.getElem?_eq_getElem hq
  have h2 : es[m / k].cells[m % k]? = some (es[m / k].cells[m % k]) := List.getElem?_eq_getElem hj
  obtain ⟨a1, v, a2, a3⟩ := hr.2 (m / k) (m % k) _ _ h1 h2
  refine ⟨_, _, h1, h2, a1, v, ?_, a3⟩
  rw [← a2, Nat.mul_comm (m / k) k, Nat.add_assoc, Nat.div_add_mod]
theorem rowVals_length (w : World) (b o n : Nat) : (rowVals w b o n).length = n := by simp [rowVals]
theorem rowVals_get {b o n m : Nat} {v : Value} (hm : m < n) (hv : w.cell? ⟨b, o + m, none⟩ = some v) : (rowVals w b o n)[m]? = some v := by
  simp [rowVals, hm, hv]
theorem RowIs.rowV {b o k n : Nat} {es : List AV} (hr : RowIs w O γ b o k es) (hn : es.length * k ≤ n) : RowV w O γ k es (rowVals w b o n).toArray := by
  refine ⟨by simpa [rowVals] using hn, hr.1, fun i j e c he hj => ?_⟩
  obtain ⟨h1, v, h2, h3⟩ := hr.2 i j e c he hj
  have hi : i < es.length := (List.getElem?_eq_some_iff.1 he).1
  have hjk : j < k := by have := (List.getElem?_eq_some_iff.1 hj).1; rw [(hr.1 i e he).2] at this; exact this
  have := slot_lt hi hjk
  refine ⟨h1, v, ?_, h3⟩
  simp only [List.getElem?_toArray]
  exact rowVals_get (by omega) (by rw [← h2, Nat.add_assoc])
theorem RowIs.one {b o k : Nat} {es : List AV} (hr : RowIs w O γ b o k es) (hk : 0 < k) : ∀ v ∈ rowVals w b o (es.length * k), v.oneCell' = true := by
  intro v hv
  obtain ⟨m, hm⟩ := List.getElem?_of_mem hv
  have hlt : m < es.length * k := by have := (List.getElem?_eq_some_iff.1 hm).1; simpa [rowVals] using this
  obtain ⟨e, c, _, _, h3, u, h4, h5⟩ := hr.vals hk hlt
  rw [rowVals_get hlt h4] at hm; cases hm
  exact (h5.cell_one h3).1
theorem RowIs.src {b o k cap : Nat} {es : List AV} {tx : TypeId} (hr : RowIs w O γ b o k es) (hk : 0 < k) (hs : isSeqT P tx = true) :
    Src P k tx (.slice (some ⟨b, o, none⟩) es.length cap) es.length (rowVals w b o (es.length * k)) w := by
  have hget : ∀ j u, (rowVals w b o (es.length * k))[j]? = some u → w.cell? ((⟨b, o, none⟩ : Addr).add j) = some u := by
    intro j u hj
    have hlt : j < es.length * k := by have := (List.getElem?_eq_some_iff.1 hj).1; simpa [rowVals] using this
    obtain ⟨e, c, _, _, _, v, h4, _⟩ := hr.vals hk hlt
    rw [rowVals_get hlt h4] at hj; cases hj
    rw [addr_add]; exact h4
  have hl : (rowVals w b o (es.length * k)).length = es.length * k := rowVals_length _ _ _ _
  refine ⟨?_, fun _ => rfl, run_firstCells_some w k es.length _ es.length cap _ hl hget, run_firstCells_some w.drew k es.length _ es.length cap _ hl hget, hl, hr.one hk⟩
  unfold isSeqT at hs
  split at hs
  · rename_i e' hu; exact .inl ⟨e', hu⟩
  · rename_i hu; exact .inr hu
  · cases hs
theorem first_nil (a : Option Addr) {k l c : Nat} : (Builtin.firstCells k 0 (.slice a l c)).run P w = .ok ([] : List Value).toArray w := by
  cases a with
  | none => exact run_firstCells_none w k 0 l c
  | some a => exact run_firstCells_some w k 0 a l c [] (by simp) (fun j v hj => by simp at hj)
theorem src_nil {a : Option Addr} {k cap : Nat} {tx : TypeId} (hs : isSeqT P tx = true) : Src P k tx (.slice a 0 cap) 0 [] w := by
  refine ⟨?_, fun _ => rfl, first_nil a, first_nil a, by simp, fun _ h => by cases h⟩
  unfold isSeqT at hs
  split at hs
  · rename_i e' hu; exact .inl ⟨e', hu⟩
  · rename_i hu; exact .inr hu
  · cases hs
theorem byteVal_V (b : UInt8) : V w O γ (byteVal b) (.int .u8 b.toNat) := .val _
theorem firstCells_str (k : Nat) (s : ByteArray) (w' : World) : (Builtin.firstCells k s.size (.string s)).run P w' = .ok (byteCells s).toArray w' := by
  simp [Builtin.firstCells, byteCells]
  apply Array.ext'
  simp
theorem src_string {k : Nat} {tx : TypeId} (s : ByteArray) (hs : isSeqT P tx = true) (hk : headOk k (s.data.toList.map byteVal) = true) : Src P k tx (.string s) s.size (byteCells s) w := by
  refine ⟨?_, fun _ => rfl, firstCells_str k s w, firstCells_str k s w.drew, ?_, fun u hu => by obtain ⟨_, _, rfl⟩ := List.mem_map.1 hu; rfl⟩
  · unfold isSeqT at hs
    split at hs
    · rename_i e' hu; exact .inl ⟨e', hu⟩
    · rename_i hu; exact .inr hu
    · cases hs
  · rw [byteCells_length]
    cases hl : s.data.toList with
    | nil =>
      have : s.size = 0 := by
        have : s.data.toList.length = 0 := by rw [hl]; rfl
        simpa using this
      rw [this, Nat.zero_mul]
    | cons x r => rw [hl] at hk; simp [headOk, byteVal, AV.cells] at hk; rw [← hk, Nat.mul_one]
theorem bytes_rowV (s : ByteArray) : RowV w O γ 1 (s.data.toList.map byteVal) (byteCells s).toArray := by
  refine ⟨by simp [byteCells], fun i e he => ?_, fun i j e c he hj => ?_⟩
  · simp only [List.getElem?_map] at he
    cases hx : s.data.toList[i]? with
    | none => rw [hx] at he; cases he
    | some x => rw [hx] at he; cases he; exact ⟨rfl, rfl⟩
  · simp only [List.getElem?_map] at he
    cases hx : s.data.toList[i]? with
    | none => rw [hx] at he; cases he
    | some x =>
      rw [hx] at he; cases he
      cases j with
      | zero => simp [byteVal, AV.cells] at hj; subst hj; exact ⟨rfl, _, by simp [byteCells, List.getElem?_map, hx], .val _⟩
      | succ n => simp [byteVal, AV.cells] at hj
/-- What an append takes, all told. -/
theorem aelems_sound (r : R X h γ w) {x : AV} {u : Value} {xs : List AV} {k : Nat} {tx : TypeId} (hx : V w (Ow X h γ) γ x u) (e : aelems h x = some xs) (hs : isSeqT P tx = true) (hk : headOk k xs = true) (hkp : 0 < k) :
    ∃ news, Src P k tx u xs.length news w ∧ RowV w (Ow X h γ) γ k xs news.toArray ∧ news.length = xs.length * k := by
  unfold aelems at e
  split at e
  · rename_i s
    cases hx.val_inv; cases e
    have hsrc := src_string (P := P) (w := w) s hs hk
    have hl : (s.data.toList.map byteVal).length = s.size := by simp
    refine ⟨byteCells s, by rw [hl]; exact hsrc, ?_, by rw [hl]; exact hsrc.newsLen⟩
    cases hd : s.data.toList with
    | nil => exact ⟨by simp, fun i e he => by simp at he, fun i j e c he => by simp at he⟩
    | cons y t =>
      have : k = 1 := by rw [hd] at hk; simp [headOk, byteVal, AV.cells] at hk; exact hk.symm
      subst this
      rw [← hd]; exact bytes_rowV s
  · obtain ⟨a, cap, rfl, hcap, hh⟩ := sview_sound r hx e
    rcases hh with rfl | ⟨b, o, k', rfl, hr⟩
    · exact ⟨[], src_nil hs, ⟨by simp, fun i e he => by simp at he, fun i j e c he => by simp at he⟩, by simp⟩
    · by_cases hne : xs = []
      · subst hne
        have hr' : RowIs w (Ow X h γ) γ b o k [] := RowIs.nil b o k
        exact ⟨_, hr'.src hkp hs, hr'.rowV (by simp), by simp [rowVals]⟩
      · obtain rfl := hr.len hk hne
        exact ⟨_, hr.src hkp hs, hr.rowV (Nat.le_refl _), rowVals_length _ _ _ _⟩
/-- Two rows behind one another. -/
theorem RowV.append {k : Nat} {es xs : List AV} {vs us rest : Array Value} (h1 : RowV w O γ k es vs) (h2 : RowV w O γ k xs us) (hl : vs.size = es.length * k) : RowV w O γ k (es ++ xs) (vs ++ us ++ rest) := by
  refine ⟨by have := h2.1; simp [Nat.add_mul]; omega, fun i e he => ?_, fun i j e c he hj => ?_⟩
  · by_cases hi : i < es.length
    · rw [List.getElem?_append_left hi] at he; exact h1.2.1 i e he
    · rw [List.getElem?_append_right (Nat.le_of_not_lt hi)] at he; exact h2.2.1 _ e he
  · by_cases hi : i < es.length
    · rw [List.getElem?_append_left hi] at he
      obtain ⟨a1, v, a2, a3⟩ := h1.2.2 i j e c he hj
      have hlt := (Array.getElem?_eq_some_iff.1 a2).1
      exact ⟨a1, v, by rw [Array.append_assoc, Array.getElem?_append_left hlt]; exact a2, a3⟩
    · rw [List.getElem?_append_right (Nat.le_of_not_lt hi)] at he
      obtain ⟨a1, v, a2, a3⟩ := h2.2.2 _ j e c he hj
      have hlt := (Array.getElem?_eq_some_iff.1 a2).1
      refine ⟨a1, v, ?_, a3⟩
      have hge : es.length * k ≤ i * k := Nat.mul_le_mul_right k (Nat.le_of_not_lt hi)
      have hsub : (i - es.length) * k = i * k - es.length * k := Nat.sub_mul _ _ _
      rw [Array.append_assoc, Array.getElem?_append_right (by omega), Array.getElem?_append_left (by omega)]
      rw [show i * k + j - vs.size = (i - es.length) * k + j by omega]
      exact a2
theorem zeroCells_size (z : Array Value) (n : Nat) : (Builtin.zeroCells z n).size = n * z.size := by simp [Builtin.zeroCells]
theorem args_two {α : Type} {a : Array α} {x y : α} (h : a.toList = [x, y]) : a = #[x, y] := by
  apply Array.ext'; simpa using h
theorem ts_two {ts : Array TypeId} (h : ts.size = 2) : ts = #[argT ts 0, argT ts 1] := by
  unfold argT
  apply Array.ext
  · simp [h]
  · intro i h1 h2
    have : i = 0 ∨ i = 1 := by simp at h2; omega
    rcases this with rfl | rfl <;> simp [Array.getD, h]
/-- The first elements of a slice of the run's own, as cells. -/
theorem arr_olds {b o' k len cap : Nat} {es : List AV} (hr : RowIs w O γ b o' k es) (hk : 0 < k) (hl : es.length = len) :
    ∃ olds : List Value, (Builtin.firstCells k len (.slice (some ⟨b, o', none⟩) len cap)).run P w.drew = .ok olds.toArray w.drew ∧ RowV w O γ k es olds.toArray ∧ olds.length = len * k := by
  subst hl
  refine ⟨rowVals w b o' (es.length * k), ?_, hr.rowV (Nat.le_refl _), rowVals_length _ _ _ _⟩
  refine run_firstCells_some w.drew k es.length _ es.length cap _ (rowVals_length _ _ _ _) fun j u hj => ?_
  have hlt : j < es.length * k := by have := (List.getElem?_eq_some_iff.1 hj).1; simpa [rowVals] using this
  obtain ⟨e, c, _, _, _, v, h4, _⟩ := hr.vals hk hlt
  rw [rowVals_get hlt h4] at hj; cases hj
  rw [addr_add]; exact h4
theorem alloc_step {w' : World} {o : Obj} (hw : w'.heap = w.heap.push o) (h1 : w'.os = w.os) (h2 : w'.tape = w.tape) (h3 : w'.output = w.output) (O : Nat → Prop) : Step w w' O := by
  have hold : ∀ b, b < w.heap.size → w'.heap[b]? = w.heap[b]? := fun b hb => by rw [hw, Array.getElem?_push, if_neg (by omega)]
  exact ⟨h1, h2, h3, by rw [hw]; simp, fun b hb _ => hold b hb, fun b c' T' z' hh => ⟨c', z', by rw [hold b (Array.getElem?_eq_some_iff.1 hh).1]; exact hh, rfl⟩⟩
theorem append_arr (r : R X h γ w) {t tx ty el : TypeId} {i : TypeInfo} {zv : Value} {id off len g b o cap o' : Nat} {es xs : List AV} {ux : Value} {news : List Value}
    (hu : P.underlying t = some (.slice el)) (hi : P.info? el = some i) (hzero : i.zero = some zv) (hzs : zv.cells.size = i.size) (hk0 : 0 < i.size) (hb0 : 0 < i.bytes)
    (hid : hget h id = .arr i.size es g) (hle : off + len ≤ es.length) (hg : γ id g = some (b, o)) (hcap : len ≤ cap) (ho : o' = o + off * i.size ∨ cap = 0)
    (hrow0 : ∃ (c : Array Value) (T : TypeId) (z : Nat × Nat), w.heap[b]? = some (Obj.cells c T z) ∧ o + (off + cap) * i.size ≤ c.size)
    (hsrc : Src P i.size tx ux xs.length news w) (hrow : RowV w (Ow X h γ) γ i.size xs news.toArray) (hnl : news.length = xs.length * i.size) (hfit : (len + xs.length) * i.bytes ≤ 2 ^ 47) :
    ∃ y w' γ', (Builtin.append_ #[t, tx] ty #[.slice (some ⟨b, o', none⟩) len cap, ux]).run P w = .ok y w' ∧
      Goes X h γ w (h.set id (.arr i.size ((es.drop off).take len ++ xs) (g + 1))) γ' w' ∧
      V w' (Ow X (h.set id (.arr i.size ((es.drop off).take len ++ xs) (g + 1))) γ') γ' (.arr id 0 (len + xs.length) (g + 1) i.size) y := by
  obtain ⟨hf, hr⟩ := r.arr hid hg
  have hr1 : RowIs w (Ow X h γ) γ b (o + off * i.size) i.size ((es.drop off).take len) := hr.sub
  have hvl : ((es.drop off).take len).length = len := by simp; omega
  generalize (es.drop off).take len = es1 at *
  have hog : ogen (hget h id) = some g := by rw [hid]; rfl
  have hgnone : γ id (g + 1) = none := by
    cases e : γ id (g + 1) with
    | none => rfl
    | some p => have := r.gens _ _ _ _ _ _ hid e; omega
  have hext : ∀ p i' j q, γ i' j = some q → (γ.put id (g + 1) p) i' j = some q := by
    intro p i' j q e
    unfold Ghost.put
    rw [if_neg]
    · exact e
    · rintro ⟨rfl, rfl⟩; rw [hgnone] at e; cases e
  have hback : ∀ p i' j q, (γ.put id (g + 1) p) i' j = some q → γ i' j = some q ∨ (i' = id ∧ ogen (.arr i.size (es1 ++ xs) (g + 1)) = some j) := by
    intro p i' j q e
    unfold Ghost.put at e
    split at e
    · rename_i hc; obtain ⟨rfl, rfl⟩ := hc; exact .inr ⟨rfl, rfl⟩
    · exact .inl e
  have hput : ∀ p, (γ.put id (g + 1) p) id (g + 1) = some p := fun p => by simp [Ghost.put]
  have hgens' : ∀ p k2 es2 g2, AObj.arr i.size (es1 ++ xs) (g + 1) = .arr k2 es2 g2 → ∀ j q, (γ.put id (g + 1) p) id j = some q → j ≤ g2 := by
    intro p k2 es2 g2 e j q hq
    cases e
    unfold Ghost.put at hq
    split at hq
    · rename_i hc; omega
    · have := r.gens _ _ _ _ _ _ hid hq; omega
  obtain ⟨c, T, zz, hb, hsz⟩ := hrow0
  rw [Nat.add_mul] at hsz
  by_cases hroom : len + xs.length ≤ cap
  · -- there is room
    by_cases hn0 : news = []
    · -- nothing is written
      have hxs0 : xs = [] := by
        have : xs.length * i.size = 0 := by rw [← hnl, hn0]; rfl
        rcases Nat.mul_eq_zero.1 this with h1 | h1
        · exact List.eq_nil_of_length_eq_zero h1
        · omega
      subst hn0; subst hxs0
      have hrun : (Builtin.append_ #[t, tx] ty #[.slice (some ⟨b, o', none⟩) len cap, ux]).run P w = .ok (.slice (some ⟨b, o', none⟩) (len + 0) cap) w := by
        have hcl := hsrc.cells
        have hln := hsrc.len
        simp only [List.length_nil] at hcl hln hroom
        rcases hsrc.kind with ⟨e', hk'⟩ | hk' <;>
          simp [Builtin.append_, run_underlying hu, run_underlying hk', sizeOf, typeInfo, hi, hln, hcl, hcap, storeCells]
      simp only [List.append_nil] at hback hgens' ⊢
      have hgo : Goes X h γ w (h.set id (.arr i.size es1 (g + 1))) (γ.put id (g + 1) (b, o + off * i.size)) w := by
        refine change_goes r hog hg (hext _) (hback _) (Step.refl _ _) (fun g' b' p' e1 e2 => ?_) (hgens' _) fun s => ?_
        · simp only [ogen, Option.some.injEq] at e1; subst e1
          rw [hput] at e2; cases e2; exact .inl rfl
        · exact ⟨b, _, hput _, hf, hr1.mono s fun _ => rfl⟩
      refine ⟨_, _, _, hrun, hgo, .arr id 0 (len + 0) (g + 1) i.size b (o + off * i.size) cap o' (hput _) (by simpa using hcap) (by simpa using ho) ⟨c, T, zz, hb, by simp only [Nat.zero_add]; omega⟩⟩
    · have hnpos : 0 < news.length := List.length_pos_iff.2 hn0
      have hxpos : 0 < xs.length := Nat.pos_of_ne_zero fun h0 => by rw [h0, Nat.zero_mul] at hnl; omega
      obtain rfl : o' = o + off * i.size := by rcases ho with h0 | h0 <;> omega
      have hm : (len + xs.length) * i.size ≤ cap * i.size := Nat.mul_le_mul_right _ hroom
      rw [Nat.add_mul] at hm
      have hfitW : ∃ (c : Array Value) (T : TypeId) (z : Nat × Nat), w.heap[b]? = some (Obj.cells c T z) ∧ o + off * i.size + len * i.size + news.length ≤ c.size := ⟨c, T, zz, hb, by omega⟩
      have hrun : (Builtin.append_ #[t, tx] ty #[.slice (some ⟨b, o + off * i.size, none⟩) len cap, ux]).run P w = .ok (.slice (some ⟨b, o + off * i.size, none⟩) (len + xs.length) cap) (putW w b (o + off * i.size + len * i.size) news) := by
        have hst : (storeCells ⟨b, o + off * i.size + len * i.size, none⟩ news 0).run P w = .ok () (putW w b (o + off * i.size + len * i.size + 0) news) := by
          refine run_storeCells P news w _ 0 hf (fun c2 T2 z2 hh2 => ?_) hsrc.one
          rw [hb] at hh2; cases hh2; omega
        rw [Nat.add_zero] at hst
        rcases hsrc.kind with ⟨e', hk'⟩ | hk' <;>
          simp [Builtin.append_, run_underlying hu, run_underlying hk', sizeOf, typeInfo, hi, hsrc.len, hroom, hsrc.cells, addr_add, hst]
      obtain ⟨hc1, hc2⟩ := putW_cell news hfitW
      have hgo : Goes X h γ w (h.set id (.arr i.size (es1 ++ xs) (g + 1))) (γ.put id (g + 1) (b, o + off * i.size)) (putW w b (o + off * i.size + len * i.size) news) := by
        refine change_goes r hog hg (hext _) (hback _) (putW_step news hfitW) (fun g' b' p' e1 e2 => ?_) (hgens' _) fun s => ?_
        · simp only [ogen, Option.some.injEq] at e1; subst e1
          rw [hput] at e2; cases e2; exact .inl rfl
        · refine ⟨b, _, hput _, putW_free _ hf (fun c2 T2 z2 hh2 => by rw [hb] at hh2; cases hh2; omega), fun m e he => ?_, fun m j e cc he hj => ?_⟩
          · by_cases hm' : m < es1.length
            · rw [List.getElem?_append_left hm'] at he; exact hr1.1 m e he
            · rw [List.getElem?_append_right (Nat.le_of_not_lt hm')] at he; exact hrow.2.1 _ e he
          · by_cases hm' : m < es1.length
            · rw [List.getElem?_append_left hm'] at he
              obtain ⟨a1, v, a2, a3⟩ := hr1.2 m j e cc he hj
              have hjk : j < i.size := by have := (List.getElem?_eq_some_iff.1 hj).1; rw [(hr1.1 m e he).2] at this; exact this
              have := slot_lt hm' hjk
              rw [hvl] at this
              exact ⟨a1, v, by rw [hc1 _ (.inl (by omega))]; exact a2, a3.mono s⟩
            · rw [List.getElem?_append_right (Nat.le_of_not_lt hm')] at he
              obtain ⟨a1, v, a2, a3⟩ := hrow.2.2 _ j e cc he hj
              have hlt := (Array.getElem?_eq_some_iff.1 a2).1
              simp only [List.size_toArray] at hlt
              have hge : es1.length * i.size ≤ m * i.size := Nat.mul_le_mul_right _ (Nat.le_of_not_lt hm')
              have hsub : (m - es1.length) * i.size = m * i.size - es1.length * i.size := Nat.sub_mul _ _ _
              refine ⟨a1, v, ?_, a3.mono s⟩
              have := hc2 ((m - es1.length) * i.size + j) hlt
              rw [hvl] at hge hsub this
              rw [show o + off * i.size + m * i.size + j = o + off * i.size + len * i.size + ((m - len) * i.size + j) by omega, this]
              simpa [hvl] using a2
      exact ⟨_, _, _, hrun, hgo, .arr id 0 (len + xs.length) (g + 1) i.size b (o + off * i.size) cap _ (hput _) hroom (.inl (by simp)) (by
        obtain ⟨c', z', k1, k2⟩ := hgo.step.row b c T zz hb
        exact ⟨c', T, z', k1, by rw [k2, Nat.zero_add]; omega⟩)⟩
  · -- a new row
    have hxpos : len + xs.length > cap := by omega
    have hro : RowIs w (Ow X h γ) γ b o' i.size es1 := by
      rcases ho with h0 | h0
      · rw [h0]; exact hr1
      · have : es1 = [] := List.eq_nil_of_length_eq_zero (by omega)
        rw [this]; exact RowIs.nil _ _ _
    obtain ⟨olds, hold, holdrow, holdl⟩ := arr_olds (P := P) (cap := cap) hro hk0 hvl
    have hbig : len + xs.length ≤ 2 ^ 47 := Nat.le_trans (Nat.le_mul_of_pos_right _ hb0) hfit
    have hrun := run_append_grow_src w t tx ty el i zv hu hi hzero (some ⟨b, o', none⟩) len cap olds hold ux xs.length news hsrc (by omega) (by omega) (growslice_fits (by omega) (by omega))
    have hge := grownCap_ge w (len + xs.length) cap el
    generalize hN : grownCap w (len + xs.length) cap el = N at *
    have hz' := zeroCells_size zv.cells (N - (len + xs.length))
    rw [hzs, Nat.sub_mul, Nat.add_mul] at hz'
    have hm : (len + xs.length) * i.size ≤ N * i.size := Nat.mul_le_mul_right _ hge
    rw [Nat.add_mul] at hm
    have hrv := holdrow.append (rest := Builtin.zeroCells zv.cells (N - (len + xs.length))) hrow (by simpa [hvl] using holdl)
    have e1 : olds.toArray ++ news.toArray ++ Builtin.zeroCells zv.cells (N - (len + xs.length)) = (olds ++ news).toArray ++ Builtin.zeroCells zv.cells (N - (len + xs.length)) := by simp
    rw [e1] at hrv
    generalize hcc : (olds ++ news).toArray ++ Builtin.zeroCells zv.cells (N - (len + xs.length)) = cc at *
    have hccs : cc.size = N * i.size := by rw [← hcc]; simp only [Array.size_append, List.size_toArray, List.length_append, holdl, hnl, hz']; omega
    have hnew : (w.drew.alloc (.cells cc el)).heap[w.heap.size]? = some (.cells cc el (0, 0)) := by simp [World.alloc, World.drew, -World.alloc_eq, -World.drew_eq]
    have hgo : Goes X h γ w (h.set id (.arr i.size (es1 ++ xs) (g + 1))) (γ.put id (g + 1) (w.heap.size, 0)) (w.drew.alloc (.cells cc el)) := by
      refine change_goes r hog hg (hext _) (hback _) (alloc_step (w := w) (w' := w.drew.alloc (.cells cc el)) (o := .cells cc el) rfl rfl rfl rfl _) (fun g' b' p' e1 e2 => ?_) (hgens' _) fun s => ?_
      · simp only [ogen, Option.some.injEq] at e1; subst e1
        rw [hput] at e2; cases e2; exact .inr (Nat.le_refl _)
      · refine ⟨_, _, hput _, ⟨cc, el, (0, 0), hnew, fun off2 _ => by simp only [World.frozen?, hnew]; simp⟩, hrv.2.1, fun m j e x he hj => ?_⟩
        obtain ⟨a1, v, a2, a3⟩ := hrv.2.2 m j e x he hj
        exact ⟨a1, v, by rw [cell_iff hnew, Nat.zero_add]; exact a2, a3.mono s⟩
    exact ⟨_, _, _, hrun, hgo, .arr id 0 (len + xs.length) (g + 1) i.size w.heap.size 0 N 0 (hput _) hge (.inl (by simp)) ⟨cc, el, (0, 0), hnew, by rw [hccs]; simp⟩⟩
theorem aappend_sound (r : R X h γ w) {ts : Array TypeId} {ty : TypeId} {s x v : AV} {us ux : Value} {h' : AHeap} (hs : V w (Ow X h γ) γ s us) (hx : V w (Ow X h γ) γ x ux)
    (hts : ts.size = 2) (hsq : isSeqT P (argT ts 1) = true) (e : aappend P (argT ts 0) h s x = some (v, h')) :
    ∃ y w' γ', (Builtin.append_ ts ty #[us, ux]).run P w = .ok y w' ∧ Goes X h γ w h' γ' w' ∧ V w' (Ow X h' γ') γ' v y := by
  rw [ts_two hts]
  generalize argT ts 0 = t at *
  generalize argT ts 1 = tx at *
  unfold aappend at e
  split at e
  · cases e
  · rename_i ks bytes z hsl
    obtain ⟨el, i, zv, hu, hi, hzero, rfl, rfl, rfl, hk0, hb0, hzl, hok, hcells⟩ := tslice_all hsl
    have hzV : V w (Ow X h γ) γ (ofVal zv) zv := ofVal_V zv hcells
    have hzs : zv.cells.size = i.size := by rw [← (hzV.cv hok).1]; exact hzl
    split at e
    · cases e
    · rename_i xs hxs
      split at e
      · cases e
      · rename_i hho
        have hho' : headOk i.size xs = true := by simpa using hho
        obtain ⟨news, hsrc, hrow, hnl⟩ := aelems_sound (P := P) r hx hxs hsq hho' hk0
        split at e
        · rename_i es
          split at e
          · cases e
          · rename_i hhe
            have hhe' : headOk i.size es = true := by simpa using hhe
            -- what lies there
            obtain ⟨a, cap, rfl, hcap, hh⟩ := sview_sound r hs (es := es) rfl
            have hfull : cap = es.length := by
              cases hs with
              | slc0 _ _ => rfl
              | slc _ _ b o cap k vals hcap' hfull hk hc hv => exact hfull rfl
            subst hfull
            split at e
            · rename_i hxe
              cases e
              subst hxe
              refine ⟨.slice a es.length es.length, w, γ, ?_, Goes.refl r, hs⟩
              have hn0 : news = [] := List.eq_nil_of_length_eq_zero (by rw [hnl]; simp)
              subst hn0
              have hcl := hsrc.cells
              have hln := hsrc.len
              simp only [List.length_nil] at hcl hln
              rcases a with _ | a
              · rcases hsrc.kind with ⟨e', hk'⟩ | hk' <;>
                  simp [Builtin.append_, run_underlying hu, run_underlying hk', sizeOf, typeInfo, hi, hln, hcl]
              · rcases hsrc.kind with ⟨e', hk'⟩ | hk' <;>
                  simp [Builtin.append_, run_underlying hu, run_underlying hk', sizeOf, typeInfo, hi, hln, hcl, storeCells]
            · rename_i hxe
              split at e
              · rename_i hfit
                cases e
                have hxl : 0 < xs.length := List.length_pos_iff.2 hxe
                have hbig : es.length + xs.length ≤ 2 ^ 47 := Nat.le_trans (Nat.le_mul_of_pos_right _ hb0) hfit
                -- the elements that lie there
                obtain ⟨olds, hold, holdrow, holdl⟩ : ∃ olds : List Value, (Builtin.firstCells i.size es.length (.slice a es.length es.length)).run P w.drew = .ok olds.toArray w.drew ∧ RowV w (Ow X h γ) γ i.size es olds.toArray ∧ olds.length = es.length * i.size := by
                  rcases hh with rfl | ⟨b, o, k', rfl, hr⟩
                  · exact ⟨[], first_nil a, ⟨by simp, fun i e he => by simp at he, fun i j e c he => by simp at he⟩, by simp⟩
                  · by_cases hne : es = []
                    · subst hne
                      have hr' : RowIs w (Ow X h γ) γ b o i.size [] := RowIs.nil b o i.size
                      exact ⟨_, (hr'.src (cap := 0) hk0 hsq).cellsD, hr'.rowV (by simp), by simp [rowVals]⟩
                    · obtain rfl := hr.len hhe' hne
                      exact ⟨_, (hr.src (cap := es.length) hk0 hsq).cellsD, hr.rowV (Nat.le_refl _), rowVals_length _ _ _ _⟩
                have hrun := run_append_grow_src w t tx ty el i zv hu hi hzero a es.length es.length olds hold ux xs.length news hsrc (by omega) (by omega) (growslice_fits (by omega) (by omega))
                have hge := grownCap_ge w (es.length + xs.length) es.length el
                generalize hN : grownCap w (es.length + xs.length) es.length el = N at *
                have hz' := zeroCells_size zv.cells (N - (es.length + xs.length))
                rw [hzs, Nat.sub_mul, Nat.add_mul] at hz'
                have hm : (es.length + xs.length) * i.size ≤ N * i.size := Nat.mul_le_mul_right _ hge
                rw [Nat.add_mul] at hm
                have hrv := holdrow.append (rest := Builtin.zeroCells zv.cells (N - (es.length + xs.length))) hrow (by simpa using holdl)
                have e1 : olds.toArray ++ news.toArray ++ Builtin.zeroCells zv.cells (N - (es.length + xs.length)) = (olds ++ news).toArray ++ Builtin.zeroCells zv.cells (N - (es.length + xs.length)) := by simp
                rw [e1] at hrv
                generalize hcc : (olds ++ news).toArray ++ Builtin.zeroCells zv.cells (N - (es.length + xs.length)) = cc at *
                have hccs : cc.size = N * i.size := by rw [← hcc]; simp only [Array.size_append, List.size_toArray, List.length_append, holdl, hnl, hz']; omega
                have hnew : (w.drew.alloc (.cells cc el)).heap[w.heap.size]? = some (.cells cc el (0, 0)) := by simp [World.alloc, World.drew, -World.alloc_eq, -World.drew_eq]
                exact ⟨_, _, _, hrun, alloc_goes r (T := el) (z := (0, 0)) (o := .arr i.size (es ++ xs) 0) rfl rfl rfl rfl (fun off _ => by simp) ⟨rfl, hrv.2.1, hrv.2.2⟩,
                  .arr h.length 0 _ 0 i.size w.heap.size 0 N 0 (by simp [Ghost.put]) hge (.inl (by simp)) ⟨cc, el, (0, 0), hnew, by rw [hccs]; simp⟩⟩
              · cases e
        · rename_i id off len g k
          split at e
          · rename_i k' es g' hid
            split at e
            · rename_i hcd; obtain ⟨rfl, rfl, hle, rfl, hfit⟩ := hcd
              cases e
              cases hs with
              | arr id off len g k b o cap o' hg hcap ho hrow0 =>
                exact append_arr r hu hi hzero hzs hk0 hb0 hid hle hg hcap ho hrow0 hsrc hrow hnl hfit
            · cases e
          · cases e
        · cases e
end
end Go.Ab
