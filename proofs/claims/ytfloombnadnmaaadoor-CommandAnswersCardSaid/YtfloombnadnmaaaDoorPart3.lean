/- Parts of the proof, each with its own heading: Each operation of the abstract machine is one of the model's: stores, conversions, append, copy. Each operation of the abstract machine is one of the model's: conversions, append, copy, len. Each operation of the abstract machine is one of the model's: all of them. Maps: each operation of the abstract machine is one of the model's. -/
import Derived.Test.YtfloombnadnmaaaDoorPart2
import Derived.MapKept
import Derived.Laws.StructEq
set_option linter.unusedSimpArgs false
set_option linter.unusedVariables false
namespace Go.Ab
set_option linter.unusedSimpArgs false
set_option linter.unusedVariables false
section
variable {P : Program} {X O : Nat → Prop} {h : AHeap} {γ : Ghost} {w : World}

/-! ### Stores -/
theorem putAt_other (us : List AV) : ∀ (cs : List AV) (off m : Nat), (m < off ∨ off + us.length ≤ m) → (putAt cs off us)[m]? = cs[m]? := by
  induction us with
  | nil => intro cs off m _; rfl
  | cons u r ih =>
    intro cs off m hm
    simp only [List.length_cons] at hm
    rw [putAt, ih _ _ _ (by omega), List.getElem?_set_ne (by omega)]
theorem putAt_at (us : List AV) : ∀ (cs : List AV) (off j : Nat), j < us.length → off + us.length ≤ cs.length → (putAt cs off us)[off + j]? = us[j]? := by
  induction us with
  | nil => intro cs off j hj; simp at hj
  | cons u r ih =>
    intro cs off j hj hs
    simp only [List.length_cons] at hj hs
    rw [putAt]
    cases j with
    | zero =>
      rw [putAt_other _ _ _ _ (by omega), Nat.add_zero, List.getElem?_set_self (by omega)]
      rfl
    | succ n =>
      have := ih (cs.set off u) (off + 1) n (by omega) (by simp; omega)
      rw [show off + (n + 1) = off + 1 + n by omega, this]
      simp
theorem write_goes (r : R X h γ w) {id g b p q : Nat} (hg : ogen (hget h id) = some g) (hγ : γ id g = some (b, p)) {us : List Value} (hfit : ∃ (c : Array Value) (T : TypeId) (z : Nat × Nat), w.heap[b]? = some (Obj.cells c T z) ∧ q + us.length ≤ c.size)
    {o' : AObj} (ho : ogen o' = some g) (hgens : ∀ k es g', o' = .arr k es g' → ∀ j q, γ id j = some q → j ≤ g')
    (hok : Sees w (Ow X h γ) γ (putW w b q us) (Ow X (h.set id o') γ) γ → OkObj (putW w b q us) (Ow X (h.set id o') γ) γ id o') : Goes X h γ w (h.set id o') γ (putW w b q us) :=
  change_goes r hg hγ (fun _ _ _ e => e) (fun _ _ _ e => .inl e) (putW_step us hfit) (fun g' b' p' e1 e2 => by rw [ho] at e1; cases e1; rw [hγ] at e2; cases e2; exact .inl rfl) hgens hok (by rintro rfl; cases ho)
theorem run_storeVar {t : TypeId} {u : Value} {b o : Nat} (hs : u.cells.size = tsize P t) (hp : 0 < tsize P t) (hf : Free w b) (hfit : ∀ c T z, w.heap[b]? = some (.cells c T z) → o + u.cells.toList.length ≤ c.size) (h1 : ∀ v ∈ u.cells.toList, v.oneCell' = true) :
    (storeVar t ⟨b, o, none⟩ u).run P w = .ok () (putW w b o u.cells.toList) := by
  simp only [storeVar, Sem.run_bind, run_sizeOf_pos hp, Result.andThen_ok]
  rw [if_neg (by simp [hs])]
  exact run_storeCells P _ w o 0 hf (fun c T z hh => by simpa using hfit c T z hh) h1
theorem CV.one {cs : List AV} {vs : Array Value} (hc : CV w O γ cs vs) : ∀ v ∈ vs.toList, v.oneCell' = true := by
  intro v hv
  obtain ⟨i, hi⟩ := List.getElem?_of_mem hv
  have hlt : i < vs.size := by have := (List.getElem?_eq_some_iff.1 hi).1; simpa using this
  have hlt' : i < cs.length := by rw [hc.1]; exact hlt
  have hci : cs[i]? = some cs[i] := by simp [hlt']
  exact ((hc.2.2 i cs[i] v hci (by simpa using hi)).cell_one (hc.2.1 i _ hci)).1
/-- Cells of a row, one of them written. -/
theorem CellsAt.put {w' : World} {O' : Nat → Prop} {γ' : Ghost} {b o off : Nat} {cs us : List AV} {ws : List Value} (hc : CellsAt w O γ b o cs) (s : Sees w O γ w' O' γ') (hl : us.length = ws.length) (hle : off + us.length ≤ cs.length)
    (hk : ∀ (i : Nat) (c : AV), us[i]? = some c → isCell c = true) (hv : ∀ (i : Nat) (c : AV) (v : Value), us[i]? = some c → ws[i]? = some v → V w O γ c v)
    (h1 : ∀ i, (i < o + off ∨ o + off + ws.length ≤ i) → w'.cell? ⟨b, i, none⟩ = w.cell? ⟨b, i, none⟩) (h2 : ∀ j, j < ws.length → w'.cell? ⟨b, o + off + j, none⟩ = ws[j]?) : CellsAt w' O' γ' b o (putAt cs off us) := by
  intro j c hj
  by_cases hin : off ≤ j ∧ j < off + us.length
  · obtain ⟨m, rfl⟩ : ∃ m, j = off + m := ⟨j - off, by omega⟩
    rw [putAt_at us cs off m (by omega) hle] at hj
    have hm : m < ws.length := by omega
    refine ⟨hk m c hj, ws[m], ?_, (hv m c _ hj (by simp [hm])).mono s⟩
    rw [show o + (off + m) = o + off + m by omega, h2 m hm]
    simp [hm]
  · rw [putAt_other us cs off j (by omega)] at hj
    obtain ⟨k1, v, k2, k3⟩ := hc j c hj
    exact ⟨k1, v, by rw [h1 _ (by omega)]; exact k2, k3.mono s⟩
theorem CellsAt.fits {b o : Nat} {cs : List AV} (hc : CellsAt w O γ b o cs) (hf : Free w b) {n : Nat} (hn : n ≤ cs.length) (h0 : 0 < n) : ∀ c T z, w.heap[b]? = some (Obj.cells c T z) → o + n ≤ c.size := by
  intro c T z hh
  obtain ⟨_, v, hv, _⟩ := hc (n - 1) cs[n - 1] (by simp)
  rw [cell_iff hh] at hv
  have := (Array.getElem?_eq_some_iff.1 hv).1
  omega
theorem patch_cells {e x : AV} {off : Nat} (hx : 0 < x.cells.length) (hle : off + x.cells.length ≤ e.cells.length) :
    (if x.cells.length = e.cells.length then x else patch e off x.cells).cells = putAt e.cells off x.cells := by
  split
  · rename_i hl
    have h0 : off = 0 := by omega
    subst h0
    apply List.ext_getElem?
    intro i
    by_cases hi : i < x.cells.length
    · have := putAt_at x.cells e.cells 0 i hi (by omega)
      rw [Nat.zero_add] at this
      exact this.symm
    · rw [putAt_other _ _ _ _ (by omega), List.getElem?_eq_none (by omega), List.getElem?_eq_none (by omega)]
  · rename_i hl
    cases e with
    | agg cs => rfl
    | _ => exact absurd (show x.cells.length = 1 by have h2 : off + x.cells.length ≤ 1 := hle; omega) hl
theorem patch_ok {e x : AV} {off : Nat} (hk : okVal x = true) (hx : 0 < x.cells.length) (hle : off + x.cells.length ≤ e.cells.length) :
    okVal (if x.cells.length = e.cells.length then x else patch e off x.cells) = true := by
  split
  · exact hk
  · rename_i hl
    cases e with
    | agg cs => rfl
    | _ => exact absurd (show x.cells.length = 1 by have h2 : off + x.cells.length ≤ 1 := hle; omega) hl
theorem astore_sound (r : R X h γ w) {t : TypeId} {a x : AV} {u ux : Value} {h' : AHeap} (ha : V w (Ow X h γ) γ a u) (hx : V w (Ow X h γ) γ x ux) (e : astore P t h a x = some h') :
    ∃ w', (Instr.storeAt t u ux).run P w = .ok () w' ∧ Goes X h γ w h' γ w' := by
  unfold astore at e
  split at e
  · rename_i hcd; obtain ⟨hsz, hpos, hk⟩ := hcd
    have hcv := hx.cv hk
    have hus : ux.cells.size = tsize P t := by rw [← hcv.1]; exact hsz
    have hlen : ux.cells.toList.length = x.cells.length := by simpa using hcv.1.symm
    have hone := hcv.one
    have hk' : ∀ (i : Nat) (c : AV), x.cells[i]? = some c → isCell c = true := hcv.2.1
    have hv' : ∀ (i : Nat) (c : AV) (v : Value), x.cells[i]? = some c → ux.cells.toList[i]? = some v → V w (Ow X h γ) γ c v := fun i c v hi hu => hcv.2.2 i c v hi (by simpa using hu)
    have xpos : 0 < x.cells.length := by omega
    cases ha with
    | ptr id off b o hg =>
      dsimp only at e
      split at e
      · rename_i cs hid
        split at e
        · rename_i hle
          cases e
          obtain ⟨hf, hc⟩ := r.vars hid hg
          have hfit := hc.fits hf hle (by omega)
          have hfit' : ∃ (c : Array Value) (T : TypeId) (z : Nat × Nat), w.heap[b]? = some (Obj.cells c T z) ∧ o + off + ux.cells.toList.length ≤ c.size := by
            obtain ⟨c, T, z, hh, _⟩ := hf
            exact ⟨c, T, z, hh, by have := hfit c T z hh; omega⟩
          refine ⟨_, by simpa [Instr.storeAt, Instr.sureAddr] using run_storeVar (P := P) hus hpos hf (fun c T z hh => by have := hfit c T z hh; omega) hone, ?_⟩
          have hcell := putW_cell ux.cells.toList hfit'
          refine write_goes r (by rw [hid]; rfl) hg hfit' (o' := .vars (putAt cs off x.cells)) rfl (fun k es g' e => by cases e) fun s => ?_
          exact ⟨b, o, hg, putW_free _ hf (fun c T z hh => by have := hfit c T z hh; omega), hc.put s hlen.symm hle hk' hv' hcell.1 hcell.2⟩
        · cases e
      · cases e
    | eptr id g k idx off b o hg =>
      dsimp only at e
      split at e
      · rename_i k' es g' hid
        split at e
        · rename_i hkg; obtain ⟨rfl, rfl⟩ := hkg
          split at e
          · rename_i el hel
            split at e
            · rename_i hle
              cases e
              obtain ⟨hf, hr⟩ := r.arr hid hg
              have hc := hr.at hel
              have hilt : idx < es.length := (List.getElem?_eq_some_iff.1 hel).1
              have hkl := (hr.1 _ _ hel).2
              have hfit := hc.fits hf hle (by omega)
              have hfit' : ∃ (c : Array Value) (T : TypeId) (z : Nat × Nat), w.heap[b]? = some (Obj.cells c T z) ∧ o + idx * k + off + ux.cells.toList.length ≤ c.size := by
                obtain ⟨c, T, z, hh, _⟩ := hf
                exact ⟨c, T, z, hh, by have := hfit c T z hh; omega⟩
              refine ⟨_, by simpa [Instr.storeAt, Instr.sureAddr] using run_storeVar (P := P) hus hpos hf (fun c T z hh => by have := hfit c T z hh; omega) hone, ?_⟩
              have hcell := putW_cell ux.cells.toList hfit'
              refine write_goes r (by rw [hid]; rfl) hg hfit' (o' := .arr k _ g) rfl (fun k2 es2 g2 e => by cases e; exact fun j q hq => r.gens _ _ _ _ _ _ hid hq) fun s => ?_
              refine ⟨b, o, hg, putW_free _ hf (fun c T z hh => by have := hfit c T z hh; omega), fun i e he => ?_, fun i j e c he hj => ?_⟩
              · by_cases hi : idx = i
                · subst hi
                  rw [List.getElem?_set_self hilt] at he; cases he
                  exact ⟨patch_ok hk xpos hle, by rw [patch_cells xpos hle, putAt_length]; exact hkl⟩
                · rw [List.getElem?_set_ne hi] at he; exact hr.1 i e he
              · by_cases hi : idx = i
                · subst hi
                  rw [List.getElem?_set_self hilt] at he; cases he
                  rw [patch_cells xpos hle] at hj
                  exact hc.put s hlen.symm hle hk' hv' hcell.1 hcell.2 j c hj
                · rw [List.getElem?_set_ne hi] at he
                  obtain ⟨a1, v, a2, a3⟩ := hr.2 i j e c he hj
                  have hjk : j < k := by have := (List.getElem?_eq_some_iff.1 hj).1; rw [(hr.1 i e he).2] at this; exact this
                  refine ⟨a1, v, ?_, a3.mono s⟩
                  rw [hcell.1 _ ?_]; · exact a2
                  rcases Nat.lt_or_gt_of_ne hi with hlt | hgt
                  · right
                    have := Nat.mul_le_mul_right k hlt
                    rw [Nat.succ_mul] at this
                    omega
                  · left; have := slot_lt hgt hjk; omega
            · cases e
          · cases e
        · cases e
      · rename_i cs hid
        split at e
        · rename_i hcd2; obtain ⟨rfl, rfl, rfl, hidx, hs1⟩ := hcd2
          cases e
          obtain ⟨hf, hc⟩ := r.vars hid hg
          have hle : idx + x.cells.length ≤ cs.length := by omega
          have hfit := hc.fits hf hle (by omega)
          have hfit' : ∃ (c : Array Value) (T : TypeId) (z : Nat × Nat), w.heap[b]? = some (Obj.cells c T z) ∧ o + idx + ux.cells.toList.length ≤ c.size := by
            obtain ⟨c, T, z, hh, _⟩ := hf
            exact ⟨c, T, z, hh, by have := hfit c T z hh; omega⟩
          have hcell := putW_cell ux.cells.toList hfit'
          refine ⟨_, by simpa [Instr.storeAt, Instr.sureAddr] using run_storeVar (P := P) (o := o + idx) hus hpos hf (fun c T z hh => by have := hfit c T z hh; omega) hone, ?_⟩
          refine write_goes r (by rw [hid]; rfl) hg hfit' (o' := .vars (putAt cs idx x.cells)) rfl (fun k es g' e => by cases e) fun s => ?_
          exact ⟨b, o, hg, putW_free _ hf (fun c T z hh => by have := hfit c T z hh; omega), hc.put s hlen.symm hle hk' hv' hcell.1 hcell.2⟩
        · cases e
      · cases e
    | _ => cases e
  · cases e
end
end Go.Ab
namespace Go.Ab
section
variable {P : Program} {X O : Nat → Prop} {h : AHeap} {γ : Ghost} {w : World}

theorem setCells_eq (b : Nat) (vs : List Value) : ∀ (w : World) (o : Nat), w.setCells b o vs = putW w b o vs := by
  induction vs with
  | nil => intro w o; rfl
  | cons v r ih => intro w o; exact ih _ _

/-! ### What a slice shows -/
theorem RowIs.sub {b o k off len : Nat} {es : List AV} (hr : RowIs w O γ b o k es) : RowIs w O γ b (o + off * k) k ((es.drop off).take len) :=
  ⟨fun i e he => hr.1 _ _ (take_drop_get he).2, fun i j e c he hj => by
    obtain ⟨h1, v, h2, h3⟩ := hr.2 _ _ _ _ (take_drop_get he).2 hj
    exact ⟨h1, v, by rw [← h2, Nat.add_mul]; congr 2; omega, h3⟩⟩
theorem RowIs.nil (b o k : Nat) : RowIs w O γ b o k [] := ⟨fun i e he => by simp at he, fun i j e c he => by simp at he⟩
/-- A slice's value, and the row behind it. -/
def Shows (w : World) (O : Nat → Prop) (γ : Ghost) (es : List AV) (u : Value) : Prop :=
  ∃ a cap, u = .slice a es.length cap ∧ es.length ≤ cap ∧ (es = [] ∨ ∃ b o k, a = some ⟨b, o, none⟩ ∧ RowIs w O γ b o k es)
theorem sview_sound (r : R X h γ w) {x : AV} {u : Value} {es : List AV} (hx : V w (Ow X h γ) γ x u) (e : sview h x = some es) : Shows w (Ow X h γ) γ es u := by
  cases hx with
  | slc0 full a0 => cases e; exact ⟨a0, 0, rfl, Nat.le_refl _, .inl rfl⟩
  | emp a cap => cases e; exact ⟨some a, cap, rfl, Nat.zero_le _, .inl rfl⟩
  | slc full es b o cap k vals hcap hfull hk hc hv =>
    cases e
    exact ⟨some ⟨b, o, none⟩, cap, rfl, hcap, .inr ⟨b, o, k, rfl, hk, fun i j e c he hj => ⟨(hc i j e c he hj).1, vals i j, (hc i j e c he hj).2.2, hv i j e c he hj⟩⟩⟩
  | arr id off len g k b o cap o' hg hcap ho hrow =>
    have fin : ∀ {es0 : List AV}, off + len ≤ es0.length → RowIs w (Ow X h γ) γ b o k es0 → Shows w (Ow X h γ) γ ((es0.drop off).take len) (.slice (some ⟨b, o', none⟩) len cap) := by
      intro es0 hle hr
      have hlen : ((es0.drop off).take len).length = len := by simp; omega
      refine ⟨some ⟨b, o', none⟩, cap, by rw [hlen], by rw [hlen]; exact hcap, .inr ⟨b, o', k, rfl, ?_⟩⟩
      rcases ho with rfl | h0
      · exact hr.sub
      · have : (es0.drop off).take len = [] := List.eq_nil_of_length_eq_zero (by omega)
        rw [this]; exact RowIs.nil _ _ _
    simp only [sview] at e
    split at e
    · rename_i k' es' g' hid
      split at e
      · rename_i hc; obtain ⟨rfl, rfl, hle⟩ := hc; cases e; exact fin hle (r.arr hid hg).2
      · cases e
    · rename_i k' es' g' hid
      split at e
      · rename_i hc; obtain ⟨rfl, rfl, hle⟩ := hc; cases e; exact fin hle (r.frz hid hg).1
      · cases e
    · rename_i cs hid
      split at e
      · rename_i hc; obtain ⟨rfl, rfl, hle⟩ := hc
        cases e
        have hcs := (r.vars hid hg).2
        refine fin hle ⟨fun i e he => ?_, fun i j e c he hj => ?_⟩
        · obtain ⟨k1, v, _, k3⟩ := hcs i e he
          refine ⟨?_, by rw [(k3.cell_one k1).2.2]; rfl⟩
          cases e <;> first | rfl | (simp [isCell] at k1; done) | skip
          rename_i v'; cases v' <;> first | rfl | (simp [isCell] at k1; done)
        · obtain ⟨k1, v, k2, k3⟩ := hcs i e he
          rw [(k3.cell_one k1).2.2] at hj
          cases j with
          | zero => simp at hj; subst hj; exact ⟨k1, v, by simpa using k2, k3⟩
          | succ n => simp at hj
      · cases e
    · cases e
  | _ => simp [sview] at e
theorem RowIs.len {b o k kk : Nat} {es : List AV} (hr : RowIs w O γ b o k es) (ho : headOk kk es = true) (hne : es ≠ []) : k = kk := headOk_k hr.1 ho hne
/-- The cells behind a row, as a list. -/
def rowVals (w : World) (b o n : Nat) : List Value := (List.range n).map fun m => (w.cell? ⟨b, o + m, none⟩).getD undef
theorem RowIs.vals {b o k : Nat} {es : List AV} (hr : RowIs w O γ b o k es) (hk : 0 < k) {m : Nat} (hm : m < es.length * k) :
    ∃ e c, es[m / k]? = some e ∧ e.cells[m % k]? = some c ∧ isCell c = true ∧ ∃ v, w.cell? ⟨b, o + m, none⟩ = some v ∧ V w O γ c v := by
  have hq : m / k < es.length := (Nat.div_lt_iff_lt_mul hk).2 hm
  have hr1 := hr.1 (m / k) es[m / k] (by simp [hq])
  have hj : m % k < es[m / k].cells.length := by rw [hr1.2]; exact Nat.mod_lt _ hk
  have h1 : es[m / k]? = some es[m / k] := List.getElem?_eq_getElem hq
  have h2 : es[m / k].cells[m % k]? = some (es[m / k].cells[m % k]) := List.getElem?_eq_getElem hj
  obtain ⟨a1, v, a2, a3⟩ := hr.2 (m / k) (m % k) _ _ h1 h2
  refine ⟨_, _, h1, h2, a1, v, ?_, a3⟩
  rw [← a2, Nat.mul_comm (m / k) k, Nat.add_assoc, Nat.div_add_mod]
theorem rowVals_length (w : World) (b o n : Nat) : (rowVals w b o n).length = n := by simp [rowVals]
theorem rowVals_get {b o n m : Nat} {v : Value} (hm : m < n) (hv : w.cell? ⟨b, o + m, none⟩ = some v) : (rowVals w b o n)[m]? = some v := by
  simp [rowVals, hm, hv]
theorem RowIs.rowV {b o k n : Nat} {es : List AV} (hr : RowIs w O γ b o k es) (hn : es.length * k ≤ n) : RowV w O γ k es (rowVals w b o n).toArray := by
  refine ⟨by simpa [rowVals] using hn, hr.1, fun i j e c he hj => ?_⟩
  obtain ⟨h1, v, h2, h3⟩ := hr.2 i j e c he hj
  have hi : i < es.length := (List.getElem?_eq_some_iff.1 he).1
  have hjk : j < k := by have := (List.getElem?_eq_some_iff.1 hj).1; rw [(hr.1 i e he).2] at this; exact this
  have := slot_lt hi hjk
  refine ⟨h1, v, ?_, h3⟩
  simp only [List.getElem?_toArray]
  exact rowVals_get (by omega) (by rw [← h2, Nat.add_assoc])
theorem RowIs.one {b o k : Nat} {es : List AV} (hr : RowIs w O γ b o k es) (hk : 0 < k) : ∀ v ∈ rowVals w b o (es.length * k), v.oneCell' = true := by
  intro v hv
  obtain ⟨m, hm⟩ := List.getElem?_of_mem hv
  have hlt : m < es.length * k := by have := (List.getElem?_eq_some_iff.1 hm).1; simpa [rowVals] using this
  obtain ⟨e, c, _, _, h3, u, h4, h5⟩ := hr.vals hk hlt
  rw [rowVals_get hlt h4] at hm; cases hm
  exact (h5.cell_one h3).1
theorem RowIs.src {b o k cap : Nat} {es : List AV} {tx : TypeId} (hr : RowIs w O γ b o k es) (hk : 0 < k) (hs : isSeqT P tx = true) :
    Src P k tx (.slice (some ⟨b, o, none⟩) es.length cap) es.length (rowVals w b o (es.length * k)) w := by
  have hget : ∀ j u, (rowVals w b o (es.length * k))[j]? = some u → w.cell? ((⟨b, o, none⟩ : Addr).add j) = some u := by
    intro j u hj
    have hlt : j < es.length * k := by have := (List.getElem?_eq_some_iff.1 hj).1; simpa [rowVals] using this
    obtain ⟨e, c, _, _, _, v, h4, _⟩ := hr.vals hk hlt
    rw [rowVals_get hlt h4] at hj; cases hj
    rw [addr_add]; exact h4
  have hl : (rowVals w b o (es.length * k)).length = es.length * k := rowVals_length _ _ _ _
  refine ⟨?_, fun _ => rfl, run_firstCells_some w k es.length _ es.length cap _ hl hget, run_firstCells_some w.drew k es.length _ es.length cap _ hl hget, hl, hr.one hk⟩
  unfold isSeqT at hs
  split at hs
  · rename_i e' hu; exact .inl ⟨e', hu⟩
  · rename_i hu; exact .inr hu
  · cases hs
theorem first_nil (a : Option Addr) {k l c : Nat} : (Builtin.firstCells k 0 (.slice a l c)).run P w = .ok ([] : List Value).toArray w := by
  cases a with
  | none => exact run_firstCells_none w k 0 l c
  | some a => exact run_firstCells_some w k 0 a l c [] (by simp) (fun j v hj => by simp at hj)
theorem src_nil {a : Option Addr} {k cap : Nat} {tx : TypeId} (hs : isSeqT P tx = true) : Src P k tx (.slice a 0 cap) 0 [] w := by
  refine ⟨?_, fun _ => rfl, first_nil a, first_nil a, by simp, fun _ h => by cases h⟩
  unfold isSeqT at hs
  split at hs
  · rename_i e' hu; exact .inl ⟨e', hu⟩
  · rename_i hu; exact .inr hu
  · cases hs
theorem byteVal_V (b : UInt8) : V w O γ (byteVal b) (.int .u8 b.toNat) := .val _
theorem firstCells_str (k : Nat) (s : ByteArray) (w' : World) : (Builtin.firstCells k s.size (.string s)).run P w' = .ok (byteCells s).toArray w' := by
  simp [Builtin.firstCells, byteCells]
  apply Array.ext'
  simp
theorem src_string {k : Nat} {tx : TypeId} (s : ByteArray) (hs : isSeqT P tx = true) (hk : headOk k (s.data.toList.map byteVal) = true) : Src P k tx (.string s) s.size (byteCells s) w := by
  refine ⟨?_, fun _ => rfl, firstCells_str k s w, firstCells_str k s w.drew, ?_, fun u hu => by obtain ⟨_, _, rfl⟩ := List.mem_map.1 hu; rfl⟩
  · unfold isSeqT at hs
    split at hs
    · rename_i e' hu; exact .inl ⟨e', hu⟩
    · rename_i hu; exact .inr hu
    · cases hs
  · rw [byteCells_length]
    cases hl : s.data.toList with
    | nil =>
      have : s.size = 0 := by
        have : s.data.toList.length = 0 := by rw [hl]; rfl
        simpa using this
      rw [this, Nat.zero_mul]
    | cons x r => rw [hl] at hk; simp [headOk, byteVal, AV.cells] at hk; rw [← hk, Nat.mul_one]
theorem bytes_rowV (s : ByteArray) : RowV w O γ 1 (s.data.toList.map byteVal) (byteCells s).toArray := by
  refine ⟨by simp [byteCells], fun i e he => ?_, fun i j e c he hj => ?_⟩
  · simp only [List.getElem?_map] at he
    cases hx : s.data.toList[i]? with
    | none => rw [hx] at he; cases he
    | some x => rw [hx] at he; cases he; exact ⟨rfl, rfl⟩
  · simp only [List.getElem?_map] at he
    cases hx : s.data.toList[i]? with
    | none => rw [hx] at he; cases he
    | some x =>
      rw [hx] at he; cases he
      cases j with
      | zero => simp [byteVal, AV.cells] at hj; subst hj; exact ⟨rfl, _, by simp [byteCells, List.getElem?_map, hx], .val _⟩
      | succ n => simp [byteVal, AV.cells] at hj
/-- What an append takes, all told. -/
theorem aelems_sound (r : R X h γ w) {x : AV} {u : Value} {xs : List AV} {k : Nat} {tx : TypeId} (hx : V w (Ow X h γ) γ x u) (e : aelems h x = some xs) (hs : isSeqT P tx = true) (hk : headOk k xs = true) (hkp : 0 < k) :
    ∃ news, Src P k tx u xs.length news w ∧ RowV w (Ow X h γ) γ k xs news.toArray ∧ news.length = xs.length * k := by
  unfold aelems at e
  split at e
  · rename_i s
    cases hx.val_inv; cases e
    have hsrc := src_string (P := P) (w := w) s hs hk
    have hl : (s.data.toList.map byteVal).length = s.size := by simp
    refine ⟨byteCells s, by rw [hl]; exact hsrc, ?_, by rw [hl]; exact hsrc.newsLen⟩
    cases hd : s.data.toList with
    | nil => exact ⟨by simp, fun i e he => by simp at he, fun i j e c he => by simp at he⟩
    | cons y t =>
      have : k = 1 := by rw [hd] at hk; simp [headOk, byteVal, AV.cells] at hk; exact hk.symm
      subst this
      rw [← hd]; exact bytes_rowV s
  · obtain ⟨a, cap, rfl, hcap, hh⟩ := sview_sound r hx e
    rcases hh with rfl | ⟨b, o, k', rfl, hr⟩
    · exact ⟨[], src_nil hs, ⟨by simp, fun i e he => by simp at he, fun i j e c he => by simp at he⟩, by simp⟩
    · by_cases hne : xs = []
      · subst hne
        have hr' : RowIs w (Ow X h γ) γ b o k [] := RowIs.nil b o k
        exact ⟨_, hr'.src hkp hs, hr'.rowV (by simp), by simp [rowVals]⟩
      · obtain rfl := hr.len hk hne
        exact ⟨_, hr.src hkp hs, hr.rowV (Nat.le_refl _), rowVals_length _ _ _ _⟩
/-- Two rows behind one another. -/
theorem RowV.append {k : Nat} {es xs : List AV} {vs us rest : Array Value} (h1 : RowV w O γ k es vs) (h2 : RowV w O γ k xs us) (hl : vs.size = es.length * k) : RowV w O γ k (es ++ xs) (vs ++ us ++ rest) := by
  refine ⟨by have := h2.1; simp [Nat.add_mul]; omega, fun i e he => ?_, fun i j e c he hj => ?_⟩
  · by_cases hi : i < es.length
    · rw [List.getElem?_append_left hi] at he; exact h1.2.1 i e he
    · rw [List.getElem?_append_right (Nat.le_of_not_lt hi)] at he; exact h2.2.1 _ e he
  · by_cases hi : i < es.length
    · rw [List.getElem?_append_left hi] at he
      obtain ⟨a1, v, a2, a3⟩ := h1.2.2 i j e c he hj
      have hlt := (Array.getElem?_eq_some_iff.1 a2).1
      exact ⟨a1, v, by rw [Array.append_assoc, Array.getElem?_append_left hlt]; exact a2, a3⟩
    · rw [List.getElem?_append_right (Nat.le_of_not_lt hi)] at he
      obtain ⟨a1, v, a2, a3⟩ := h2.2.2 _ j e c he hj
      have hlt := (Array.getElem?_eq_some_iff.1 a2).1
      refine ⟨a1, v, ?_, a3⟩
      have hge : es.length * k ≤ i * k := Nat.mul_le_mul_right k (Nat.le_of_not_lt hi)
      have hsub : (i - es.length) * k = i * k - es.length * k := Nat.sub_mul _ _ _
      rw [Array.append_assoc, Array.getElem?_append_right (by omega), Array.getElem?_append_left (by omega)]
      rw [show i * k + j - vs.size = (i - es.length) * k + j by omega]
      exact a2
theorem zeroCells_size (z : Array Value) (n : Nat) : (Builtin.zeroCells z n).size = n * z.size := by simp [Builtin.zeroCells]
theorem args_two {α : Type} {a : Array α} {x y : α} (h : a.toList = [x, y]) : a = #[x, y] := by
  apply Array.ext'; simpa using h
theorem ts_two {ts : Array TypeId} (h : ts.size = 2) : ts = #[argT ts 0, argT ts 1] := by
  unfold argT
  apply Array.ext
  · simp [h]
  · intro i h1 h2
    have : i = 0 ∨ i = 1 := by simp at h2; omega
    rcases this with rfl | rfl <;> simp [Array.getD, h]
/-- The first elements of a slice of the run's own, as cells. -/
theorem arr_olds {b o' k len cap : Nat} {es : List AV} (hr : RowIs w O γ b o' k es) (hk : 0 < k) (hl : es.length = len) :
    ∃ olds : List Value, (Builtin.firstCells k len (.slice (some ⟨b, o', none⟩) len cap)).run P w.drew = .ok olds.toArray w.drew ∧ RowV w O γ k es olds.toArray ∧ olds.length = len * k := by
  subst hl
  refine ⟨rowVals w b o' (es.length * k), ?_, hr.rowV (Nat.le_refl _), rowVals_length _ _ _ _⟩
  refine run_firstCells_some w.drew k es.length _ es.length cap _ (rowVals_length _ _ _ _) fun j u hj => ?_
  have hlt : j < es.length * k := by have := (List.getElem?_eq_some_iff.1 hj).1; simpa [rowVals] using this
  obtain ⟨e, c, _, _, _, v, h4, _⟩ := hr.vals hk hlt
  rw [rowVals_get hlt h4] at hj; cases hj
  rw [addr_add]; exact h4
theorem alloc_step {w' : World} {o : Obj} (hw : w'.heap = w.heap.push o) (h1 : w'.os = w.os) (h2 : w'.tape = w.tape) (h3 : w'.output = w.output) (O : Nat → Prop) : Step w w' O := by
  have hold : ∀ b, b < w.heap.size → w'.heap[b]? = w.heap[b]? := fun b hb => by rw [hw, Array.getElem?_push, if_neg (by omega)]
  exact ⟨h1, h2, h3, by rw [hw]; simp, fun b hb _ => hold b hb, fun b c' T' z' hh => ⟨c', z', by rw [hold b (Array.getElem?_eq_some_iff.1 hh).1]; exact hh, rfl⟩⟩
theorem append_arr (r : R X h γ w) {t tx ty el : TypeId} {i : TypeInfo} {zv : Value} {id off len g b o cap o' : Nat} {es xs : List AV} {ux : Value} {news : List Value}
    (hu : P.underlying t = some (.slice el)) (hi : P.info? el = some i) (hzero : i.zero = some zv) (hzs : zv.cells.size = i.size) (hk0 : 0 < i.size) (hb0 : 0 < i.bytes)
    (hid : hget h id = .arr i.size es g) (hle : off + len ≤ es.length) (hg : γ id g = some (b, o)) (hcap : len ≤ cap) (ho : o' = o + off * i.size ∨ cap = 0)
    (hrow0 : ∃ (c : Array Value) (T : TypeId) (z : Nat × Nat), w.heap[b]? = some (Obj.cells c T z) ∧ o + (off + cap) * i.size ≤ c.size)
    (hsrc : Src P i.size tx ux xs.length news w) (hrow : RowV w (Ow X h γ) γ i.size xs news.toArray) (hnl : news.length = xs.length * i.size) (hfit : (len + xs.length) * i.bytes ≤ 2 ^ 47) :
    ∃ y w' γ', (Builtin.append_ #[t, tx] ty #[.slice (some ⟨b, o', none⟩) len cap, ux]).run P w = .ok y w' ∧
      Goes X h γ w (h.set id (.arr i.size ((es.drop off).take len ++ xs) (g + 1))) γ' w' ∧
      V w' (Ow X (h.set id (.arr i.size ((es.drop off).take len ++ xs) (g + 1))) γ') γ' (.arr id 0 (len + xs.length) (g + 1) i.size) y := by
  obtain ⟨hf, hr⟩ := r.arr hid hg
  have hr1 : RowIs w (Ow X h γ) γ b (o + off * i.size) i.size ((es.drop off).take len) := hr.sub
  have hvl : ((es.drop off).take len).length = len := by simp; omega
  generalize (es.drop off).take len = es1 at *
  have hog : ogen (hget h id) = some g := by rw [hid]; rfl
  have hgnone : γ id (g + 1) = none := by
    cases e : γ id (g + 1) with
    | none => rfl
    | some p => have := r.gens _ _ _ _ _ _ hid e; omega
  have hext : ∀ p i' j q, γ i' j = some q → (γ.put id (g + 1) p) i' j = some q := by
    intro p i' j q e
    unfold Ghost.put
    rw [if_neg]
    · exact e
    · rintro ⟨rfl, rfl⟩; rw [hgnone] at e; cases e
  have hback : ∀ p i' j q, (γ.put id (g + 1) p) i' j = some q → γ i' j = some q ∨ (i' = id ∧ ogen (.arr i.size (es1 ++ xs) (g + 1)) = some j) := by
    intro p i' j q e
    unfold Ghost.put at e
    split at e
    · rename_i hc; obtain ⟨rfl, rfl⟩ := hc; exact .inr ⟨rfl, rfl⟩
    · exact .inl e
  have hput : ∀ p, (γ.put id (g + 1) p) id (g + 1) = some p := fun p => by simp [Ghost.put]
  have hgens' : ∀ p k2 es2 g2, AObj.arr i.size (es1 ++ xs) (g + 1) = .arr k2 es2 g2 → ∀ j q, (γ.put id (g + 1) p) id j = some q → j ≤ g2 := by
    intro p k2 es2 g2 e j q hq
    cases e
    unfold Ghost.put at hq
    split at hq
    · rename_i hc; omega
    · have := r.gens _ _ _ _ _ _ hid hq; omega
  obtain ⟨c, T, zz, hb, hsz⟩ := hrow0
  rw [Nat.add_mul] at hsz
  by_cases hroom : len + xs.length ≤ cap
  · -- there is room
    by_cases hn0 : news = []
    · -- nothing is written
      have hxs0 : xs = [] := by
        have : xs.length * i.size = 0 := by rw [← hnl, hn0]; rfl
        rcases Nat.mul_eq_zero.1 this with h1 | h1
        · exact List.eq_nil_of_length_eq_zero h1
        · omega
      subst hn0; subst hxs0
      have hrun : (Builtin.append_ #[t, tx] ty #[.slice (some ⟨b, o', none⟩) len cap, ux]).run P w = .ok (.slice (some ⟨b, o', none⟩) (len + 0) cap) w := by
        have hcl := hsrc.cells
        have hln := hsrc.len
        simp only [List.length_nil] at hcl hln hroom
        rcases hsrc.kind with ⟨e', hk'⟩ | hk' <;>
          simp [Builtin.append_, run_underlying hu, run_underlying hk', sizeOf, typeInfo, hi, hln, hcl, hcap, storeCells]
      simp only [List.append_nil] at hback hgens' ⊢
      have hgo : Goes X h γ w (h.set id (.arr i.size es1 (g + 1))) (γ.put id (g + 1) (b, o + off * i.size)) w := by
        refine change_goes r hog hg (hext _) (hback _) (Step.refl _ _) (fun g' b' p' e1 e2 => ?_) (hgens' _) fun s => ?_
        · simp only [ogen, Option.some.injEq] at e1; subst e1
          rw [hput] at e2; cases e2; exact .inl rfl
        · exact ⟨b, _, hput _, hf, hr1.mono s fun _ => rfl⟩
      refine ⟨_, _, _, hrun, hgo, .arr id 0 (len + 0) (g + 1) i.size b (o + off * i.size) cap o' (hput _) (by simpa using hcap) (by simpa using ho) ⟨c, T, zz, hb, by simp only [Nat.zero_add]; omega⟩⟩
    · have hnpos : 0 < news.length := List.length_pos_iff.2 hn0
      have hxpos : 0 < xs.length := Nat.pos_of_ne_zero fun h0 => by rw [h0, Nat.zero_mul] at hnl; omega
      obtain rfl : o' = o + off * i.size := by rcases ho with h0 | h0 <;> omega
      have hm : (len + xs.length) * i.size ≤ cap * i.size := Nat.mul_le_mul_right _ hroom
      rw [Nat.add_mul] at hm
      have hfitW : ∃ (c : Array Value) (T : TypeId) (z : Nat × Nat), w.heap[b]? = some (Obj.cells c T z) ∧ o + off * i.size + len * i.size + news.length ≤ c.size := ⟨c, T, zz, hb, by omega⟩
      have hrun : (Builtin.append_ #[t, tx] ty #[.slice (some ⟨b, o + off * i.size, none⟩) len cap, ux]).run P w = .ok (.slice (some ⟨b, o + off * i.size, none⟩) (len + xs.length) cap) (putW w b (o + off * i.size + len * i.size) news) := by
        have hst : (storeCells ⟨b, o + off * i.size + len * i.size, none⟩ news 0).run P w = .ok () (putW w b (o + off * i.size + len * i.size + 0) news) := by
          refine run_storeCells P news w _ 0 hf (fun c2 T2 z2 hh2 => ?_) hsrc.one
          rw [hb] at hh2; cases hh2; omega
        rw [Nat.add_zero] at hst
        rcases hsrc.kind with ⟨e', hk'⟩ | hk' <;>
          simp [Builtin.append_, run_underlying hu, run_underlying hk', sizeOf, typeInfo, hi, hsrc.len, hroom, hsrc.cells, addr_add, hst]
      obtain ⟨hc1, hc2⟩ := putW_cell news hfitW
      have hgo : Goes X h γ w (h.set id (.arr i.size (es1 ++ xs) (g + 1))) (γ.put id (g + 1) (b, o + off * i.size)) (putW w b (o + off * i.size + len * i.size) news) := by
        refine change_goes r hog hg (hext _) (hback _) (putW_step news hfitW) (fun g' b' p' e1 e2 => ?_) (hgens' _) fun s => ?_
        · simp only [ogen, Option.some.injEq] at e1; subst e1
          rw [hput] at e2; cases e2; exact .inl rfl
        · refine ⟨b, _, hput _, putW_free _ hf (fun c2 T2 z2 hh2 => by rw [hb] at hh2; cases hh2; omega), fun m e he => ?_, fun m j e cc he hj => ?_⟩
          · by_cases hm' : m < es1.length
            · rw [List.getElem?_append_left hm'] at he; exact hr1.1 m e he
            · rw [List.getElem?_append_right (Nat.le_of_not_lt hm')] at he; exact hrow.2.1 _ e he
          · by_cases hm' : m < es1.length
            · rw [List.getElem?_append_left hm'] at he
              obtain ⟨a1, v, a2, a3⟩ := hr1.2 m j e cc he hj
              have hjk : j < i.size := by have := (List.getElem?_eq_some_iff.1 hj).1; rw [(hr1.1 m e he).2] at this; exact this
              have := slot_lt hm' hjk
              rw [hvl] at this
              exact ⟨a1, v, by rw [hc1 _ (.inl (by omega))]; exact a2, a3.mono s⟩
            · rw [List.getElem?_append_right (Nat.le_of_not_lt hm')] at he
              obtain ⟨a1, v, a2, a3⟩ := hrow.2.2 _ j e cc he hj
              have hlt := (Array.getElem?_eq_some_iff.1 a2).1
              simp only [List.size_toArray] at hlt
              have hge : es1.length * i.size ≤ m * i.size := Nat.mul_le_mul_right _ (Nat.le_of_not_lt hm')
              have hsub : (m - es1.length) * i.size = m * i.size - es1.length * i.size := Nat.sub_mul _ _ _
              refine ⟨a1, v, ?_, a3.mono s⟩
              have := hc2 ((m - es1.length) * i.size + j) hlt
              rw [hvl] at hge hsub this
              rw [show o + off * i.size + m * i.size + j = o + off * i.size + len * i.size + ((m - len) * i.size + j) by omega, this]
              simpa [hvl] using a2
      exact ⟨_, _, _, hrun, hgo, .arr id 0 (len + xs.length) (g + 1) i.size b (o + off * i.size) cap _ (hput _) hroom (.inl (by simp)) (by
        obtain ⟨c', z', k1, k2⟩ := hgo.step.row b c T zz hb
        exact ⟨c', T, z', k1, by rw [k2, Nat.zero_add]; omega⟩)⟩
  · -- a new row
    have hxpos : len + xs.length > cap := by omega
    have hro : RowIs w (Ow X h γ) γ b o' i.size es1 := by
      rcases ho with h0 | h0
      · rw [h0]; exact hr1
      · have : es1 = [] := List.eq_nil_of_length_eq_zero (by omega)
        rw [this]; exact RowIs.nil _ _ _
    obtain ⟨olds, hold, holdrow, holdl⟩ := arr_olds (P := P) (cap := cap) hro hk0 hvl
    have hbig : len + xs.length ≤ 2 ^ 47 := Nat.le_trans (Nat.le_mul_of_pos_right _ hb0) hfit
    have hrun := run_append_grow_src w t tx ty el i zv hu hi hzero (some ⟨b, o', none⟩) len cap olds hold ux xs.length news hsrc (by omega) (by omega) (growslice_fits (by omega) (by omega))
    have hge := grownCap_ge w (len + xs.length) cap el
    generalize hN : grownCap w (len + xs.length) cap el = N at *
    have hz' := zeroCells_size zv.cells (N - (len + xs.length))
    rw [hzs, Nat.sub_mul, Nat.add_mul] at hz'
    have hm : (len + xs.length) * i.size ≤ N * i.size := Nat.mul_le_mul_right _ hge
    rw [Nat.add_mul] at hm
    have hrv := holdrow.append (rest := Builtin.zeroCells zv.cells (N - (len + xs.length))) hrow (by simpa [hvl] using holdl)
    have e1 : olds.toArray ++ news.toArray ++ Builtin.zeroCells zv.cells (N - (len + xs.length)) = (olds ++ news).toArray ++ Builtin.zeroCells zv.cells (N - (len + xs.length)) := by simp
    rw [e1] at hrv
    generalize hcc : (olds ++ news).toArray ++ Builtin.zeroCells zv.cells (N - (len + xs.length)) = cc at *
    have hccs : cc.size = N * i.size := by rw [← hcc]; simp only [Array.size_append, List.size_toArray, List.length_append, holdl, hnl, hz']; omega
    have hnew : (w.drew.alloc (.cells cc el)).heap[w.heap.size]? = some (.cells cc el (0, 0)) := by simp [World.alloc, World.drew, -World.alloc_eq, -World.drew_eq]
    have hgo : Goes X h γ w (h.set id (.arr i.size (es1 ++ xs) (g + 1))) (γ.put id (g + 1) (w.heap.size, 0)) (w.drew.alloc (.cells cc el)) := by
      refine change_goes r hog hg (hext _) (hback _) (alloc_step (w := w) (w' := w.drew.alloc (.cells cc el)) (o := .cells cc el) rfl rfl rfl rfl _) (fun g' b' p' e1 e2 => ?_) (hgens' _) fun s => ?_
      · simp only [ogen, Option.some.injEq] at e1; subst e1
        rw [hput] at e2; cases e2; exact .inr (Nat.le_refl _)
      · refine ⟨_, _, hput _, ⟨cc, el, (0, 0), hnew, fun off2 _ => by simp only [World.frozen?, hnew]; simp⟩, hrv.2.1, fun m j e x he hj => ?_⟩
        obtain ⟨a1, v, a2, a3⟩ := hrv.2.2 m j e x he hj
        exact ⟨a1, v, by rw [cell_iff hnew, Nat.zero_add]; exact a2, a3.mono s⟩
    exact ⟨_, _, _, hrun, hgo, .arr id 0 (len + xs.length) (g + 1) i.size w.heap.size 0 N 0 (hput _) hge (.inl (by simp)) ⟨cc, el, (0, 0), hnew, by rw [hccs]; simp⟩⟩
theorem aappend_sound (r : R X h γ w) {ts : Array TypeId} {ty : TypeId} {s x v : AV} {us ux : Value} {h' : AHeap} (hs : V w (Ow X h γ) γ s us) (hx : V w (Ow X h γ) γ x ux)
    (hts : ts.size = 2) (hsq : isSeqT P (argT ts 1) = true) (e : aappend P (argT ts 0) h s x = some (v, h')) :
    ∃ y w' γ', (Builtin.append_ ts ty #[us, ux]).run P w = .ok y w' ∧ Goes X h γ w h' γ' w' ∧ V w' (Ow X h' γ') γ' v y := by
  rw [ts_two hts]
  generalize argT ts 0 = t at *
  generalize argT ts 1 = tx at *
  unfold aappend at e
  split at e
  · cases e
  · rename_i ks bytes z hsl
    obtain ⟨el, i, zv, hu, hi, hzero, rfl, rfl, rfl, hk0, hb0, hzl, hok, hcells⟩ := tslice_all hsl
    have hzV : V w (Ow X h γ) γ (ofVal zv) zv := ofVal_V zv hcells
    have hzs : zv.cells.size = i.size := by rw [← (hzV.cv hok).1]; exact hzl
    split at e
    · cases e
    · rename_i xs hxs
      split at e
      · cases e
      · rename_i hho
        have hho' : headOk i.size xs = true := by simpa using hho
        obtain ⟨news, hsrc, hrow, hnl⟩ := aelems_sound (P := P) r hx hxs hsq hho' hk0
        split at e
        · rename_i es
          split at e
          · cases e
          · rename_i hhe
            have hhe' : headOk i.size es = true := by simpa using hhe
            -- what lies there
            obtain ⟨a, cap, rfl, hcap, hh⟩ := sview_sound r hs (es := es) rfl
            have hfull : cap = es.length := by
              cases hs with
              | slc0 _ _ => rfl
              | slc _ _ b o cap k vals hcap' hfull hk hc hv => exact hfull rfl
            subst hfull
            split at e
            · rename_i hxe
              cases e
              subst hxe
              refine ⟨.slice a es.length es.length, w, γ, ?_, Goes.refl r, hs⟩
              have hn0 : news = [] := List.eq_nil_of_length_eq_zero (by rw [hnl]; simp)
              subst hn0
              have hcl := hsrc.cells
              have hln := hsrc.len
              simp only [List.length_nil] at hcl hln
              rcases a with _ | a
              · rcases hsrc.kind with ⟨e', hk'⟩ | hk' <;>
                  simp [Builtin.append_, run_underlying hu, run_underlying hk', sizeOf, typeInfo, hi, hln, hcl]
              · rcases hsrc.kind with ⟨e', hk'⟩ | hk' <;>
                  simp [Builtin.append_, run_underlying hu, run_underlying hk', sizeOf, typeInfo, hi, hln, hcl, storeCells]
            · rename_i hxe
              split at e
              · rename_i hfit
                cases e
                have hxl : 0 < xs.length := List.length_pos_iff.2 hxe
                have hbig : es.length + xs.length ≤ 2 ^ 47 := Nat.le_trans (Nat.le_mul_of_pos_right _ hb0) hfit
                -- the elements that lie there
                obtain ⟨olds, hold, holdrow, holdl⟩ : ∃ olds : List Value, (Builtin.firstCells i.size es.length (.slice a es.length es.length)).run P w.drew = .ok olds.toArray w.drew ∧ RowV w (Ow X h γ) γ i.size es olds.toArray ∧ olds.length = es.length * i.size := by
                  rcases hh with rfl | ⟨b, o, k', rfl, hr⟩
                  · exact ⟨[], first_nil a, ⟨by simp, fun i e he => by simp at he, fun i j e c he => by simp at he⟩, by simp⟩
                  · by_cases hne : es = []
                    · subst hne
                      have hr' : RowIs w (Ow X h γ) γ b o i.size [] := RowIs.nil b o i.size
                      exact ⟨_, (hr'.src (cap := 0) hk0 hsq).cellsD, hr'.rowV (by simp), by simp [rowVals]⟩
                    · obtain rfl := hr.len hhe' hne
                      exact ⟨_, (hr.src (cap := es.length) hk0 hsq).cellsD, hr.rowV (Nat.le_refl _), rowVals_length _ _ _ _⟩
                have hrun := run_append_grow_src w t tx ty el i zv hu hi hzero a es.length es.length olds hold ux xs.length news hsrc (by omega) (by omega) (growslice_fits (by omega) (by omega))
                have hge := grownCap_ge w (es.length + xs.length) es.length el
                generalize hN : grownCap w (es.length + xs.length) es.length el = N at *
                have hz' := zeroCells_size zv.cells (N - (es.length + xs.length))
                rw [hzs, Nat.sub_mul, Nat.add_mul] at hz'
                have hm : (es.length + xs.length) * i.size ≤ N * i.size := Nat.mul_le_mul_right _ hge
                rw [Nat.add_mul] at hm
                have hrv := holdrow.append (rest := Builtin.zeroCells zv.cells (N - (es.length + xs.length))) hrow (by simpa using holdl)
                have e1 : olds.toArray ++ news.toArray ++ Builtin.zeroCells zv.cells (N - (es.length + xs.length)) = (olds ++ news).toArray ++ Builtin.zeroCells zv.cells (N - (es.length + xs.length)) := by simp
                rw [e1] at hrv
                generalize hcc : (olds ++ news).toArray ++ Builtin.zeroCells zv.cells (N - (es.length + xs.length)) = cc at *
                have hccs : cc.size = N * i.size := by rw [← hcc]; simp only [Array.size_append, List.size_toArray, List.length_append, holdl, hnl, hz']; omega
                have hnew : (w.drew.alloc (.cells cc el)).heap[w.heap.size]? = some (.cells cc el (0, 0)) := by simp [World.alloc, World.drew, -World.alloc_eq, -World.drew_eq]
                exact ⟨_, _, _, hrun, alloc_goes r (T := el) (z := (0, 0)) (o := .arr i.size (es ++ xs) 0) rfl rfl rfl rfl (fun off _ => by simp) ⟨rfl, hrv.2.1, hrv.2.2⟩,
                  .arr h.length 0 _ 0 i.size w.heap.size 0 N 0 (by simp [Ghost.put]) hge (.inl (by simp)) ⟨cc, el, (0, 0), hnew, by rw [hccs]; simp⟩⟩
              · cases e
        · rename_i id off len g k
          split at e
          · rename_i k' es g' hid
            split at e
            · rename_i hcd; obtain ⟨rfl, rfl, hle, rfl, hfit⟩ := hcd
              cases e
              cases hs with
              | arr id off len g k b o cap o' hg hcap ho hrow0 =>
                exact append_arr r hu hi hzero hzs hk0 hb0 hid hle hg hcap ho hrow0 hsrc hrow hnl hfit
            · cases e
          · cases e
        · cases e
end
end Go.Ab
namespace Go.Ab
set_option linter.unusedSimpArgs false
set_option linter.unusedVariables false
open Go.Lib
section
variable {P : Program} {X O : Nat → Prop} {h : AHeap} {γ : Ghost} {w : World}

/-! ### Conversions -/
theorem bytesOf_inv : ∀ {es : List AV} {l : List UInt8}, bytesOf es = some l → ∃ ns : List Int, es = ns.map (fun n => AV.val (.int .u8 n)) ∧ l = ns.map fun n => UInt8.ofNat n.toNat
  | [], l, e => by cases e; exact ⟨[], rfl, rfl⟩
  | e0 :: r, l, e => by
    unfold bytesOf at e
    split at e
    · rename_i heq; cases heq
    · rename_i n r' heq
      cases heq
      cases hb : bytesOf r with
      | none => rw [hb] at e; cases e
      | some l' =>
        rw [hb] at e; cases e
        obtain ⟨ns, rfl, rfl⟩ := bytesOf_inv hb
        exact ⟨n :: ns, rfl, rfl⟩
    · cases e
theorem foldl_push (ns : List Int) : ∀ s : ByteArray, ns.foldl (fun r n => r.push (UInt8.ofNat n.toNat)) s = ⟨s.data ++ (ns.map fun n => UInt8.ofNat n.toNat).toArray⟩ := by
  induction ns with
  | nil => intro s; simp
  | cons n r ih =>
    intro s
    rw [List.foldl_cons, ih]
    congr 1
    apply Array.ext'
    simp [ByteArray.push]
theorem bytes_world (w : World) (e : TypeId) (s : ByteArray) : (bytesWorld w e s).heap = w.heap.push (.cells (bytesCells w e s) e ((bytesCells w e s).size, (bytesCells w e s).size + 1)) := by
  apply Array.ext_getElem?
  intro j
  by_cases h1 : j < w.heap.size
  · rw [bytesWorld_at_old w e s j h1, Array.getElem?_push, if_neg (by omega)]
  · by_cases h2 : j = w.heap.size
    · subst h2; rw [bytesWorld_at_new]; simp
    · rw [Array.getElem?_eq_none (by rw [bytesWorld_size]; omega), Array.getElem?_eq_none (by simp; omega)]
theorem aconvert_sound (r : R X h γ w) {src dst : TypeId} {x v : AV} {u : Value} {h' : AHeap} (hx : V w (Ow X h γ) γ x u) (e : aconvert P src dst h x = some (v, h')) :
    ∃ y w' γ', (convert src dst u).run P w = .ok y w' ∧ Goes X h γ w h' γ' w' ∧ V w' (Ow X h' γ') γ' v y := by
  unfold aconvert at e
  split at e
  · rename_i k0 k hs hd
    split at e
    · cases hx.val_inv; cases e
      exact ⟨_, w, γ, by simp [convert, run_underlying hs, run_underlying hd, Conv.intToInt], Goes.refl r, .val _⟩
    · cases e
  · rename_i hs hd
    split at e
    · cases hx.val_inv; cases e
      exact ⟨_, w, γ, by simp [convert, run_underlying hs, run_underlying hd], Goes.refl r, .val _⟩
    · cases e
  · rename_i el hs hd
    split at e
    · rename_i s hel
      cases hx.val_inv; cases e
      have hrun := run_convert_string_bytes w src dst el s hs hd hel
      have hge := grownCap_ge w s.size 0 el
      have hsz : (bytesCells w el s).size = grownCap w s.size 0 el := by simp [bytesCells]; omega
      refine ⟨_, _, _, hrun, alloc_goes r (bytes_world w el s) rfl rfl rfl (fun off ho => by simp; omega) (o := .arr 1 (s.data.toList.map byteVal) 0) ?_, ?_⟩
      · have hb := bytes_rowV (w := w) (O := Ow X h γ) (γ := γ) s
        refine ⟨rfl, hb.2.1, fun i j e x he hj => ?_⟩
        obtain ⟨a1, v, a2, a3⟩ := hb.2.2 i j e x he hj
        refine ⟨a1, v, ?_, a3⟩
        have hlt := (Array.getElem?_eq_some_iff.1 a2).1
        have e1 : bytesCells w el s = (byteCells s).toArray ++ Array.replicate (grownCap w s.size 0 el - s.size) (.int .u8 0) := by
          unfold bytesCells byteCells
          congr 1
          apply Array.ext'; simp
        rw [e1, Array.getElem?_append_left hlt]; exact a2
      · exact .arr h.length 0 s.size 0 1 w.heap.size 0 _ 0 (by simp [Ghost.put]) hge (.inl (by simp)) ⟨_, _, _, bytesWorld_at_new w el s, by rw [hsz]; simp⟩
    · cases e
  · rename_i el hs hd
    split at e
    · rename_i es hel hv
      split at e
      · rename_i ho
        cases hb : bytesOf es with
        | none => rw [hb] at e; cases e
        | some l =>
          rw [hb] at e; cases e
          obtain ⟨ns, rfl, rfl⟩ := bytesOf_inv hb
          obtain ⟨a, cap, rfl, hcap, hh⟩ := sview_sound r hx hv
          refine ⟨_, w, γ, ?_, Goes.refl r, .val _⟩
          rw [run_convert_bytes_string w src dst el a _ cap hs hel hd]
          rcases hh with hnil | ⟨b, o, k, rfl, hr⟩
          · simp at hnil; subst hnil
            cases a with
            | none => rfl
            | some a => rfl
          · have hload : (loadCells ⟨b, o, none⟩ (ns.map fun n => AV.val (.int .u8 n)).length).run P w = .ok (ns.map (Value.int .u8)).toArray w := by
              have := run_loadCells_list (P := P) w ⟨b, o, none⟩ (ns.map (Value.int .u8)) fun j u hj => ?_
              · simpa using this
              · simp only [List.getElem?_map] at hj
                cases hn : ns[j]? with
                | none => rw [hn] at hj; cases hj
                | some n =>
                  rw [hn] at hj; cases hj
                  have hj' : (ns.map fun n => AV.val (.int .u8 n))[j]? = some (.val (.int .u8 n)) := by simp [hn]
                  obtain ⟨_, v, h2, h3⟩ := hr.2 j 0 _ (.val (.int .u8 n)) hj' rfl
                  have hk1 : k = 1 := by have := (hr.1 _ _ hj').2; simpa [AV.cells] using this.symm
                  subst hk1
                  cases h3.val_inv
                  rw [addr_add]; simpa using h2
            rw [run_bytesToString w _ _ cap ns hload, foldl_push]
            have e0 : ByteArray.empty.data ++ (ns.map fun n => UInt8.ofNat n.toNat).toArray = (ns.map fun n => UInt8.ofNat n.toNat).toArray := Array.empty_append
            rw [e0]
      · cases e
    · cases e
  · cases e

/-! ### copy, len, min, max -/
theorem take_get {α : Type} {l : List α} {n i : Nat} {e : α} (h : (l.take n)[i]? = some e) : i < n ∧ l[i]? = some e := by
  have hlt : i < n := by
    have := (List.getElem?_eq_some_iff.1 h).1; simp at this; omega
  rw [List.getElem?_take_of_lt hlt] at h
  exact ⟨hlt, h⟩
theorem afirst_sound (r : R X h γ w) {x : AV} {u : Value} {xs : List AV} {k n : Nat} (hx : V w (Ow X h γ) γ x u) (e : aelems h x = some xs) (hk : headOk k xs = true) (hkp : 0 < k) (hn : n ≤ xs.length) :
    (∀ w' : World, ∃ m, (Builtin.lenOf u).run P w' = .ok m w' ∧ m = xs.length) ∧
    ∃ us : List Value, (Builtin.firstCells k n u).run P w = .ok us.toArray w ∧ RowV w (Ow X h γ) γ k (xs.take n) us.toArray ∧ us.length = n * k ∧ ∀ v ∈ us, v.oneCell' = true := by
  unfold aelems at e
  split at e
  · rename_i s
    cases hx.val_inv; cases e
    refine ⟨fun _ => ⟨s.size, rfl, by simp⟩, ?_⟩
    by_cases h0 : n = 0
    · subst h0
      exact ⟨[], by simp [Builtin.firstCells], ⟨by simp, fun i e he => by simp at he, fun i j e c he => by simp at he⟩, by simp, fun v hv => by cases hv⟩
    · have : k = 1 := by
        cases hd : s.data.toList with
        | nil => rw [hd] at hn; simp at hn; omega
        | cons y t => rw [hd] at hk; simp [headOk, byteVal, AV.cells] at hk; exact hk.symm
      subst this
      have hb := bytes_rowV (w := w) (O := Ow X h γ) (γ := γ) s
      have hbl : (byteCells s).length = s.size := byteCells_length s
      simp at hn
      refine ⟨(byteCells s).take n, ?_, ⟨by simp [hbl], fun i e he => ?_, fun i j e c he hj => ?_⟩, by simp [hbl]; omega, fun v hv => ?_⟩
      · simp only [Builtin.firstCells, Sem.run_pure]
        congr 1
        apply Array.ext'
        simp [byteCells]
      · exact hb.2.1 i e (take_get he).2
      · obtain ⟨hin, he'⟩ := take_get he
        obtain ⟨a1, v, a2, a3⟩ := hb.2.2 i j e c he' hj
        have hj0 : j = 0 := by
          have h1 := (List.getElem?_eq_some_iff.1 hj).1
          have h2 := (hb.2.1 i e he').2
          omega
        subst hj0
        refine ⟨a1, v, ?_, a3⟩
        simp only [List.getElem?_toArray, Nat.mul_one, Nat.add_zero] at a2 ⊢
        rw [List.getElem?_take_of_lt hin]; exact a2
      · have := List.mem_of_mem_take hv
        obtain ⟨_, _, rfl⟩ := List.mem_map.1 this
        rfl
  · obtain ⟨a, cap, rfl, hcap, hh⟩ := sview_sound r hx e
    refine ⟨fun _ => ⟨xs.length, rfl, rfl⟩, ?_⟩
    have nil : n = 0 → ∃ us : List Value, (Builtin.firstCells k n (.slice a xs.length cap)).run P w = .ok us.toArray w ∧ RowV w (Ow X h γ) γ k (xs.take n) us.toArray ∧ us.length = n * k ∧ ∀ v ∈ us, v.oneCell' = true := by
      rintro rfl
      refine ⟨[], ?_, ⟨by simp, fun i e he => by simp at he, fun i j e c he => by simp at he⟩, by simp, fun v hv => by cases hv⟩
      cases a with
      | none => exact run_firstCells_none w k 0 xs.length cap
      | some a => exact run_firstCells_some w k 0 a xs.length cap [] (by simp) (fun j v hj => by simp at hj)
    rcases hh with rfl | ⟨b, o, k', rfl, hr⟩
    · exact nil (by simpa using hn)
    · by_cases h0 : n = 0
      · exact nil h0
      · have hne : xs ≠ [] := by rintro rfl; simp at hn; omega
        obtain rfl := hr.len hk hne
        have hr' : RowIs w (Ow X h γ) γ b o k' (xs.take n) := by simpa using hr.sub (off := 0) (len := n)
        have hl : (xs.take n).length = n := by simp; omega
        obtain ⟨us, h1, h2, h3⟩ := arr_olds (P := P) (cap := cap) hr' hkp hl
        refine ⟨rowVals w b o (n * k'), ?_, by have := hr'.rowV (n := n * k') (by rw [hl]; exact Nat.le_refl _); exact this, rowVals_length _ _ _ _, by have := hr'.one hkp; rw [hl] at this; exact this⟩
        refine run_firstCells_some w k' n _ xs.length cap _ (rowVals_length _ _ _ _) fun j u hj => ?_
        have hlt : j < (xs.take n).length * k' := by have := (List.getElem?_eq_some_iff.1 hj).1; rw [hl]; simpa [rowVals] using this
        obtain ⟨e, c, _, _, _, v, h4, _⟩ := hr'.vals hkp hlt
        rw [hl] at hlt
        rw [rowVals_get hlt h4] at hj; cases hj
        rw [addr_add]; exact h4
theorem acopy_sound (r : R X h γ w) {ts : Array TypeId} {ty : TypeId} {d x v : AV} {ud ux : Value} {h' : AHeap} (hd : V w (Ow X h γ) γ d ud) (hx : V w (Ow X h γ) γ x ux)
    (hts : 0 < ts.size) (e : acopy P (argT ts 0) h d x = some (v, h')) :
    ∃ y w', (Builtin.copy_ ts ty #[ud, ux]).run P w = .ok y w' ∧ Goes X h γ w h' γ w' ∧ V w' (Ow X h' γ) γ v y := by
  have h0 : ts[0]? = some (argT ts 0) := by unfold argT; simp [Array.getD, hts]
  generalize argT ts 0 = t at *
  unfold acopy at e
  split at e
  · cases e
  · rename_i ks bytes z hsl
    obtain ⟨el, i, zv, hu, hi, hzero, rfl, rfl, rfl, hk0, hb0, hzl, hok, hcells⟩ := tslice_all hsl
    split at e
    · cases e
    · rename_i xs hxs
      split at e
      · rename_i id off len g k
        split at e
        · rename_i k' es g' hid
          split at e
          · rename_i hcd; obtain ⟨rfl, rfl, hle, rfl, hho⟩ := hcd
            cases e
            cases hd with
            | arr id off len g k b o cap o' hg hcap ho hrow0 =>
              obtain ⟨hf, hr⟩ := r.arr hid hg
              obtain ⟨c, T, zz, hb, hsz⟩ := hrow0
              obtain ⟨hlen, us, hu1, hrow, hul, hone⟩ := afirst_sound (P := P) (n := min xs.length len) r hx hxs hho hk0 (Nat.min_le_left _ _)
              obtain ⟨m, hm1, rfl⟩ := hlen w
              have hmin : Nat.min xs.length len = min xs.length len := rfl
              have htake : xs.take len = xs.take (min xs.length len) := by
                rcases Nat.le_total xs.length len with hx' | hx'
                · rw [Nat.min_eq_left hx', List.take_of_length_le hx', List.take_of_length_le (Nat.le_refl _)]
                · rw [Nat.min_eq_right hx']
              rw [htake]
              generalize hn : min xs.length len = n at *
              have hnx : n ≤ xs.length := by omega
              have hnl : n ≤ len := by omega
              have hpos : us = [] ∨ o' = o + off * i.size := by
                rcases ho with h1 | h1
                · exact .inr h1
                · left; exact List.eq_nil_of_length_eq_zero (by rw [hul, show n = 0 by omega, Nat.zero_mul])
              have hnk : n * i.size ≤ cap * i.size := Nat.mul_le_mul_right _ (by omega)
              rw [Nat.add_mul] at hsz
              have hfitW : ∃ (c : Array Value) (T : TypeId) (z : Nat × Nat), w.heap[b]? = some (Obj.cells c T z) ∧ o + off * i.size + us.length ≤ c.size := ⟨c, T, zz, hb, by omega⟩
              have hst : (storeCells ⟨b, o', none⟩ us 0).run P w = .ok () (putW w b (o + off * i.size) us) := by
                rcases hpos with h1 | h1
                · subst h1; rfl
                · rw [h1]
                  exact run_storeCells P us w (o + off * i.size) 0 hf (fun c2 T2 z2 hh2 => by rw [hb] at hh2; cases hh2; omega) hone
              obtain ⟨hc1, hc2⟩ := putW_cell us hfitW
              have hog : ogen (hget h id) = some g := by rw [hid]; rfl
              have htl : (xs.take n).length = n := by simp; omega
              have h1l : (es.take off).length = off := by simp; omega
              have hgo : Goes X h γ w (h.set id (.arr i.size (es.take off ++ xs.take n ++ es.drop (off + n)) g)) γ (putW w b (o + off * i.size) us) := by
                refine write_goes r hog hg hfitW (o' := .arr i.size _ g) rfl (fun k2 es2 g2 e => by cases e; exact fun j q hq => r.gens _ _ _ _ _ _ hid hq) fun s => ?_
                have get : ∀ m e, (es.take off ++ xs.take n ++ es.drop (off + n))[m]? = some e → (es[m]? = some e ∧ (m < off ∨ off + n ≤ m)) ∨ (∃ q, q < n ∧ m = off + q ∧ (xs.take n)[q]? = some e) := by
                  intro m e he
                  by_cases h1 : m < off
                  · rw [List.append_assoc, List.getElem?_append_left (by omega), List.getElem?_take_of_lt h1] at he
                    exact .inl ⟨he, .inl h1⟩
                  · by_cases h2 : m < off + n
                    · rw [List.append_assoc, List.getElem?_append_right (by omega), List.getElem?_append_left (by omega), h1l] at he
                      exact .inr ⟨m - off, by omega, by omega, he⟩
                    · rw [List.getElem?_append_right (by simp; omega), List.getElem?_drop] at he
                      simp only [List.length_append, h1l, htl] at he
                      rw [show off + n + (m - (off + n)) = m by omega] at he
                      exact .inl ⟨he, .inr (by omega)⟩
                refine ⟨b, o, hg, putW_free _ hf (fun c2 T2 z2 hh2 => by rw [hb] at hh2; cases hh2; omega), fun m e he => ?_, fun m j e cc he hj => ?_⟩
                · rcases get m e he with ⟨h1, _⟩ | ⟨q, _, rfl, h1⟩
                  · exact hr.1 m e h1
                  · exact hrow.2.1 q e h1
                · rcases get m e he with ⟨h1, h2⟩ | ⟨q, hq, rfl, h1⟩
                  · obtain ⟨a1, v, a2, a3⟩ := hr.2 m j e cc h1 hj
                    have hjk : j < i.size := by have := (List.getElem?_eq_some_iff.1 hj).1; rw [(hr.1 m e h1).2] at this; exact this
                    refine ⟨a1, v, ?_, a3.mono s⟩
                    rw [hc1 _ ?_]; · exact a2
                    rw [hul]
                    rcases h2 with h2 | h2
                    · left; have := slot_lt h2 hjk; omega
                    · right; have := Nat.mul_le_mul_right i.size h2; rw [Nat.add_mul] at this; omega
                  · obtain ⟨a1, v, a2, a3⟩ := hrow.2.2 q j e cc h1 hj
                    have hlt := (Array.getElem?_eq_some_iff.1 a2).1
                    simp only [List.size_toArray] at hlt
                    refine ⟨a1, v, ?_, a3.mono s⟩
                    have := hc2 (q * i.size + j) hlt
                    rw [Nat.add_mul, show o + (off * i.size + q * i.size) + j = o + off * i.size + (q * i.size + j) by omega, this]
                    simpa using a2
              refine ⟨.int .i64 (n : Int), _, ?_, hgo, .val _⟩
              simp only [Builtin.copy_, h0, Sem.run_bind]
              simp [run_underlying hu, hm1, hmin, hn, sizeOf, typeInfo, hi, hu1, hst, goInt]
          · cases e
        · cases e
      · cases e
theorem alen_sound {ts : Array TypeId} {ty : TypeId} {x v : AV} {u : Value} (hts : 0 < ts.size) (hx : V w O γ x u) (e : alen P (argT ts 0) x = some v) : ∃ y, (Builtin.len_ ts ty #[u]).run P w = .ok y w ∧ V w O γ v y := by
  have h0 : ts[0]? = some (argT ts 0) := by unfold argT; simp [Array.getD, hts]
  generalize argT ts 0 = t at *
  unfold alen at e
  split at e
  · split at e
    · rename_i ht; cases hx.val_inv; cases e
      exact ⟨_, by simp [Builtin.len_, h0, run_underlying (strT_iff ht)]; rfl, .val _⟩
    · cases e
  · split at e
    · rename_i n el ht
      cases e
      have hu := tarr_iff ht
      refine ⟨goInt n, ?_, .val _⟩
      cases u <;> simp [Builtin.len_, h0, run_underlying hu]
    · rename_i ks b z ht hsl
      obtain ⟨el, hu, _, _⟩ := tslice_iff hsl
      cases hx with
      | slc0 full a0 => simp [slen] at e; subst e; exact ⟨_, by simp [Builtin.len_, h0, run_underlying hu]; rfl, .val _⟩
      | slc full es b o cap k vals _ _ _ _ _ => simp [slen] at e; subst e; exact ⟨_, by simp [Builtin.len_, h0, run_underlying hu]; rfl, .val _⟩
      | arr id off len g k b o cap o' _ _ _ _ => simp [slen] at e; subst e; exact ⟨_, by simp [Builtin.len_, h0, run_underlying hu]; rfl, .val _⟩
      | emp a0 cap => simp [slen] at e; subst e; exact ⟨_, by simp [Builtin.len_, h0, run_underlying hu]; rfl, .val _⟩
      | _ => simp [slen] at e
    · cases e
theorem afold_sound {f : AV → AV → Option AV} {g : Value → Value → Sem Value} (hfg : ∀ {a b c : AV} {x y : Value}, V w O γ a x → V w O γ b y → f a b = some c → ∃ z, (g x y).run P w = .ok z w ∧ V w O γ c z) :
    ∀ (l : List AV) (vs : List Value) {a c : AV} {x : Value}, V w O γ a x → l.length = vs.length → (∀ (i : Nat) (b : AV) (y : Value), l[i]? = some b → vs[i]? = some y → V w O γ b y) → afold f a l = some c →
      ∃ z, (vs.foldlM g x).run P w = .ok z w ∧ V w O γ c z := by
  intro l
  induction l with
  | nil =>
    intro vs a c x ha hl _ e
    cases vs with
    | nil => cases e; exact ⟨x, rfl, ha⟩
    | cons _ _ => simp at hl
  | cons b r ih =>
    intro vs a c x ha hl hv e
    cases vs with
    | nil => simp at hl
    | cons y t =>
      unfold afold at e
      split at e
      · rename_i z hz
        obtain ⟨z', h1, h2⟩ := hfg ha (hv 0 _ _ rfl rfl) hz
        obtain ⟨z2, h3, h4⟩ := ih t h2 (by simpa using hl) (fun i b y hb hy => hv (i + 1) b y (by simpa using hb) (by simpa using hy)) e
        exact ⟨z2, by simp only [List.foldlM_cons, Sem.run_bind, h1, Result.andThen_ok, h3], h4⟩
      · cases e
theorem amin2_sound {a b c : AV} {x y : Value} (ha : V w O γ a x) (hb : V w O γ b y) (e : amin2 a b = some c) : ∃ z, (Builtin.min2 x y).run P w = .ok z w ∧ V w O γ c z := by
  unfold amin2 at e
  split at e
  · cases ha.val_inv; cases hb.val_inv; cases e; exact ⟨_, rfl, .val _⟩
  · cases e
theorem amax2_sound {a b c : AV} {x y : Value} (ha : V w O γ a x) (hb : V w O γ b y) (e : amax2 a b = some c) : ∃ z, (Builtin.max2 x y).run P w = .ok z w ∧ V w O γ c z := by
  unfold amax2 at e
  split at e
  · cases ha.val_inv; cases hb.val_inv; cases e; exact ⟨_, rfl, .val _⟩
  · cases e
end
end Go.Ab
namespace Go.Ab
set_option linter.unusedSimpArgs false
set_option linter.unusedVariables false
open Go.MapKept
section
variable {P : Program} {X O : Nat → Prop} {h : AHeap} {γ : Ghost} {w : World}

theorem tmap_iff {t k e : TypeId} (h : tmap P t = some (k, e)) : P.underlying t = some (.map k e) := by
  unfold tmap at h; split at h
  · rename_i hu; cases h; exact hu
  · cases h
theorem R.map (r : R X h γ w) {id b c : Nat} {es : List (AV × AV × Nat)} (e : hget h id = .map es c) (hg : γ id 0 = some (b, 0)) : ∃ xs, w.heap[b]? = some (Obj.map xs c) ∧ MapIs w (Ow X h γ) γ es xs := by
  have := r.obj id
  rw [e] at this
  obtain ⟨b', h1, xs, h2, h3⟩ := this
  rw [hg] at h1; cases h1; exact ⟨xs, h2, h3⟩
theorem R.iter (r : R X h γ w) {id b s l : Nat} {m : Option Nat} {n : List Nat} {o : Nat} (e : hget h id = .iter m s n l) (hg : γ id 0 = some (b, o)) : o = 0 ∧ ∃ mm, w.heap[b]? = some (Obj.mapIter mm s n.toArray l) ∧ IterIs γ m mm := by
  have := r.obj id
  rw [e] at this
  obtain ⟨b', h1, mm, h2, h3⟩ := this
  rw [hg] at h1; cases h1; exact ⟨rfl, mm, h2, h3⟩

/-! ### Keys -/
theorem part_of_part {t : TypeId} {x a : AV} {us : Array Value} {off : Nat} (hx : V w O γ x (.agg us)) (e : partOf P t off x = some a) : ∃ v, (part t us off).run P w = .ok v w ∧ V w O γ a v := by
  obtain ⟨_, e1, v, h1, h2⟩ := partOf_sound (P := P) hx e
  cases e1; exact ⟨v, h1, h2⟩
theorem checkKey_sound (em : Bool) : ∀ (d : Nat) {D : Nat} {t : TypeId} {x : AV} {u : Value} {e : Bool}, d ≤ D → V w O γ x u → aeqT P d t x x = some e → (Instr.checkKey em D t u).run P w = .ok () w
  | 0, _, _, _, _, _, _, _, h => by simp only [aeqT] at h; cases h
  | d + 1, 0, _, _, _, _, hd, _, _ => by omega
  | d + 1, D + 1, t, x, u, e, hd, hx, h => by
    unfold aeqT at h
    split at h
    · rename_i fs hu
      split at h
      · cases h
      · cases x <;> try (simp at h; done)
        rename_i cs
        obtain ⟨us, rfl⟩ : ∃ us, u = .agg us := by cases hx; exact ⟨_, rfl⟩
        simp only [Instr.checkKey, Sem.run_bind, run_underlying hu, Result.andThen_ok]
        rw [← Array.forIn_toList]
        dsimp only at h
        generalize fs.toList = l at h ⊢
        clear hu
        induction l generalizing e with
        | nil => rfl
        | cons f r ih =>
          simp only [aeqF] at h
          rw [List.forIn_cons]
          split at h
          · rename_i hn
            split at h
            · rename_i a b h1 h2
              rw [h1] at h2; cases h2
              obtain ⟨a', k1, k2⟩ := part_of_part (P := P) hx h1
              split at h
              · rename_i e1 e2 h3 h4
                have ck := checkKey_sound em d (D := D) (by omega) k2 h3
                simp only [hn, ne_eq, not_false_eq_true, if_true, Sem.run_bind, k1, Result.andThen_ok, ck, Sem.run_pure]
                exact ih _ h4
              · cases h
            · cases h
          · rename_i hn
            simp only [hn, if_false, Sem.run_bind, Sem.run_pure, Result.andThen_ok]
            exact ih _ h
    · rename_i ud hns hu
      split at h
      · rename_i hp
        simp only [Bool.and_eq_true] at hp
        unfold plainT at hp
        cases ud <;> first
          | (simp at hp; done)
          | simp [Instr.checkKey, run_underlying hu]
      · cases h
    · cases h
/-- Entries side by side, as lists. -/
def MapL (w : World) (O : Nat → Prop) (γ : Ghost) (es : List (AV × AV × Nat)) (xs : List MapEntry) : Prop :=
  es.length = xs.length ∧ ∀ (i : Nat) (e : AV × AV × Nat) (x : MapEntry), es[i]? = some e → xs[i]? = some x → V w O γ e.1 x.key ∧ V w O γ e.2.1 x.val
theorem MapIs.list {es : List (AV × AV × Nat)} {xs : Array MapEntry} (h : MapIs w O γ es xs) : MapL w O γ es xs.toList :=
  ⟨by simpa using h.1, fun i e x he hx => by
    obtain ⟨_, _, _, h4, h5⟩ := h.2 i e x he (by simpa using hx)
    exact ⟨h4, h5⟩⟩
def FR (w : World) (O : Nat → Prop) (γ : Ghost) : Option (Nat × AV) → Option (Nat × Value) → Prop
  | none, none => True
  | some (i, a), some (j, u) => i = j ∧ V w O γ a u
  | _, _ => False
theorem MapL.cons {e : AV × AV × Nat} {es : List (AV × AV × Nat)} {xs : List MapEntry} (h : MapL w O γ (e :: es) xs) : ∃ x xs', xs = x :: xs' ∧ V w O γ e.1 x.key ∧ V w O γ e.2.1 x.val ∧ MapL w O γ es xs' := by
  obtain ⟨h1, h2⟩ := h
  cases xs with
  | nil => simp at h1
  | cons x xs' =>
    obtain ⟨k1, k2⟩ := h2 0 e x rfl rfl
    exact ⟨x, xs', rfl, k1, k2, by simpa using h1, fun i e x he hx => h2 (i + 1) e x (by simpa using he) (by simpa using hx)⟩
theorem MapL.nil {xs : List MapEntry} (h : MapL w O γ [] xs) : xs = [] := by
  obtain ⟨h1, _⟩ := h
  cases xs with
  | nil => rfl
  | cons _ _ => simp at h1
theorem findAsking_sound {kt : TypeId} {k : AV} {key : Value} (hk : V w O γ k key) : ∀ (es : List (AV × AV × Nat)) {xs : List MapEntry} {i : Nat} {r : Option (Nat × AV)}, MapL w O γ es xs →
    afind (aeqT P eqDepth kt) k es i = some r → ∃ r', (Instr.findAsking kt key xs i).run P w = .ok r' w ∧ FR w O γ r r'
  | [], xs, i, r, hl, e => by
    obtain rfl := hl.nil
    simp only [afind] at e; cases e
    exact ⟨none, rfl, trivial⟩
  | a :: es, xs, i, r, hl, e => by
    obtain ⟨x, xs', rfl, k1, k2, hl'⟩ := hl.cons
    simp only [afind] at e
    unfold Instr.findAsking
    cases hq : aeqT P eqDepth kt k a.1 with
    | none => rw [hq] at e; cases e
    | some b =>
      rw [hq] at e
      have h1 : (Op.equal kt key x.key).run P w = .ok b w := aeqT_sound (P := P) (w := w) eqDepth (D := Op.maxDepth) (by decide) hk k1 hq
      cases b with
      | true => cases e; exact ⟨some (i, x.val), by simp [h1], rfl, k2⟩
      | false =>
        obtain ⟨r', h2, h3⟩ := findAsking_sound hk es hl' e
        exact ⟨r', by simp [h1, h2], h3⟩
theorem findNow_sound {kt : TypeId} {ud : TypeDesc} (hu : P.underlying kt = some ud) (hp : ud = .bool ∨ (∃ k, ud = .int k) ∨ ud = .string) {k : AV} {key : Value} (hk : V w O γ k key) : ∀ (es : List (AV × AV × Nat)) {xs : List MapEntry} {i : Nat} {r : Option (Nat × AV)}, MapL w O γ es xs →
    afind (aeqT P eqDepth kt) k es i = some r → ∃ r', Instr.findNow ud key xs i = some r' ∧ FR w O γ r r'
  | [], xs, i, r, hl, e => by
    obtain rfl := hl.nil
    simp only [afind] at e; cases e
    exact ⟨none, rfl, trivial⟩
  | a :: es, xs, i, r, hl, e => by
    obtain ⟨x, xs', rfl, k1, k2, hl'⟩ := hl.cons
    simp only [afind] at e
    unfold Instr.findNow
    cases hq : aeqT P eqDepth kt k a.1 with
    | none => rw [hq] at e; cases e
    | some b =>
      rw [hq] at e
      have h1 : Instr.sameNow ud key x.key = some b := by
        unfold aeqT at hq
        rw [hu] at hq
        have hq' : (if plainT ud k && plainT ud a.1 then aeq1 k a.1 else none) = some b := by
          rcases hp with rfl | ⟨q, rfl⟩ | rfl <;> exact hq
        split at hq'
        · rename_i hpl
          simp only [Bool.and_eq_true] at hpl
          obtain ⟨p1, p2⟩ := hpl
          rcases hp with rfl | ⟨q, rfl⟩ | rfl
          · cases k <;> try (simp [plainT] at p1; done)
            rename_i v1
            cases v1 <;> try (simp [plainT] at p1; done)
            obtain ⟨a1, a2⟩ := a
            cases a1 <;> try (simp [plainT] at p2; done)
            rename_i v2
            cases v2 <;> try (simp [plainT] at p2; done)
            rw [hk.val_inv, k1.val_inv]
            exact hq'
          · cases k <;> try (simp [plainT] at p1; done)
            rename_i v1
            cases v1 <;> try (simp [plainT] at p1; done)
            obtain ⟨a1, a2⟩ := a
            cases a1 <;> try (simp [plainT] at p2; done)
            rename_i v2
            cases v2 <;> try (simp [plainT] at p2; done)
            rw [hk.val_inv, k1.val_inv]
            exact hq'
          · cases k <;> try (simp [plainT] at p1; done)
            rename_i v1
            cases v1 <;> try (simp [plainT] at p1; done)
            obtain ⟨a1, a2⟩ := a
            cases a1 <;> try (simp [plainT] at p2; done)
            rename_i v2
            cases v2 <;> try (simp [plainT] at p2; done)
            rw [hk.val_inv, k1.val_inv]
            simp only [aeq1] at hq'
            simp only [Instr.sameNow]
            rw [← hq', beq_toListBytes, ByteArray.toList_eq, ByteArray.toList_eq]
        · cases hq'
      rw [h1]
      cases b with
      | true => cases e; exact ⟨some (i, x.val), rfl, rfl, k2⟩
      | false => exact findNow_sound hu hp hk es hl' e
theorem findKey_sound {kt : TypeId} {k : AV} {key : Value} (hk : V w O γ k key) {es : List (AV × AV × Nat)} {xs : List MapEntry} {q : Bool} (hq : aeqT P eqDepth kt k k = some q) {r : Option (Nat × AV)} (hl : MapL w O γ es xs)
    (e : afind (aeqT P eqDepth kt) k es 0 = some r) : ∃ r', (Instr.findKey kt key xs).run P w = .ok r' w ∧ FR w O γ r r' := by
  unfold Instr.findKey
  cases hu : P.underlying kt with
  | none => unfold aeqT at hq; rw [hu] at hq; cases hq
  | some ud =>
    simp only [Sem.run_bind, run_underlying hu, Result.andThen_ok]
    by_cases hp : ud = .bool ∨ (∃ k, ud = .int k) ∨ ud = .string
    · obtain ⟨r', h1, h2⟩ := findNow_sound hu hp hk es hl e
      rw [h1]
      exact ⟨r', rfl, h2⟩
    · cases es with
      | nil =>
        obtain rfl := hl.nil
        simp only [afind] at e; cases e
        exact ⟨none, rfl, trivial⟩
      | cons a es =>
        obtain ⟨r', h1, h2⟩ := findAsking_sound hk _ hl e
        obtain ⟨x, xs', rfl, k1, k2, hl'⟩ := hl.cons
        have : Instr.findNow ud key (x :: xs') 0 = none := by
          unfold Instr.findNow
          have : Instr.sameNow ud key x.key = none := by
            cases ud <;> first
              | rfl
              | (exfalso; simp at hp; done)
          rw [this]
        rw [this]
        exact ⟨r', h1, h2⟩
theorem same1_eq {a b : AV} (h : same1 a b = true) : a = b ∧ ∀ {u v : Value} (n : Nat), V w O γ a u → V w O γ b v → u = v ∧ Instr.sameBits n u v = true := by
  unfold same1 at h
  split at h
  · simp only [Bool.and_eq_true, beq_iff_eq] at h
    obtain ⟨rfl, rfl⟩ := h
    refine ⟨rfl, fun n hu hv => ?_⟩
    rw [hu.val_inv, hv.val_inv]
    exact ⟨rfl, by cases n <;> simp [Instr.sameBits]⟩
  · rename_i x y
    have e : x = y := by
      have := eq_of_beq h
      cases x; cases y
      simp only at this
      congr 1
      exact Array.ext' this
    subst e
    refine ⟨rfl, fun n hu hv => ?_⟩
    rw [hu.val_inv, hv.val_inv]
    refine ⟨rfl, ?_⟩
    have : (x == x) = true := by rw [beq_toListBytes]; simp
    cases n <;> simpa [Instr.sameBits] using this
  · have := eq_of_beq h
    subst this
    refine ⟨rfl, fun n hu hv => ?_⟩
    rw [hu.val_inv, hv.val_inv]
    exact ⟨rfl, by cases n <;> simp [Instr.sameBits]⟩
  · cases h
theorem sameL_eq : ∀ {as bs : List AV}, sameL as bs = true → as = bs ∧ ∀ {us vs : List Value} (n : Nat), as.length = us.length → bs.length = vs.length →
    (∀ (i : Nat) (a : AV) (u : Value), as[i]? = some a → us[i]? = some u → V w O γ a u) → (∀ (i : Nat) (b : AV) (v : Value), bs[i]? = some b → vs[i]? = some v → V w O γ b v) → us = vs ∧ (us.zip vs).all (fun p => Instr.sameBits n p.1 p.2) = true
  | [], [], _ => ⟨rfl, fun {us vs} n h1 h2 _ _ => by
    cases us with
    | nil => cases vs with
      | nil => exact ⟨rfl, rfl⟩
      | cons _ _ => simp at h2
    | cons _ _ => simp at h1⟩
  | [], _ :: _, h => by simp [sameL] at h
  | _ :: _, [], h => by simp [sameL] at h
  | a :: as, b :: bs, h => by
    simp only [sameL, Bool.and_eq_true] at h
    obtain ⟨e1, f1⟩ := same1_eq (w := w) (O := O) (γ := γ) h.1
    obtain ⟨e2, f2⟩ := sameL_eq h.2
    subst e1; subst e2
    refine ⟨rfl, fun {us vs} n h1 h2 hu hv => ?_⟩
    cases us with
    | nil => simp at h1
    | cons u us =>
      cases vs with
      | nil => simp at h2
      | cons v vs =>
        obtain ⟨g1, g2⟩ := f1 n (hu 0 a u rfl rfl) (hv 0 a v rfl rfl)
        obtain ⟨g3, g4⟩ := f2 n (by simpa using h1) (by simpa using h2) (fun i a u ha hu' => hu (i + 1) a u (by simpa using ha) (by simpa using hu')) (fun i a u ha hu' => hv (i + 1) a u (by simpa using ha) (by simpa using hu'))
        subst g1; subst g3
        exact ⟨rfl, by simp only [List.zip_cons_cons, List.all_cons, g2, g4, Bool.and_self]⟩
theorem keySame_eq {a b : AV} (h : keySame a b = true) : a = b ∧ ∀ {u v : Value}, V w O γ a u → V w O γ b v → u = v ∧ Instr.sameBits 10000 u v = true := by
  unfold keySame at h
  split at h
  · rename_i as bs
    obtain ⟨e, f⟩ := sameL_eq (w := w) (O := O) (γ := γ) h
    subst e
    refine ⟨rfl, fun hu hv => ?_⟩
    cases hu with
    | agg _ us hl1 hc1 hv1 =>
      cases hv with
      | agg _ vs hl2 hc2 hv2 =>
        obtain ⟨g1, g2⟩ := f (us := us.toList) (vs := vs.toList) 9999 (by simpa using hl1) (by simpa using hl2) (fun i a u ha hu => hv1 i a u ha (by simpa using hu)) (fun i a u ha hu => hv2 i a u ha (by simpa using hu))
        have e : us = vs := Array.ext' g1
        subst e
        refine ⟨rfl, ?_⟩
        show Instr.sameBits (9999 + 1) _ _ = true
        simp only [Instr.sameBits, beq_self_eq_true, Bool.true_and]
        exact g2
  · obtain ⟨e, f⟩ := same1_eq (w := w) (O := O) (γ := γ) h
    exact ⟨e, fun hu hv => f 10000 hu hv⟩

/-! ### Operations -/
theorem Boolsome {α : Type} {x : Option α} {b c : Bool} (h : (x.isSome && b && c) = true) : (∃ q, x = some q) ∧ b = true ∧ c = true := by
  simp only [Bool.and_eq_true] at h
  exact ⟨Option.isSome_iff_exists.1 h.1.1, h.1.2, h.2⟩
theorem Boolsome2 {α : Type} {x : Option α} {b : Bool} (h : (x.isSome && b) = true) : (∃ q, x = some q) ∧ b = true := by
  simp only [Bool.and_eq_true] at h
  exact ⟨Option.isSome_iff_exists.1 h.1, h.2⟩
theorem V.mp_form {id : Nat} {u : Value} (hx : V w O γ (.mp id) u) : ∃ b, u = .map (some b) ∧ γ id 0 = some (b, 0) := by
  cases hx with
  | mp _ b hg => exact ⟨b, rfl, hg⟩
theorem zero_V {t : TypeId} {z : AV} (e : tzero P t = some z) : ∃ zv, (zeroValue t).run P w = .ok zv w ∧ V w O γ z zv ∧ okVal z = true := by
  obtain ⟨i, zv, hi, hz, rfl, hok, hall⟩ := tzero_all e
  exact ⟨zv, run_zeroValue hi hz w, ofVal_V _ hall, hok⟩
theorem pair_V {a : AV} {u : Value} (ha : V w O γ a u) (b : Bool) : V w O γ (.tup [a, .bool b]) (.tuple #[u, .bool b]) := by
  refine .tup _ _ rfl fun i c v hc hv => ?_
  match i, hc, hv with
  | 0, hc, hv => cases hc; cases hv; exact ha
  | 1, hc, hv => cases hc; cases hv; exact .val _
  | n + 2, hc, hv => simp at hc
theorem alookup_sound (r : R X h γ w) {t : TypeId} {x k v : AV} {u uk : Value} {ok : Bool} (hx : V w (Ow X h γ) γ x u) (hk : V w (Ow X h γ) γ k uk) (e : alookup P t h x k ok = some v) :
    ∃ y, (Instr.lookup t u uk ok).run P w = .ok y w ∧ V w (Ow X h γ) γ v y := by
  unfold alookup at e
  split at e
  · cases e
  · rename_i kt et hm
    have hu := tmap_iff hm
    split at e
    · cases e
    · rename_i z hz
      obtain ⟨zv, z1, z2, z3⟩ := zero_V (w := w) (O := Ow X h γ) (γ := γ) hz
      have fin : ∀ {a : AV} {y : Value} {b : Bool}, V w (Ow X h γ) γ a y → V w (Ow X h γ) γ (if ok then AV.tup [a, .bool b] else a) (if ok then .tuple #[y, .bool b] else y) := by
        intro a y b ha
        cases ok
        · exact ha
        · exact pair_V ha b
      dsimp only at e
      split at e
      · rename_i hb
        obtain ⟨⟨q, hq⟩, hko⟩ := Boolsome2 hb
        split at e
        · cases hx.val_inv
          cases e
          refine ⟨_, ?_, fin z2⟩
          have ck := checkKey_sound (P := P) (w := w) true eqDepth (D := 10000) (by decide) hk hq
          obtain ⟨r', f1, f2⟩ := findKey_sound (P := P) (w := w) hk hq (es := []) (xs := []) ⟨rfl, fun i e x he => by simp at he⟩ (r := none) rfl
          cases r' with
          | some p => exact f2.elim
          | none => simp [Instr.lookup, run_underlying hu, ck, f1, z1]
        · rename_i id
          obtain ⟨b, rfl, hg⟩ := hx.mp_form
          split at e
          · rename_i es c hid
            obtain ⟨xs, hw, hI⟩ := r.map hid hg
            have ck := checkKey_sound (P := P) (w := w) xs.isEmpty eqDepth (D := 10000) (by decide) hk hq
            split at e
            · rename_i i a hf
              cases e
              obtain ⟨r', f1, f2⟩ := findKey_sound (P := P) (w := w) hk hq hI.list hf
              cases r' with
              | none => exact f2.elim
              | some p =>
                obtain ⟨j, y⟩ := p
                refine ⟨_, ?_, fin f2.2⟩
                simp [Instr.lookup, run_underlying hu, MapKept.run_getObj_map hw, ck, f1]
            · rename_i hf
              cases e
              obtain ⟨r', f1, f2⟩ := findKey_sound (P := P) (w := w) hk hq hI.list hf
              cases r' with
              | some p => exact f2.elim
              | none =>
                refine ⟨_, ?_, fin z2⟩
                simp [Instr.lookup, run_underlying hu, MapKept.run_getObj_map hw, ck, f1, z1]
            · cases e
          · cases e
        · cases e
      · cases e
/-- A map's block turned. -/
theorem map_goes (r : R X h γ w) {id b c c' : Nat} {es es' : List (AV × AV × Nat)} {xs xs' : Array MapEntry} (hid : hget h id = .map es c) (hg : γ id 0 = some (b, 0)) (hw : w.heap[b]? = some (.map xs c))
    (hok : ∀ {w' : World} {O' : Nat → Prop}, Sees w (Ow X h γ) γ w' O' γ → MapIs w' O' γ es' xs') :
    Goes X h γ w (h.set id (.map es' c')) γ { w with heap := w.heap.setIfInBounds b (.map xs' c') } := by
  have hlt : b < w.heap.size := (Array.getElem?_eq_some_iff.1 hw).1
  refine change_goes r (g := 0) (b := b) (p := 0) (by rw [hid]; rfl) hg (fun _ _ _ e => e) (fun _ _ _ e => .inl e) ?_ (fun g' b' p' e1 e2 => ?_) (fun k es g' e => by cases e) (fun s => ?_)
  · refine ⟨rfl, rfl, rfl, by simp, fun x _ hx => ?_, fun x cs T z hh => ?_⟩
    · simp only [Array.getElem?_setIfInBounds]; rw [if_neg (fun e => hx e.symm)]
    · have : x ≠ b := by rintro rfl; rw [hw] at hh; cases hh
      exact ⟨cs, z, by simp only [Array.getElem?_setIfInBounds]; rw [if_neg (fun e => this e.symm)]; exact hh, rfl⟩
  · cases e1; rw [hg] at e2; cases e2; exact .inl rfl
  · exact ⟨b, hg, xs', by simp [hlt], hok s⟩
theorem FR_some {r : Option (Nat × AV)} {i : Nat} {u : Value} (h : FR w O γ r (some (i, u))) : ∃ a, r = some (i, a) ∧ V w O γ a u := by
  cases r with
  | none => exact h.elim
  | some p => obtain ⟨j, a⟩ := p; obtain ⟨rfl, h2⟩ := h; exact ⟨a, rfl, h2⟩
theorem afind_lt {eq : AV → AV → Option Bool} {k : AV} : ∀ {es : List (AV × AV × Nat)} {n i : Nat} {v : AV}, afind eq k es n = some (some (i, v)) → ∃ e, n ≤ i ∧ es[i - n]? = some e ∧ e.2.1 = v
  | [], _, _, _, e => by simp [afind] at e
  | a :: r, n, i, v, e => by
    simp only [afind] at e
    split at e
    · cases e; exact ⟨a, Nat.le_refl _, by simp, rfl⟩
    · obtain ⟨x, h1, h2, h3⟩ := afind_lt e
      refine ⟨x, by omega, ?_, h3⟩
      rw [show i - n = (i - (n + 1)) + 1 by omega, List.getElem?_cons_succ]; exact h2
    · cases e
theorem MapIs.modify {es : List (AV × AV × Nat)} {xs : Array MapEntry} (h : MapIs w O γ es xs) {i : Nat} {v : AV} {u : Value} (hv : V w O γ v u) (hko : okVal v = true) {f : MapEntry → MapEntry} (hf : ∀ x e, xs[i]? = some x → es[i]? = some e → (f x).born = x.born ∧ V w O γ e.1 (f x).key ∧ (f x).val = u) :
    MapIs w O γ (es.modify i fun e => (e.1, v, e.2.2)) (xs.modify i f) := by
  refine ⟨by simp [h.1], fun j e x he hx => ?_⟩
  rw [List.getElem?_modify] at he
  rw [Array.getElem?_modify] at hx
  by_cases hij : i = j
  · subst hij
    rw [if_pos rfl] at hx
    cases h1 : es[i]? with
    | none => rw [h1] at he; cases he
    | some e0 =>
      cases h2 : xs[i]? with
      | none => rw [h2] at hx; cases hx
      | some x0 =>
        rw [h1] at he; rw [h2] at hx
        have he' : e = (e0.1, v, e0.2.2) := by simpa using he.symm
        subst he'; cases hx
        obtain ⟨k1, k2, k3, k4, k5⟩ := h.2 i e0 x0 h1 h2
        obtain ⟨g1, g2, g3⟩ := hf x0 e0 h2 h1
        exact ⟨by rw [g1]; exact k1, k2, hko, g2, by rw [g3]; exact hv⟩
  · rw [if_neg hij] at hx
    cases h1 : es[j]? with
    | none => rw [h1] at he; cases he
    | some e0 =>
      rw [h1] at he
      have he' : e = e0 := by simpa [hij] using he.symm
      subst he'
      exact h.2 j e x h1 hx
theorem MapIs.push {es : List (AV × AV × Nat)} {xs : Array MapEntry} (h : MapIs w O γ es xs) {k v : AV} {u uk : Value} (hk : V w O γ k uk) (hv : V w O γ v u) (hko : okVal v = true) (hkk : keyOk k = true) (c : Nat) :
    MapIs w O γ (es ++ [(k, v, c)]) (xs.push { key := uk, val := u, born := c }) := by
  refine ⟨by simp [h.1], fun j e x he hx => ?_⟩
  by_cases hj : j < es.length
  · rw [List.getElem?_append_left hj] at he
    rw [Array.getElem?_push, if_neg (by rw [← h.1]; omega)] at hx
    exact h.2 j e x he hx
  · have hj' : j = es.length := by
      have := (List.getElem?_eq_some_iff.1 he).1
      simp at this; omega
    subst hj'
    rw [List.getElem?_append_right (Nat.le_refl _), Nat.sub_self] at he
    rw [Array.getElem?_push, if_pos h.1] at hx
    cases he; cases hx
    exact ⟨rfl, hkk, hko, hk, hv⟩
theorem amapPut_sound (r : R X h γ w) {t : TypeId} {x k v : AV} {u uk uv : Value} {h' : AHeap} (hx : V w (Ow X h γ) γ x u) (hk : V w (Ow X h γ) γ k uk) (hv : V w (Ow X h γ) γ v uv) (e : amapPut P t h x k v = some h') :
    ∃ w' γ', (Instr.mapUpdate t u uk uv).run P w = .ok () w' ∧ Goes X h γ w h' γ' w' := by
  unfold amapPut at e
  split at e
  · rename_i kt et id hm
    have hu := tmap_iff hm
    obtain ⟨b, rfl, hg⟩ := hx.mp_form
    split at e
    · rename_i es c hid
      obtain ⟨xs, hw, hI⟩ := r.map hid hg
      split at e
      · rename_i hb
        obtain ⟨⟨q, hq⟩, hko, hvo⟩ := Boolsome hb
        have ck := checkKey_sound (P := P) (w := w) false eqDepth (D := 10000) (by decide) hk hq
        split at e
        · rename_i i a hf
          split at e
          · rename_i hsame
            cases e
            obtain ⟨r', f1, f2⟩ := findKey_sound (P := P) (w := w) hk hq hI.list hf
            obtain ⟨e0, _, he0, hea⟩ := afind_lt hf
            rw [Nat.sub_zero] at he0
            rw [he0] at hsame
            simp only [Option.map_some, Option.some.injEq] at hsame
            obtain ⟨hkk, hbits⟩ := keySame_eq (w := w) (O := Ow X h γ) (γ := γ) hsame
            cases r' with
            | none => exact f2.elim
            | some p =>
              obtain ⟨j, y⟩ := p
              obtain ⟨rfl, f3⟩ := f2
              have hlt : i < xs.size := by rw [← hI.1]; exact (List.getElem?_eq_some_iff.1 he0).1
              obtain ⟨k1, k2, k3, k4, k5⟩ := hI.2 i e0 xs[i] he0 (by simp [hlt])
              have hs := (hbits k4 hk).2
              have hkt : (Instr.keyThatStays xs[i].key uk).run P w = .ok uk w := by
                simp [Instr.keyThatStays, hs]
              refine ⟨_, γ, ?_, map_goes r (xs' := xs.modify i fun e => { e with key := uk, val := uv }) (c' := c) hid hg hw fun s => (hI.mono s).modify (hv.mono s) hvo fun x e hx he => ⟨rfl, ?_, rfl⟩⟩
              · simp [Instr.mapUpdate, run_underlying hu, MapKept.run_getObj_map hw, ck, f1, hlt, hkt, run_setObj_map _ hw]
              · rw [he0] at he; cases he
                rw [hkk]; exact hk.mono s
          · cases e
        · rename_i hf
          cases e
          obtain ⟨r', f1, f2⟩ := findKey_sound (P := P) (w := w) hk hq hI.list hf
          cases r' with
          | some p => exact f2.elim
          | none =>
            refine ⟨_, γ, ?_, map_goes r (xs' := xs.push { key := uk, val := uv, born := c }) (c' := c + 1) hid hg hw fun s => (hI.mono s).push (hk.mono s) (hv.mono s) hvo hko c⟩
            simp [Instr.mapUpdate, run_underlying hu, MapKept.run_getObj_map hw, ck, f1, run_setObj_map _ hw]
        · cases e
      · cases e
    · cases e
  · cases e
theorem amapEntry_sound (r : R X h γ w) {t : TypeId} {x k v : AV} {u uk : Value} {h' : AHeap} (hx : V w (Ow X h γ) γ x u) (hk : V w (Ow X h γ) γ k uk) (e : amapEntry P t h x k = some (v, h')) :
    ∃ y w' γ', (Instr.mapEntry t u uk).run P w = .ok y w' ∧ Goes X h γ w h' γ' w' ∧ V w' (Ow X h' γ') γ' v y := by
  unfold amapEntry at e
  split at e
  · rename_i kt et id hm
    have hu := tmap_iff hm
    obtain ⟨b, rfl, hg⟩ := hx.mp_form
    split at e
    · rename_i es c z hid hz
      obtain ⟨xs, hw, hI⟩ := r.map hid hg
      obtain ⟨zv, z1, z2, z3⟩ := zero_V (w := w) (O := Ow X h γ) (γ := γ) hz
      have two : ∀ {w' : World} {O' : Nat → Prop} {γ' : Ghost} {a : AV} {y : Value} (n : Nat), V w' O' γ' a y → V w' O' γ' (.tup [a, .int n]) (.tuple #[y, goInt n]) := by
        intro w' O' γ' a y n ha
        refine .tup _ _ rfl fun i c v hc hv => ?_
        match i, hc, hv with
        | 0, hc, hv => cases hc; cases hv; exact ha
        | 1, hc, hv => cases hc; cases hv; exact .val _
        | n + 2, hc, hv => simp at hc
      split at e
      · rename_i hb
        obtain ⟨⟨q, hq⟩, hko⟩ := Boolsome2 hb
        have ck := checkKey_sound (P := P) (w := w) false eqDepth (D := 10000) (by decide) hk hq
        split at e
        · rename_i i a hf
          split at e
          · rename_i e0 he0
            split at e
            · rename_i hsame
              cases e
              obtain ⟨r', f1, f2⟩ := findKey_sound (P := P) (w := w) hk hq hI.list hf
              obtain ⟨hkk, hbits⟩ := keySame_eq (w := w) (O := Ow X h γ) (γ := γ) hsame
              cases r' with
              | none => exact f2.elim
              | some p =>
                obtain ⟨j, y⟩ := p
                obtain ⟨rfl, f3⟩ := f2
                have hlt : i < xs.size := by rw [← hI.1]; exact (List.getElem?_eq_some_iff.1 he0).1
                obtain ⟨k1, k2, k3, k4, k5⟩ := hI.2 i e0 xs[i] he0 (by simp [hlt])
                obtain ⟨hs0, hs⟩ := hbits k4 hk
                have hkt : (Instr.keyThatStays xs[i].key uk).run P w = .ok uk w := by
                  simp [Instr.keyThatStays, hs]
                have hmod : xs.modify i (fun e => { e with key := uk }) = xs := by
                  apply Array.ext_getElem?
                  intro j
                  rw [Array.getElem?_modify]
                  by_cases hij : i = j
                  · subst hij
                    rw [if_pos rfl]
                    simp only [hlt, getElem?_pos, Option.map_some, Option.some.injEq]
                    simp only [← hs0]
                  · rw [if_neg hij]
                have hset : ({ w with heap := w.heap.setIfInBounds b (.map xs c) } : World) = w := by
                  have : w.heap.setIfInBounds b (.map xs c) = w.heap := by
                    apply Array.ext_getElem?
                    intro j
                    rw [Array.getElem?_setIfInBounds]
                    split
                    · rename_i hij; subst hij
                      rw [hw]; simp [(Array.getElem?_eq_some_iff.1 hw).1]
                    · rfl
                  rw [this]
                refine ⟨.tuple #[y, goInt e0.2.2], w, γ, ?_, Goes.refl r, two _ f3⟩
                simp [Instr.mapEntry, run_underlying hu, MapKept.run_getObj_map hw, ck, f1, hkt, run_setObj_map _ hw, hmod, hset, hlt, k1]
            · cases e
          · cases e
        · rename_i hf
          cases e
          obtain ⟨r', f1, f2⟩ := findKey_sound (P := P) (w := w) hk hq hI.list hf
          cases r' with
          | some p => exact f2.elim
          | none =>
            have g := map_goes (c' := c + 1) (xs' := xs.push { key := uk, val := zv, born := c }) r hid hg hw fun s => (hI.mono s).push (hk.mono s) (z2.mono s) z3 hko c
            refine ⟨.tuple #[zv, goInt c], _, γ, ?_, g, two c (z2.goes g)⟩
            simp [Instr.mapEntry, run_underlying hu, MapKept.run_getObj_map hw, ck, f1, z1, run_setObj_map _ hw]
        · cases e
      · cases e
    · cases e
  · cases e
theorem aentryStore_sound (r : R X h γ w) {t : TypeId} {x s v : AV} {u us uv : Value} {h' : AHeap} (hx : V w (Ow X h γ) γ x u) (hs : V w (Ow X h γ) γ s us) (hv : V w (Ow X h γ) γ v uv) (e : aentryStore h x s v = some h') :
    ∃ w' γ', (Instr.entryStore t u us uv).run P w = .ok () w' ∧ Goes X h γ w h' γ' w' := by
  unfold aentryStore at e
  split at e
  · rename_i id n hn
    obtain ⟨b, rfl, hg⟩ := hx.mp_form
    obtain ⟨k, rfl⟩ : ∃ k, s = .val (.int k n) := by
      unfold asIntV at hn; split at hn
      · cases hn; exact ⟨_, rfl⟩
      · cases hn
    cases hs.val_inv
    split at e
    · rename_i es c hid
      obtain ⟨xs, hw, hI⟩ := r.map hid hg
      split at e
      · rename_i hvo
        split at e
        · rename_i i hi
          cases e
          have hi' : xs.findIdx? (fun e => (e.born : Int) == n) = some i := by
            rw [show xs = xs.toList.toArray by simp, List.findIdx?_toArray]
            have hlen : es.length = xs.toList.length := by simpa using hI.1
            have key : ∀ (es : List (AV × AV × Nat)) (ys : List MapEntry), es.length = ys.length → (∀ (j : Nat) (e : AV × AV × Nat) (x : MapEntry), es[j]? = some e → ys[j]? = some x → x.born = e.2.2) → es.findIdx? (fun e => (e.2.2 : Int) == n) = ys.findIdx? (fun e => (e.born : Int) == n) := by
              intro es
              induction es with
              | nil => intro ys hl _; cases ys with
                | nil => rfl
                | cons _ _ => simp at hl
              | cons a es ih =>
                intro ys hl hb
                cases ys with
                | nil => simp at hl
                | cons y ys =>
                  rw [List.findIdx?_cons, List.findIdx?_cons, hb 0 a y rfl rfl, ih ys (by simpa using hl) fun j e x he hx => hb (j + 1) e x (by simpa using he) (by simpa using hx)]
            rw [← key es xs.toList hlen fun j e x he hx => (hI.2 j e x he (by simpa using hx)).1]
            exact hi
          refine ⟨_, γ, ?_, map_goes r (xs' := xs.modify i fun e => { e with val := uv }) (c' := c) hid hg hw fun s => (hI.mono s).modify (hv.mono s) hvo fun x e hx he => ⟨rfl, ((hI.mono s).2 i e x he hx).2.2.2.1, rfl⟩⟩
          simp [Instr.entryStore, MapKept.run_getObj_map hw, run_asInt, hi', run_setObj_map _ hw]
        · cases e
      · cases e
    · cases e
  · cases e
theorem MapIs.erase {es : List (AV × AV × Nat)} {xs : Array MapEntry} (h : MapIs w O γ es xs) (i : Nat) : MapIs w O γ (es.eraseIdx i) (xs.eraseIdxIfInBounds i) := by
  have hl := h.1
  by_cases hi : i < xs.size
  · have e : (xs.eraseIdxIfInBounds i).toList = xs.toList.eraseIdx i := by
      rw [Array.toList_eraseIdxIfInBounds]
    refine ⟨?_, fun j e0 x he hx => ?_⟩
    · rw [← Array.length_toList, e, List.length_eraseIdx, List.length_eraseIdx]; simp [hl]
    · rw [← Array.getElem?_toList, e, List.getElem?_eraseIdx] at hx
      rw [List.getElem?_eraseIdx] at he
      split at he
      · rename_i hj; rw [if_pos hj] at hx; exact h.2 j e0 x he (by simpa using hx)
      · rename_i hj; rw [if_neg hj] at hx; exact h.2 (j + 1) e0 x he (by simpa using hx)
  · have e1 : xs.eraseIdxIfInBounds i = xs := by unfold Array.eraseIdxIfInBounds; rw [dif_neg hi]
    have e2 : es.eraseIdx i = es := List.eraseIdx_of_length_le (by omega)
    rw [e1, e2]; exact h
theorem amapDel_sound (r : R X h γ w) {ts : Array TypeId} {ty : TypeId} {x k : AV} {u uk : Value} {h' : AHeap} (hts : 0 < ts.size) (hx : V w (Ow X h γ) γ x u) (hk : V w (Ow X h γ) γ k uk) (e : amapDel P (argT ts 0) h x k = some h') :
    ∃ w' γ', (Builtin.delete_ ts ty #[u, uk]).run P w = .ok (.tuple #[]) w' ∧ Goes X h γ w h' γ' w' := by
  have ht : ts[0]? = some (argT ts 0) := by simp [argT, hts]
  unfold amapDel at e
  split at e
  · rename_i kt et hm
    have hu := tmap_iff hm
    split at e
    · rename_i hb
      obtain ⟨⟨q, hq⟩, hko⟩ := Boolsome2 hb
      cases e
      cases hx.val_inv
      have ck := checkKey_sound (P := P) (w := w) true eqDepth (D := 10000) (by decide) hk hq
      exact ⟨w, γ, by simp [Builtin.delete_, ht, run_underlying hu, ck], Goes.refl r⟩
    · cases e
  · rename_i kt et id hm
    have hu := tmap_iff hm
    obtain ⟨b, rfl, hg⟩ := hx.mp_form
    split at e
    · rename_i es c hid
      obtain ⟨xs, hw, hI⟩ := r.map hid hg
      split at e
      · rename_i hb
        obtain ⟨⟨q, hq⟩, hko⟩ := Boolsome2 hb
        have ck := checkKey_sound (P := P) (w := w) xs.isEmpty eqDepth (D := 10000) (by decide) hk hq
        split at e
        · rename_i i a hf
          cases e
          obtain ⟨r', f1, f2⟩ := findKey_sound (P := P) (w := w) hk hq hI.list hf
          cases r' with
          | none => exact f2.elim
          | some p =>
            obtain ⟨j, y⟩ := p
            obtain ⟨rfl, f3⟩ := f2
            refine ⟨_, γ, ?_, map_goes r (xs' := xs.eraseIdxIfInBounds i) (c' := c) hid hg hw fun s => (hI.mono s).erase i⟩
            simp [Builtin.delete_, ht, run_underlying hu, MapKept.run_getObj_map hw, ck, f1, run_setObj_map _ hw]
        · rename_i hf
          cases e
          obtain ⟨r', f1, f2⟩ := findKey_sound (P := P) (w := w) hk hq hI.list hf
          cases r' with
          | some p => exact f2.elim
          | none =>
            refine ⟨_, γ, ?_, map_goes r (xs' := xs) (c' := c) hid hg hw fun s => hI.mono s⟩
            simp [Builtin.delete_, ht, run_underlying hu, MapKept.run_getObj_map hw, ck, f1, run_setObj_map _ hw]
        · cases e
      · cases e
    · cases e
  · cases e
theorem makeMap_goes (r : R X h γ w) : Goes X h γ w (h ++ [.map [] 0]) (γ.put h.length 0 (w.heap.size, 0)) (w.alloc (.map #[] 0)) :=
  new_goes r rfl rfl rfl rfl rfl fun hn hg _ => ⟨w.heap.size, hg, #[], hn, rfl, fun i e x he => by simp at he⟩
theorem arange_sound (r : R X h γ w) {t : TypeId} {x v : AV} {u : Value} {h' : AHeap} (hx : V w (Ow X h γ) γ x u) (e : arange P t h x = some (v, h')) :
    ∃ y w' γ', (Instr.range t u).run P w = .ok y w' ∧ Goes X h γ w h' γ' w' ∧ V w' (Ow X h' γ') γ' v y := by
  unfold arange at e
  split at e
  · rename_i ht
    obtain ⟨kt, et, hu⟩ := mapT_iff ht
    have hp : ∀ (O' : Nat → Prop) (w' : World), V w' O' (γ.put h.length 0 (w.heap.size, 0)) (.ptr h.length 0) (.pointer (some ⟨w.heap.size, 0, none⟩)) :=
      fun O' w' => V.ptr h.length 0 w.heap.size 0 (by simp [Ghost.put])
    split at e
    · cases hx.val_inv; cases e
      refine ⟨_, _, _, ?_, new_goes r (w' := w.alloc (.mapIter none 0 #[] 0)) (ob := .mapIter none 0 #[] 0) rfl rfl rfl rfl rfl fun hn hg _ => ⟨w.heap.size, hg, none, hn, rfl⟩, hp _ _⟩
      simp [Instr.range, run_underlying hu]
    · rename_i id
      obtain ⟨b, rfl, hg⟩ := hx.mp_form
      split at e
      · rename_i es c hid
        obtain ⟨xs, hw, hI⟩ := r.map hid hg
        cases e
        refine ⟨_, _, _, ?_, new_goes r (w' := w.alloc (.mapIter (some b) c #[] c)) (ob := .mapIter (some b) c #[] c) rfl rfl rfl rfl rfl fun hn hg' s => ⟨w.heap.size, hg', some b, hn, b, s.ext _ _ _ hg, rfl⟩, hp _ _⟩
        simp [Instr.range, run_underlying hu, MapKept.run_getObj_map hw]
      · cases e
    · cases e
  · cases e
theorem run_getObj_iter {r s l : Nat} {m : Option Nat} {n : Array Nat} (hb : w.heap[r]? = some (.mapIter m s n l)) : (getObj r).run P w = .ok (.mapIter m s n l) w := by
  simp [getObj, Sem.run, hb]
theorem run_setObj_iter {r s l : Nat} {m : Option Nat} {n : Array Nat} (o : Obj) (hb : w.heap[r]? = some (.mapIter m s n l)) : (setObj r o).run P w = .ok () { w with heap := w.heap.setIfInBounds r o } := by
  simp [setObj, Sem.run, hb]
/-- A walk's block turned. -/
theorem iter_goes (r : R X h γ w) {id b s l s' l' : Nat} {m m' mm mm' : Option Nat} {n n' : List Nat} (hid : hget h id = .iter m s n l) (hg : γ id 0 = some (b, 0)) (hw : w.heap[b]? = some (.mapIter mm s n.toArray l)) (hm : IterIs γ m' mm') :
    Goes X h γ w (h.set id (.iter m' s' n' l')) γ { w with heap := w.heap.setIfInBounds b (.mapIter mm' s' n'.toArray l') } := by
  have hlt : b < w.heap.size := (Array.getElem?_eq_some_iff.1 hw).1
  refine change_goes r (g := 0) (b := b) (p := 0) (by rw [hid]; rfl) hg (fun _ _ _ e => e) (fun _ _ _ e => .inl e) ?_ (fun g' b' p' e1 e2 => ?_) (fun k es g' e => by cases e) (fun s => ?_)
  · refine ⟨rfl, rfl, rfl, by simp, fun x _ hx => ?_, fun x cs T z hh => ?_⟩
    · simp only [Array.getElem?_setIfInBounds]; rw [if_neg (fun e => hx e.symm)]
    · have : x ≠ b := by rintro rfl; rw [hw] at hh; cases hh
      exact ⟨cs, z, by simp only [Array.getElem?_setIfInBounds]; rw [if_neg (fun e => this e.symm)]; exact hh, rfl⟩
  · cases e1; rw [hg] at e2; cases e2; exact .inl rfl
  · exact ⟨b, hg, mm', by simp [hlt], hm⟩
theorem iter_ptr {id : Nat} {u : Value} {m : Option Nat} {s l : Nat} {n : List Nat} (r : R X h γ w) (hx : V w O γ (.ptr id 0) u) (hid : hget h id = .iter m s n l) :
    ∃ b mm, u = .pointer (some ⟨b, 0, none⟩) ∧ γ id 0 = some (b, 0) ∧ w.heap[b]? = some (Obj.mapIter mm s n.toArray l) ∧ IterIs γ m mm := by
  cases hx with
  | ptr _ _ b o hg =>
    obtain ⟨rfl, mm, h1, h2⟩ := r.iter hid hg
    exact ⟨b, mm, rfl, hg, h1, h2⟩
theorem map_filter {es : List (AV × AV × Nat)} {ys : List MapEntry} (hl : es.length = ys.length) (hb : ∀ (j : Nat) (e : AV × AV × Nat) (x : MapEntry), es[j]? = some e → ys[j]? = some x → x.born = e.2.2) (p : Nat → Bool) :
    ∀ {l : List (AV × AV × Nat)}, es.filter (fun e => p e.2.2) = l → ∃ l' : List MapEntry, ys.filter (fun e => p e.born) = l' ∧ l.length = l'.length ∧ ∀ (j : Nat) (e : AV × AV × Nat) (x : MapEntry), l[j]? = some e → l'[j]? = some x → ∃ i : Nat, es[i]? = some e ∧ ys[i]? = some x := by
  induction es generalizing ys with
  | nil =>
    intro l e
    cases ys with
    | nil => subst e; exact ⟨[], rfl, rfl, fun j e x he => by simp at he⟩
    | cons _ _ => simp at hl
  | cons a es ih =>
    intro l e
    cases ys with
    | nil => simp at hl
    | cons y ys =>
      obtain ⟨l', h1, h2, h3⟩ := ih (ys := ys) (by simpa using hl) (fun j e x he hx => hb (j + 1) e x (by simpa using he) (by simpa using hx)) rfl
      have h0 := hb 0 a y rfl rfl
      rw [List.filter_cons] at e
      rw [List.filter_cons, h0]
      split at e
      · rename_i hp
        subst e
        rw [if_pos hp]
        refine ⟨_, rfl, by simp [h1, h2], fun j e x he hx => ?_⟩
        cases j with
        | zero => cases he; cases hx; exact ⟨0, rfl, rfl⟩
        | succ j =>
          obtain ⟨i, g1, g2⟩ := h3 j e x (by simpa using he) (by rw [← h1]; simpa using hx)
          exact ⟨i + 1, by simpa using g1, by simpa using g2⟩
      · rename_i hp
        subst e
        rw [if_neg hp]
        refine ⟨_, rfl, by rw [h1]; exact h2, fun j e x he hx => ?_⟩
        obtain ⟨i, g1, g2⟩ := h3 j e x he (by rw [← h1]; exact hx)
        exact ⟨i + 1, by simpa using g1, by simpa using g2⟩
theorem map_all {es : List (AV × AV × Nat)} {xs : Array MapEntry} (hI : MapIs w O γ es xs) (p : Nat → Bool) : es.all (fun e => p e.2.2) = xs.all (fun e => p e.born) := by
  rw [← Array.all_toList]
  have hl : es.length = xs.toList.length := by simpa using hI.1
  have hb : ∀ (j : Nat) (e : AV × AV × Nat) (x : MapEntry), es[j]? = some e → xs.toList[j]? = some x → x.born = e.2.2 := fun j e x he hx => (hI.2 j e x he (by simpa using hx)).1
  generalize xs.toList = ys at hl hb
  clear hI
  induction es generalizing ys with
  | nil => cases ys with
    | nil => rfl
    | cons _ _ => simp at hl
  | cons a es ih =>
    cases ys with
    | nil => simp at hl
    | cons y ys =>
      simp only [List.all_cons]
      rw [hb 0 a y rfl rfl, ih ys (by simpa using hl) fun j e x he hx => hb (j + 1) e x (by simpa using he) (by simpa using hx)]
theorem arr_of_list {α : Type} {xs : Array α} {l : List α} (e : xs.toList = l) : xs = l.toArray := by rw [← e]
theorem anext_sound (r : R X h γ w) {x v : AV} {u : Value} {ty : TypeId} {h' : AHeap} (hx : V w (Ow X h γ) γ x u) (e : anext h x = some (v, h')) :
    ∃ y w' γ', (Instr.next u false ty).run P w = .ok y w' ∧ Goes X h γ w h' γ' w' ∧ V w' (Ow X h' γ') γ' v y := by
  have ovr : ∀ {w' : World} {O' : Nat → Prop} {γ' : Ghost}, V w' O' γ' (.tup [.bool false]) (.tuple #[.bool false]) := by
    intro w' O' γ'
    refine .tup _ _ rfl fun i c v hc hv => ?_
    match i, hc, hv with
    | 0, hc, hv => cases hc; cases hv; exact .val _
    | n + 1, hc, hv => simp at hc
  unfold anext at e
  split at e
  · rename_i id
    split at e
    · rename_i s n l hid
      obtain ⟨b, mm, rfl, hg, hw, rfl⟩ := iter_ptr r hx hid
      cases e
      exact ⟨_, w, γ, by simp [Instr.next, run_getObj_iter hw], Goes.refl r, ovr⟩
    · rename_i m since seen last hid
      obtain ⟨b, mm, rfl, hg, hw, b', hgm, rfl⟩ := iter_ptr r hx hid
      split at e
      · rename_i es c hmid
        obtain ⟨xs, hwm, hI⟩ := r.map hmid hgm
        have hlen : es.length = xs.toList.length := by simpa using hI.1
        have hbn : ∀ (j : Nat) (e : AV × AV × Nat) (x : MapEntry), es[j]? = some e → xs.toList[j]? = some x → x.born = e.2.2 := fun j e x he hx => (hI.2 j e x he (by simpa using hx)).1
        split at e
        · cases e
        · rename_i hno
          have hno' : (!seen.toArray.isEmpty && !xs.isEmpty && xs.all (fun e => decide (e.born ≥ last))) = false := by
            rw [← map_all hI (fun n => decide (n ≥ last))]
            have e1 : seen.toArray.isEmpty = seen.isEmpty := by cases seen <;> rfl
            have e2 : xs.isEmpty = es.isEmpty := by
              cases es with
              | nil => have : xs.size = 0 := by rw [← hI.1]; rfl
                       simp [Array.isEmpty, this]
              | cons a r => have : xs.size = (a :: r).length := hI.1.symm
                            simp [Array.isEmpty, this]
            rw [e1, e2]
            simpa using hno
          split at e
          · rename_i hl
            cases e
            obtain ⟨l', f1, f2, f3⟩ := map_filter hlen hbn (fun n => !seen.contains n) hl
            have hl' : l' = [] := by cases l' with
              | nil => rfl
              | cons _ _ => simp at f2
            subst hl'
            have hfil : xs.filter (fun e => !seen.toArray.contains e.born) = #[] := by
              apply arr_of_list
              rw [Array.toList_filter]
              simpa using f1
            refine ⟨_, w, γ, ?_, Goes.refl r, ovr⟩
            simp only [Instr.next, Sem.run_bind, run_getObj_iter hw, Result.andThen_ok, MapKept.run_getObj_map hwm, hno', Bool.false_eq_true, if_false, hfil]
            simp [Question.forced]
          · rename_i e0 hl
            split at e
            · rename_i hlt
              cases e
              obtain ⟨l', f1, f2, f3⟩ := map_filter hlen hbn (fun n => !seen.contains n) hl
              obtain ⟨x0, rfl⟩ : ∃ x0, l' = [x0] := by
                cases l' with
                | nil => simp at f2
                | cons x0 r => cases r with
                  | nil => exact ⟨x0, rfl⟩
                  | cons _ _ => simp at f2
              obtain ⟨i, g1, g2⟩ := f3 0 e0 x0 rfl rfl
              obtain ⟨k1, k2, k3, k4, k5⟩ := hI.2 i e0 x0 g1 (by simpa using g2)
              have hfil : xs.filter (fun e => !seen.toArray.contains e.born) = #[x0] := by
                apply arr_of_list
                rw [Array.toList_filter]
                simpa using f1
              have hold : (#[x0] : Array MapEntry).filter (fun e => decide (e.born < since)) = #[x0] := by
                simp [k1, hlt]
              have hnew : (#[x0] : Array MapEntry).filter (fun e => decide (e.born ≥ since)) = #[] := by
                simp [k1]; omega
              have g := iter_goes (m' := some m) (mm' := some b') (s' := since) (n' := seen ++ [e0.2.2]) (l' := c) r hid hg hw ⟨b', hgm, rfl⟩
              refine ⟨.tuple #[.bool true, x0.key, x0.val], _, γ, ?_, g, ?_⟩
              · simp only [Instr.next, Sem.run_bind, run_getObj_iter hw, Result.andThen_ok, MapKept.run_getObj_map hwm, hno', Bool.false_eq_true, if_false, hfil, hold, hnew]
                simp [Question.forced, run_setObj_iter _ hw, k1]
              · refine .tup _ _ rfl fun i c v hc hv => ?_
                match i, hc, hv with
                | 0, hc, hv => cases hc; cases hv; exact .val _
                | 1, hc, hv => cases hc; cases hv; exact k4.goes g
                | 2, hc, hv => cases hc; cases hv; exact k5.goes g
                | n + 3, hc, hv => simp at hc
            · cases e
          · cases e
      · cases e
    · cases e
  · cases e
theorem aentry_sound (r : R X h γ w) {x v : AV} {u : Value} (hx : V w (Ow X h γ) γ x u) (e : aentry h x = some v) :
    ∃ y, (Instr.entry u).run P w = .ok y w ∧ V w (Ow X h γ) γ v y := by
  unfold aentry at e
  split at e
  · rename_i id
    split at e
    · rename_i m since seen last hid
      obtain ⟨b, mm, rfl, hg, hw, b', hgm, rfl⟩ := iter_ptr r hx hid
      split at e
      · rename_i es c s hmid hs
        obtain ⟨xs, hwm, hI⟩ := r.map hmid hgm
        split at e
        · rename_i hc
          subst hc
          cases hf : es.find? (fun e => e.2.2 == s) with
          | none => rw [hf] at e; cases e
          | some e0 =>
            rw [hf] at e; cases e
            have hlen : es.length = xs.toList.length := by simpa using hI.1
            have key : ∀ (es : List (AV × AV × Nat)) (ys : List MapEntry), es.length = ys.length → (∀ (j : Nat) (e : AV × AV × Nat) (x : MapEntry), es[j]? = some e → ys[j]? = some x → x.born = e.2.2 ∧ V w (Ow X h γ) γ e.1 x.key ∧ V w (Ow X h γ) γ e.2.1 x.val) →
                ∀ e0, es.find? (fun e => e.2.2 == s) = some e0 → ∃ x0, ys.find? (fun e => e.born == s) = some x0 ∧ V w (Ow X h γ) γ e0.1 x0.key ∧ V w (Ow X h γ) γ e0.2.1 x0.val := by
              intro es
              induction es with
              | nil => intro ys _ _ e0 he; cases he
              | cons a es ih =>
                intro ys hl hb e0 he
                cases ys with
                | nil => simp at hl
                | cons y ys =>
                  obtain ⟨b1, b2, b3⟩ := hb 0 a y rfl rfl
                  rw [List.find?_cons] at he ⊢
                  rw [b1]
                  cases hq : (a.2.2 == s) with
                  | true => rw [hq] at he; cases he; exact ⟨y, rfl, b2, b3⟩
                  | false => rw [hq] at he; exact ih ys (by simpa using hl) (fun j e x he hx => hb (j + 1) e x (by simpa using he) (by simpa using hx)) e0 he
            obtain ⟨x0, g1, g2, g3⟩ := key es xs.toList hlen (fun j e x he hx => by
              obtain ⟨k1, _, _, k4, k5⟩ := hI.2 j e x he (by simpa using hx)
              exact ⟨k1, k4, k5⟩) e0 hf
            have hback : seen.toArray.back? = some s := by simpa using hs
            refine ⟨.tuple #[x0.key, x0.val], ?_, ?_⟩
            · have g1' : xs.find? (fun e => e.born == s) = some x0 := by rw [← Array.find?_toList]; exact g1
              simp [Instr.entry, run_getObj_iter hw, hback, MapKept.run_getObj_map hwm, g1']
            · refine .tup _ _ rfl fun i c v hc hv => ?_
              match i, hc, hv with
              | 0, hc, hv => cases hc; cases hv; exact g2
              | 1, hc, hv => cases hc; cases hv; exact g3
              | n + 2, hc, hv => simp at hc
        · cases e
      · cases e
    · cases e
  · cases e
end
end Go.Ab
