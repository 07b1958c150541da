/-
  Each operation of the abstract machine is one of the model's: stores, conversions, append, copy.
-/
import Derived.Test.YtlpkfeplbcadbaaAb9
namespace Go.Ab
set_option linter.unusedSimpArgs false
set_option linter.unusedVariables false
section
variable {P : Program} {X O : Nat → Prop} {h : AHeap} {γ : Ghost} {w : World}

/-! ### Stores -/
theorem putAt_other (us : List AV) : ∀ (cs : List AV) (off m : Nat), (m < off ∨ off + us.length ≤ m) → (putAt cs off us)[m]? = cs[m]? := by
  induction us with
  | nil => intro cs off m _; rfl
  | cons u r ih =>
    intro cs off m hm
    simp only [List.length_cons] at hm
    rw [putAt, ih _ _ _ (by omega), List.getElem?_set_ne (by omega)]
theorem putAt_at (us : List AV) : ∀ (cs : List AV) (off j : Nat), j < us.length → off + us.length ≤ cs.length → (putAt cs off us)[off + j]? = us[j]? := by
  induction us with
  | nil => intro cs off j hj; simp at hj
  | cons u r ih =>
    intro cs off j hj hs
    simp only [List.length_cons] at hj hs
    rw [putAt]
    cases j with
    | zero =>
      rw [putAt_other _ _ _ _ (by omega), Nat.add_zero, List.getElem?_set_self (by omega)]
      rfl
    | succ n =>
      have := ih (cs.set off u) (off + 1) n (by omega) (by simp; omega)
      rw [show off + (n + 1) = off + 1 + n by omega, this]
      simp
theorem write_goes (r : R X h γ w) {id g b p q : Nat} (hg : ogen (hget h id) = some g) (hγ : γ id g = some (b, p)) {us : List Value} (hfit : ∃ (c : Array Value) (T : TypeId) (z : Nat × Nat), w.heap[b]? = some (Obj.cells c T z) ∧ q + us.length ≤ c.size)
    {o' : AObj} (ho : ogen o' = some g) (hgens : ∀ k es g', o' = .arr k es g' → ∀ j q, γ id j = some q → j ≤ g')
    (hok : Sees w (Ow X h γ) γ (putW w b q us) (Ow X (h.set id o') γ) γ → OkObj (putW w b q us) (Ow X (h.set id o') γ) γ id o') : Goes X h γ w (h.set id o') γ (putW w b q us) :=
  change_goes r hg hγ (fun _ _ _ e => e) (fun _ _ _ e => .inl e) (putW_step us hfit) (fun g' b' p' e1 e2 => by rw [ho] at e1; cases e1; rw [hγ] at e2; cases e2; exact .inl rfl) hgens hok
theorem run_storeVar {t : TypeId} {u : Value} {b o : Nat} (hs : u.cells.size = tsize P t) (hp : 0 < tsize P t) (hf : Free w b) (hfit : ∀ c T z, w.heap[b]? = some (.cells c T z) → o + u.cells.toList.length ≤ c.size) (h1 : ∀ v ∈ u.cells.toList, v.oneCell' = true) :
    (storeVar t ⟨b, o, none⟩ u).run P w = .ok () (putW w b o u.cells.toList) := by
  simp only [storeVar, Sem.run_bind, run_sizeOf_pos hp, Result.andThen_ok]
  rw [if_neg (by simp [hs])]
  exact run_storeCells P _ w o 0 hf (fun c T z hh => by simpa using hfit c T z hh) h1
theorem CV.one {cs : List AV} {vs : Array Value} (hc : CV w O γ cs vs) : ∀ v ∈ vs.toList, v.oneCell' = true := by
  intro v hv
  obtain ⟨i, hi⟩ := List.getElem?_of_mem hv
  have hlt : i < vs.size := by have := (List.getElem?_eq_some_iff.1 hi).1; simpa using this
  have hlt' : i < cs.length := by rw [hc.1]; exact hlt
  have hci : cs[i]? = some cs[i] := by simp [hlt']
  exact ((hc.2.2 i cs[i] v hci (by simpa using hi)).cell_one (hc.2.1 i _ hci)).1
/-- Cells of a row, one of them written. -/
theorem CellsAt.put {w' : World} {O' : Nat → Prop} {γ' : Ghost} {b o off : Nat} {cs us : List AV} {ws : List Value} (hc : CellsAt w O γ b o cs) (s : Sees w O γ w' O' γ') (hl : us.length = ws.length) (hle : off + us.length ≤ cs.length)
    (hk : ∀ (i : Nat) (c : AV), us[i]? = some c → isCell c = true) (hv : ∀ (i : Nat) (c : AV) (v : Value), us[i]? = some c → ws[i]? = some v → V w O γ c v)
    (h1 : ∀ i, (i < o + off ∨ o + off + ws.length ≤ i) → w'.cell? ⟨b, i, none⟩ = w.cell? ⟨b, i, none⟩) (h2 : ∀ j, j < ws.length → w'.cell? ⟨b, o + off + j, none⟩ = ws[j]?) : CellsAt w' O' γ' b o (putAt cs off us) := by
  intro j c hj
  by_cases hin : off ≤ j ∧ j < off + us.length
  · obtain ⟨m, rfl⟩ : ∃ m, j = off + m := ⟨j - off, by omega⟩
    rw [putAt_at us cs off m (by omega) hle] at hj
    have hm : m < ws.length := by omega
    refine ⟨hk m c hj, ws[m], ?_, (hv m c _ hj (by simp [hm])).mono s⟩
    rw [show o + (off + m) = o + off + m by omega, h2 m hm]
    simp [hm]
  · rw [putAt_other us cs off j (by omega)] at hj
    obtain ⟨k1, v, k2, k3⟩ := hc j c hj
    exact ⟨k1, v, by rw [h1 _ (by omega)]; exact k2, k3.mono s⟩
theorem CellsAt.fits {b o : Nat} {cs : List AV} (hc : CellsAt w O γ b o cs) (hf : Free w b) {n : Nat} (hn : n ≤ cs.length) (h0 : 0 < n) : ∀ c T z, w.heap[b]? = some (Obj.cells c T z) → o + n ≤ c.size := by
  intro c T z hh
  obtain ⟨_, v, hv, _⟩ := hc (n - 1) cs[n - 1] (by simp)
  rw [cell_iff hh] at hv
  have := (Array.getElem?_eq_some_iff.1 hv).1
  omega
theorem patch_cells {e x : AV} {off : Nat} (hx : 0 < x.cells.length) (hle : off + x.cells.length ≤ e.cells.length) :
    (if x.cells.length = e.cells.length then x else patch e off x.cells).cells = putAt e.cells off x.cells := by
  split
  · rename_i hl
    have h0 : off = 0 := by omega
    subst h0
    apply List.ext_getElem?
    intro i
    by_cases hi : i < x.cells.length
    · have := putAt_at x.cells e.cells 0 i hi (by omega)
      rw [Nat.zero_add] at this
      exact this.symm
    · rw [putAt_other _ _ _ _ (by omega), List.getElem?_eq_none (by omega), List.getElem?_eq_none (by omega)]
  · rename_i hl
    cases e with
    | agg cs => rfl
    | _ => exact absurd (show x.cells.length = 1 by have h2 : off + x.cells.length ≤ 1 := hle; omega) hl
theorem patch_ok {e x : AV} {off : Nat} (hk : okVal x = true) (hx : 0 < x.cells.length) (hle : off + x.cells.length ≤ e.cells.length) :
    okVal (if x.cells.length = e.cells.length then x else patch e off x.cells) = true := by
  split
  · exact hk
  · rename_i hl
    cases e with
    | agg cs => rfl
    | _ => exact absurd (show x.cells.length = 1 by have h2 : off + x.cells.length ≤ 1 := hle; omega) hl
theorem astore_sound (r : R X h γ w) {t : TypeId} {a x : AV} {u ux : Value} {h' : AHeap} (ha : V w (Ow X h γ) γ a u) (hx : V w (Ow X h γ) γ x ux) (e : astore P t h a x = some h') :
    ∃ w', (Instr.storeAt t u ux).run P w = .ok () w' ∧ Goes X h γ w h' γ w' := by
  unfold astore at e
  split at e
  · rename_i hcd; obtain ⟨hsz, hpos, hk⟩ := hcd
    have hcv := hx.cv hk
    have hus : ux.cells.size = tsize P t := by rw [← hcv.1]; exact hsz
    have hlen : ux.cells.toList.length = x.cells.length := by simpa using hcv.1.symm
    have hone := hcv.one
    have hk' : ∀ (i : Nat) (c : AV), x.cells[i]? = some c → isCell c = true := hcv.2.1
    have hv' : ∀ (i : Nat) (c : AV) (v : Value), x.cells[i]? = some c → ux.cells.toList[i]? = some v → V w (Ow X h γ) γ c v := fun i c v hi hu => hcv.2.2 i c v hi (by simpa using hu)
    have xpos : 0 < x.cells.length := by omega
    cases ha with
    | ptr id off b o hg =>
      dsimp only at e
      split at e
      · rename_i cs hid
        split at e
        · rename_i hle
          cases e
          obtain ⟨hf, hc⟩ := r.vars hid hg
          have hfit := hc.fits hf hle (by omega)
          have hfit' : ∃ (c : Array Value) (T : TypeId) (z : Nat × Nat), w.heap[b]? = some (Obj.cells c T z) ∧ o + off + ux.cells.toList.length ≤ c.size := by
            obtain ⟨c, T, z, hh, _⟩ := hf
            exact ⟨c, T, z, hh, by have := hfit c T z hh; omega⟩
          refine ⟨_, by simpa [Instr.storeAt, Instr.sureAddr] using run_storeVar (P := P) hus hpos hf (fun c T z hh => by have := hfit c T z hh; omega) hone, ?_⟩
          have hcell := putW_cell ux.cells.toList hfit'
          refine write_goes r (by rw [hid]; rfl) hg hfit' (o' := .vars (putAt cs off x.cells)) rfl (fun k es g' e => by cases e) fun s => ?_
          exact ⟨b, o, hg, putW_free _ hf (fun c T z hh => by have := hfit c T z hh; omega), hc.put s hlen.symm hle hk' hv' hcell.1 hcell.2⟩
        · cases e
      · cases e
    | eptr id g k idx off b o hg =>
      dsimp only at e
      split at e
      · rename_i k' es g' hid
        split at e
        · rename_i hkg; obtain ⟨rfl, rfl⟩ := hkg
          split at e
          · rename_i el hel
            split at e
            · rename_i hle
              cases e
              obtain ⟨hf, hr⟩ := r.arr hid hg
              have hc := hr.at hel
              have hilt : idx < es.length := (List.getElem?_eq_some_iff.1 hel).1
              have hkl := (hr.1 _ _ hel).2
              have hfit := hc.fits hf hle (by omega)
              have hfit' : ∃ (c : Array Value) (T : TypeId) (z : Nat × Nat), w.heap[b]? = some (Obj.cells c T z) ∧ o + idx * k + off + ux.cells.toList.length ≤ c.size := by
                obtain ⟨c, T, z, hh, _⟩ := hf
                exact ⟨c, T, z, hh, by have := hfit c T z hh; omega⟩
              refine ⟨_, by simpa [Instr.storeAt, Instr.sureAddr] using run_storeVar (P := P) hus hpos hf (fun c T z hh => by have := hfit c T z hh; omega) hone, ?_⟩
              have hcell := putW_cell ux.cells.toList hfit'
              refine write_goes r (by rw [hid]; rfl) hg hfit' (o' := .arr k _ g) rfl (fun k2 es2 g2 e => by cases e; exact fun j q hq => r.gens _ _ _ _ _ _ hid hq) fun s => ?_
              refine ⟨b, o, hg, putW_free _ hf (fun c T z hh => by have := hfit c T z hh; omega), fun i e he => ?_, fun i j e c he hj => ?_⟩
              · by_cases hi : idx = i
                · subst hi
                  rw [List.getElem?_set_self hilt] at he; cases he
                  exact ⟨patch_ok hk xpos hle, by rw [patch_cells xpos hle, putAt_length]; exact hkl⟩
                · rw [List.getElem?_set_ne hi] at he; exact hr.1 i e he
              · by_cases hi : idx = i
                · subst hi
                  rw [List.getElem?_set_self hilt] at he; cases he
                  rw [patch_cells xpos hle] at hj
                  exact hc.put s hlen.symm hle hk' hv' hcell.1 hcell.2 j c hj
                · rw [List.getElem?_set_ne hi] at he
                  obtain ⟨a1, v, a2, a3⟩ := hr.2 i j e c he hj
                  have hjk : j < k := by have := (List.getElem?_eq_some_iff.1 hj).1; rw [(hr.1 i e he).2] at this; exact this
                  refine ⟨a1, v, ?_, a3.mono s⟩
                  rw [hcell.1 _ ?_]; · exact a2
                  rcases Nat.lt_or_gt_of_ne hi with hlt | hgt
                  · right
                    have := Nat.mul_le_mul_right k hlt
                    rw [Nat.succ_mul] at this
                    omega
                  · left; have := slot_lt hgt hjk; omega
            · cases e
          · cases e
        · cases e
      · rename_i cs hid
        split at e
        · rename_i hcd2; obtain ⟨rfl, rfl, rfl, hidx, hs1⟩ := hcd2
          cases e
          obtain ⟨hf, hc⟩ := r.vars hid hg
          have hle : idx + x.cells.length ≤ cs.length := by omega
          have hfit := hc.fits hf hle (by omega)
          have hfit' : ∃ (c : Array Value) (T : TypeId) (z : Nat × Nat), w.heap[b]? = some (Obj.cells c T z) ∧ o + idx + ux.cells.toList.length ≤ c.size := by
            obtain ⟨c, T, z, hh, _⟩ := hf
            exact ⟨c, T, z, hh, by have := hfit c T z hh; omega⟩
          have hcell := putW_cell ux.cells.toList hfit'
          refine ⟨_, by simpa [Instr.storeAt, Instr.sureAddr] using run_storeVar (P := P) (o := o + idx) hus hpos hf (fun c T z hh => by have := hfit c T z hh; omega) hone, ?_⟩
          refine write_goes r (by rw [hid]; rfl) hg hfit' (o' := .vars (putAt cs idx x.cells)) rfl (fun k es g' e => by cases e) fun s => ?_
          exact ⟨b, o, hg, putW_free _ hf (fun c T z hh => by have := hfit c T z hh; omega), hc.put s hlen.symm hle hk' hv' hcell.1 hcell.2⟩
        · cases e
      · cases e
    | _ => cases e
  · cases e
end
end Go.Ab
