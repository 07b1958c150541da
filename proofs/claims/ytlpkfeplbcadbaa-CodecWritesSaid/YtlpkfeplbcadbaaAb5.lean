/-
  Each operation of the abstract machine is one of the model's: reading, addresses, plain values.
-/
import Derived.Test.YtlpkfeplbcadbaaAb4
namespace Go.Ab
section
variable {P : Program} {X O : Nat → Prop} {h : AHeap} {γ : Ghost} {w : World}

/-! ### Inversions -/
theorem V.val_inv {v u : Value} (k : V w O γ (.val v) u) : u = v := by cases k; rfl
theorem V.ofCell (v : Value) : V w O γ (ofCell v) v := by
  unfold Ab.ofCell
  split
  · exact .slc0 true none
  · exact .val _
theorem VA.oval {env : Env} {a : Act} (he : VA w O γ env a.tmps) (x : Operand) : V w O γ (oval env x) (a.eval x) := by
  cases x with
  | tmp t => exact he.get t
  | const v => exact V.ofCell v
  | global g => exact .val _
  | func f => exact .clo f [] [] #[] #[] rfl rfl (fun i c v hc => by simp at hc) (fun i c v hc => by simp at hc)
theorem asInt_inv {a : AV} {n : Int} (e : asInt a = some n) : ∃ k, a = .val (.int k n) := by
  unfold asInt at e
  split at e
  · rename_i k m; cases e; exact ⟨k, rfl⟩
  · cases e
theorem run_asIntOf (k : IntKind) (n : Int) (w : World) : (Go.asIntOf (.int k n)).run P w = .ok (k, n) w := rfl
theorem run_asInt (k : IntKind) (n : Int) (w : World) : (Go.asInt (.int k n)).run P w = .ok n w := rfl
theorem run_sizeOf' {t : TypeId} {i : TypeInfo} (e : P.info? t = some i) (w : World) : (sizeOf t).run P w = .ok (tsize P t) w := by
  simp [sizeOf, typeInfo, e, tsize]
theorem run_sizeOf_pos {t : TypeId} (e : 0 < tsize P t) (w : World) : (sizeOf t).run P w = .ok (tsize P t) w := by
  cases hi : P.info? t with
  | none => simp [tsize, hi] at e
  | some i => exact run_sizeOf' hi w
theorem info_of_underlying {t : TypeId} {d : TypeDesc} (e : P.underlying t = some d) : ∃ i, P.info? t = some i := by
  cases hi : P.info? t with
  | none => simp [Program.underlying, hi] at e
  | some i => exact ⟨i, rfl⟩
theorem run_isAgg {t : TypeId} {g : Bool} (e : tagg P t = some g) (w : World) : (isAgg t).run P w = .ok g w := by
  unfold tagg at e
  cases hu : P.underlying t with
  | none => rw [hu] at e; cases e
  | some d =>
    rw [hu] at e
    cases e
    simp only [isAgg, Sem.run_bind, run_underlying hu, Result.andThen_ok]
    cases d <;> rfl
theorem tagg_info {t : TypeId} {g : Bool} (e : tagg P t = some g) : ∃ i, P.info? t = some i := by
  unfold tagg at e
  cases hu : P.underlying t with
  | none => rw [hu] at e; cases e
  | some d => exact info_of_underlying hu

/-! ### Reading -/
/-- Cells from a place on. -/
def CellsAt (w : World) (O : Nat → Prop) (γ : Ghost) (b o : Nat) (cs : List AV) : Prop :=
  ∀ (j : Nat) (c : AV), cs[j]? = some c → isCell c = true ∧ ∃ v, w.cell? ⟨b, o + j, none⟩ = some v ∧ V w O γ c v
theorem cut_sound {t : TypeId} {cs : List AV} {b o off : Nat} {x : AV} (hc : CellsAt w O γ b o cs) (e : cut (tagg P t) (tsize P t) cs off = some x) :
    ∃ u, (loadVar t ⟨b, o + off, none⟩).run P w = .ok u w ∧ V w O γ x u := by
  unfold cut at e
  split at e
  · rename_i hg
    split at e
    · rename_i hl
      cases e
      obtain ⟨i, hi⟩ := tagg_info hg
      have key : ∀ j, j < tsize P t → ∃ v, w.cell? ⟨b, o + off + j, none⟩ = some v ∧ ∃ hj : off + j < cs.length, isCell cs[off + j] = true ∧ V w O γ cs[off + j] v := by
        intro j hj
        have hlt : off + j < cs.length := by omega
        obtain ⟨k1, v, k2, k3⟩ := hc (off + j) cs[off + j] (by simp [hlt])
        exact ⟨v, by rw [Nat.add_assoc]; exact k2, hlt, k1, k3⟩
      let f : Nat → Value := fun j => (w.cell? ⟨b, o + off + j, none⟩).getD undef
      have hf : ∀ j, j < tsize P t → w.cell? ⟨b, o + off + j, none⟩ = some (f j) := by
        intro j hj
        obtain ⟨v, h1, _⟩ := key j hj
        simp [f, h1]
      refine ⟨.agg ((List.range (tsize P t)).map f).toArray, ?_, ?_⟩
      · simp only [loadVar, Sem.run_bind, run_isAgg hg, Result.andThen_ok, if_true, run_sizeOf' hi, run_loadCells' P w b (o + off) _ f hf, Sem.run_pure]
      · refine .agg _ _ (by simp; omega) (fun i c hi => ?_) (fun i c v hi hv => ?_)
        · have hlt : i < tsize P t := by
            have := (List.getElem?_eq_some_iff.1 hi).1; simp at this; omega
          obtain ⟨v, h1, h2, h3, h4⟩ := key i hlt
          simp [hlt, h2] at hi
          subst hi; exact h3
        · have hlt : i < tsize P t := by
            have := (List.getElem?_eq_some_iff.1 hi).1; simp at this; omega
          obtain ⟨u, h1, h2, h3, h4⟩ := key i hlt
          simp [hlt, h2] at hi
          simp [hlt, f, h1] at hv
          subst hi; subst hv; exact h4
    · cases e
  · rename_i hg
    obtain ⟨k1, v, k2, k3⟩ := hc off x e
    refine ⟨v, ?_, k3⟩
    simp only [loadVar, Sem.run_bind, run_isAgg hg, Result.andThen_ok, Bool.false_eq_true, if_false, run_load, k2]
  · cases e
theorem R.vars (r : R X h γ w) {id b o : Nat} {cs : List AV} (e : hget h id = .vars cs) (hg : γ id 0 = some (b, o)) : Free w b ∧ CellsAt w (Ow X h γ) γ b o cs := by
  have := r.obj id
  rw [e] at this
  obtain ⟨b', o', h1, h2, h3⟩ := this
  rw [hg] at h1; cases h1
  exact ⟨h2, h3⟩
theorem R.arr (r : R X h γ w) {id g k b o : Nat} {es : List AV} (e : hget h id = .arr k es g) (hg : γ id g = some (b, o)) : Free w b ∧ RowIs w (Ow X h γ) γ b o k es := by
  have := r.obj id
  rw [e] at this
  obtain ⟨b', o', h1, h2, h3⟩ := this
  rw [hg] at h1; cases h1
  exact ⟨h2, h3⟩
theorem R.frz (r : R X h γ w) {id g k b o : Nat} {es : List AV} (e : hget h id = .frz k es g) (hg : γ id g = some (b, o)) :
    RowIs w (Ow X h γ) γ b o k es ∧ ∀ (i j : Nat) (e c : AV), es[i]? = some e → e.cells[j]? = some c → ¬ Ow X h γ b := by
  have := r.obj id
  rw [e] at this
  obtain ⟨b', o', h1, h2, h3⟩ := this
  rw [hg] at h1; cases h1
  exact ⟨h2, h3⟩
theorem RowIs.at {b o k : Nat} {es : List AV} (hr : RowIs w O γ b o k es) {i : Nat} {e : AV} (he : es[i]? = some e) : CellsAt w O γ b (o + i * k) e.cells :=
  fun j c hj => hr.2 i j e c he hj
theorem aload_sound (r : R X h γ w) {t : TypeId} {a v : AV} {u : Value} (ha : V w (Ow X h γ) γ a u) (e : aload P t h a = some v) :
    ∃ x, (Instr.loadAt t u).run P w = .ok x w ∧ V w (Ow X h γ) γ v x := by
  have fin : ∀ {b o : Nat}, (∃ x, (loadVar t ⟨b, o, none⟩).run P w = .ok x w ∧ V w (Ow X h γ) γ v x) → ∃ x, (Instr.loadAt t (.pointer (some ⟨b, o, none⟩))).run P w = .ok x w ∧ V w (Ow X h γ) γ v x := by
    rintro b o ⟨x, h1, h2⟩
    exact ⟨x, by simpa [Instr.loadAt, Instr.sureAddr] using h1, h2⟩
  cases ha with
  | ptr id off b o hg =>
    simp only [aload] at e
    split at e
    · rename_i cs hid
      exact fin (cut_sound (r.vars hid hg).2 e)
    · cases e
  | eptr id g k idx off b o hg =>
    simp only [aload] at e
    split at e
    · rename_i k' es g' hid
      split at e
      · rename_i hc; obtain ⟨rfl, rfl⟩ := hc
        split at e
        · rename_i el hel; exact fin (cut_sound ((r.arr hid hg).2.at hel) e)
        · cases e
      · cases e
    · rename_i k' es g' hid
      split at e
      · rename_i hc; obtain ⟨rfl, rfl⟩ := hc
        split at e
        · rename_i el hel; exact fin (cut_sound ((r.frz hid hg).1.at hel) e)
        · cases e
      · cases e
    · rename_i cs hid
      split at e
      · rename_i hc; obtain ⟨rfl, rfl, rfl, hag⟩ := hc
        have := cut_sound (P := P) (t := t) (off := idx) (x := v) (r.vars hid hg).2 (by rw [hag]; exact e)
        rw [Nat.mul_one, Nat.add_zero]
        exact fin this
      · cases e
    · cases e
  | sptr cs off b o vals hc hv =>
    simp only [aload] at e
    exact fin (cut_sound (O := Ow X h γ) (fun j c hj => ⟨(hc j c hj).1, vals j, (hc j c hj).2.2, hv j c hj⟩) e)
  | _ => simp [aload] at e

theorem telem_iff {t : TypeId} {el : TypeId} (e : telem P t = some el) : P.underlying t = some (.slice el) := by
  unfold telem at e; split at e
  · rename_i hx; cases e; exact hx
  · cases e
theorem tslice_iff {t : TypeId} {k b : Nat} {z : AV} (e : tslice P t = some (k, b, z)) : ∃ el, P.underlying t = some (.slice el) ∧ k = tsize P el ∧ 0 < tsize P el := by
  unfold tslice at e
  split at e
  · rename_i el hel
    split at e
    · split at e
      · rename_i hc; cases e; exact ⟨el, telem_iff hel, rfl, hc.1⟩
      · cases e
    · cases e
  · cases e
/-! ### Addresses -/
theorem aindexAddr_sound {t : TypeId} {a i v : AV} {u ui : Value} (ha : V w O γ a u) (hi : V w O γ i ui) (e : aindexAddr P t a i = some v) :
    ∃ x, (Instr.indexAt t u ui).run P w = .ok x w ∧ V w O γ v x := by
  unfold aindexAddr at e
  split at e
  · cases e
  · rename_i n hn
    obtain ⟨k, rfl⟩ := asInt_inv hn
    cases hi.val_inv
    split at e
    · rename_i len el heq
      have hu : P.underlying t = some (.array len el) := by
        unfold tarr at heq; split at heq
        · rename_i hx; cases heq; exact hx
        · cases heq
      split at e
      · rename_i hc; obtain ⟨h0, h1, h2⟩ := hc
        have fin : ∀ {b o : Nat}, (Instr.indexAt t (.pointer (some ⟨b, o, none⟩)) (.int k n)).run P w = .ok (.pointer (some ⟨b, o + n.toNat * tsize P el, none⟩)) w := by
          intro b o
          simp only [Instr.indexAt, Sem.run_bind, run_asIntOf, Result.andThen_ok, run_underlying hu, Instr.sureAddr, Sem.run_pure]
          rw [if_pos ⟨h0, h1⟩]
          simp only [Sem.run_bind, run_sizeOf_pos h2, Result.andThen_ok, Sem.run_pure, addr_add]
        cases ha with
        | ptr id off b o hg => cases e; exact ⟨_, fin, by rw [Nat.add_assoc]; exact .ptr _ _ _ _ hg⟩
        | eptr id g kk idx off b o hg => cases e; exact ⟨_, fin, by rw [Nat.add_assoc]; exact .eptr _ _ _ _ _ _ _ hg⟩
        | sptr cs off b o vals hc hv => cases e; exact ⟨_, fin, by rw [Nat.add_assoc]; exact .sptr _ _ _ _ vals hc hv⟩
        | _ => cases e
      · cases e
    · rename_i ks by_ z_ hnone heq
      obtain ⟨el, hu, hks, hs⟩ := tslice_iff heq
      subst hks
      cases ha with
      | slc0 full a0 =>
        dsimp only at e
        split at e
        · simp at e
        · cases e
      | slc full es b o cap kk vals hcap hfull hk hc hv =>
        dsimp only at e
        split at e
        · rename_i h0
          split at e
          · rename_i el' hel
            split at e
            · rename_i hlen
              cases e
              have hlt : n.toNat < es.length := (List.getElem?_eq_some_iff.1 hel).1
              have hn' : n < (es.length : Int) := by omega
              have hkk : kk = tsize P el := by rw [← (hk _ _ hel).2]; exact hlen
              refine ⟨.pointer (some ⟨b, o + n.toNat * tsize P el + 0, none⟩), ?_, .sptr el'.cells 0 b (o + n.toNat * tsize P el) (vals n.toNat) (fun j c hj => by rw [← hkk]; exact hc _ _ _ _ hel hj) (fun j c hj => hv _ _ _ _ hel hj)⟩
              simp only [Instr.indexAt, Sem.run_bind, run_asIntOf, Result.andThen_ok, run_underlying hu, Sem.run_pure]
              rw [if_pos ⟨h0, hn'⟩]
              simp only [Sem.run_bind, run_sizeOf_pos hs, Result.andThen_ok, Sem.run_pure, addr_add, Nat.add_zero]
            · cases e
          · cases e
        · cases e
      | arr id off len g kk b o cap o' hg hcap ho hrow =>
        dsimp only at e
        split at e
        · rename_i hp; obtain ⟨h0, h1, rfl⟩ := hp
          cases e
          obtain rfl : o' = o + off * tsize P el := by rcases ho with h | h <;> omega
          refine ⟨_, ?_, .eptr id g _ _ _ b o hg⟩
          simp only [Instr.indexAt, Sem.run_bind, run_asIntOf, Result.andThen_ok, run_underlying hu, Sem.run_pure]
          rw [if_pos ⟨h0, h1⟩]
          simp only [Sem.run_bind, run_sizeOf_pos hs, Result.andThen_ok, Sem.run_pure, addr_add, Nat.add_zero, Nat.add_mul, Nat.add_assoc]
        · cases e
      | _ => simp at e
    · cases e
theorem afieldAddr_sound {s : TypeId} {f : Nat} {a v : AV} {u : Value} (ha : V w O γ a u) (e : afieldAddr P s a f = some v) :
    ∃ x, (Instr.fieldAt s u f).run P w = .ok x w ∧ V w O γ v x := by
  unfold afieldAddr at e
  split at e
  · rename_i fo sz g heq
    unfold tfield at heq
    split at heq
    · rename_i fs hu
      split at heq
      · rename_i fd hf
        split at heq
        · rename_i g' hg
          split at heq
          · rename_i hpos
            cases heq
            have fin : ∀ {b o : Nat}, (Instr.fieldAt s (.pointer (some ⟨b, o, none⟩)) f).run P w = .ok (.pointer (some ⟨b, o + fd.offset, none⟩)) w := by
              intro b o
              simp only [Instr.fieldAt, Sem.run_bind, run_underlying hu, Result.andThen_ok, hf, Instr.sureAddr, Sem.run_pure, fieldPlace, run_sizeOf_pos hpos]
              rw [if_neg (by omega)]
              simp only [Sem.run_pure, Result.andThen_ok, addr_add]
            cases ha with
            | ptr id off b o hg => cases e; exact ⟨_, fin, by rw [Nat.add_assoc]; exact .ptr _ _ _ _ hg⟩
            | eptr id g kk idx off b o hg => cases e; exact ⟨_, fin, by rw [Nat.add_assoc]; exact .eptr _ _ _ _ _ _ _ hg⟩
            | sptr cs off b o vals hc hv => cases e; exact ⟨_, fin, by rw [Nat.add_assoc]; exact .sptr _ _ _ _ vals hc hv⟩
            | _ => cases e
          · cases heq
        · cases heq
      · cases heq
    · cases heq
  · cases e
end
end Go.Ab
