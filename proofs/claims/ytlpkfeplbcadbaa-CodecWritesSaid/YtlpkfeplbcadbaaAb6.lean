/-
  Each operation of the abstract machine is one of the model's: values taken apart and put together.
-/
import Derived.Test.YtlpkfeplbcadbaaAb5
namespace Go.Ab
section
variable {P : Program} {X O : Nat → Prop} {h : AHeap} {γ : Ghost} {w : World}

/-! ### Parts of a value -/
theorem part_sound {t : TypeId} {cs : List AV} {vs : Array Value} {off : Nat} {x : AV} (ha : V w O γ (.agg cs) (.agg vs)) (hs : 0 < tsize P t) (e : cut (tagg P t) (tsize P t) cs off = some x) :
    ∃ u, (part t vs off).run P w = .ok u w ∧ V w O γ x u := by
  cases ha with
  | agg cs vs hl hc hv =>
    unfold cut at e
    split at e
    · rename_i hg
      split at e
      · rename_i hle
        cases e
        refine ⟨.agg (vs.extract off (off + tsize P t)), ?_, ?_⟩
        · simp only [part, Sem.run_bind, run_isAgg hg, Result.andThen_ok, if_true, run_sizeOf_pos hs, Sem.run_pure]
        · refine .agg _ _ (by simp; omega) (fun i c hi => ?_) (fun i c v hi hu => ?_)
          · have hlt : i < tsize P t := by
              have := (List.getElem?_eq_some_iff.1 hi).1; simp at this; omega
            rw [List.getElem?_take_of_lt hlt, List.getElem?_drop] at hi
            exact hc _ _ hi
          · have hlt : i < tsize P t := by
              have := (List.getElem?_eq_some_iff.1 hi).1; simp at this; omega
            rw [List.getElem?_take_of_lt hlt, List.getElem?_drop] at hi
            have hu' : vs[off + i]? = some v := by
              rw [Array.getElem?_extract] at hu; split at hu
              · exact hu
              · cases hu
            exact hv _ _ _ hi hu'
      · cases e
    · rename_i hg
      have hlt : off < cs.length := (List.getElem?_eq_some_iff.1 e).1
      have hlt' : off < vs.size := hl ▸ hlt
      refine ⟨vs[off], ?_, hv _ _ _ e (by simp [hlt'])⟩
      simp only [part, Sem.run_bind, run_isAgg hg, Result.andThen_ok, Bool.false_eq_true, if_false]
      simp [hlt']
    · cases e
theorem afield_sound {s : TypeId} {f : Nat} {a v : AV} {u : Value} (ha : V w O γ a u) (e : afield P s a f = some v) :
    ∃ x, (Instr.field s u f).run P w = .ok x w ∧ V w O γ v x := by
  unfold afield at e
  split at e
  · rename_i fo sz g cs heq
    unfold tfield at heq
    split at heq
    · rename_i fs hu
      split at heq
      · rename_i fd hf
        split at heq
        · rename_i g' hg
          split at heq
          · rename_i hpos
            cases heq
            obtain ⟨vs, rfl⟩ : ∃ vs, u = .agg vs := by cases ha; exact ⟨_, rfl⟩
            rw [← hg] at e
            obtain ⟨x, h1, h2⟩ := part_sound ha hpos e
            refine ⟨x, ?_, h2⟩
            simp only [Instr.field, Sem.run_bind, run_underlying hu, Result.andThen_ok, hf, asAgg, Sem.run_pure, h1]
          · cases heq
        · cases heq
      · cases heq
    · cases heq
  · cases e
theorem strT_iff {t : TypeId} (e : isStrT P t = true) : P.underlying t = some .string := by
  unfold isStrT at e; split at e
  · assumption
  · cases e
theorem tarr_iff {t : TypeId} {n : Nat} {el : TypeId} (e : tarr P t = some (n, el)) : P.underlying t = some (.array n el) := by
  unfold tarr at e; split at e
  · rename_i hx; cases e; exact hx
  · cases e
theorem aindex_sound {t : TypeId} {a i v : AV} {u ui : Value} (ha : V w O γ a u) (hi : V w O γ i ui) (e : aindex P t a i = some v) :
    ∃ x, (Instr.index t u ui).run P w = .ok x w ∧ V w O γ v x := by
  unfold aindex at e
  split at e
  · rename_i s n hn
    obtain ⟨k, rfl⟩ := asInt_inv hn
    cases hi.val_inv; cases ha.val_inv
    split at e
    · rename_i hc; obtain ⟨hst, h0⟩ := hc
      cases hb : s.data.toList[n.toNat]? with
      | none => rw [hb] at e; cases e
      | some b =>
        rw [hb] at e; cases e
        refine ⟨_, ?_, .val _⟩
        have hlt : n.toNat < s.size := by
          have := (List.getElem?_eq_some_iff.1 hb).1; simpa using this
        have hb' : s[n.toNat]? = some b := by
          rw [getElem?_pos s n.toNat hlt]
          have : s.data[n.toNat]? = some b := by simpa using hb
          rw [Array.getElem?_eq_getElem (by simpa using hlt)] at this
          exact this
        simp only [Instr.index, Sem.run_bind, run_asIntOf, Result.andThen_ok, run_underlying (strT_iff hst), h0, if_true, hb', Sem.run_pure]
    · cases e
  · rename_i cs n hn
    obtain ⟨k, rfl⟩ := asInt_inv hn
    cases hi.val_inv
    split at e
    · rename_i len el heq
      split at e
      · rename_i hc; obtain ⟨h0, h1, h2⟩ := hc
        obtain ⟨vs, rfl⟩ : ∃ vs, u = .agg vs := by cases ha; exact ⟨_, rfl⟩
        obtain ⟨x, k1, k2⟩ := part_sound ha h2 e
        refine ⟨x, ?_, k2⟩
        simp only [Instr.index, Sem.run_bind, run_asIntOf, Result.andThen_ok, run_underlying (tarr_iff heq)]
        rw [if_pos ⟨h0, h1⟩]
        simp only [Sem.run_bind, run_sizeOf_pos h2, Result.andThen_ok, k1]
      · cases e
    · cases e
  · cases e

/-! ### Plain values -/
theorem aint_sound {op : BinOp} {k : IntKind} {a b : Int} {v : Value} (hs : isShift op = false) (t : TypeId) (e : aint op k a b = some v) : (binOp op t (.int k a) (.int k b)).run P w = .ok v w := by
  cases op <;> simp only [aint] at e <;> first
    | (cases e; done)
    | (split at e
       · cases e
       · rename_i hb; cases e; simp [binOp, Op.intDiv, hb])
    | (cases e; simp [binOp, Op.intArith, Op.intBits, Op.intCmp])
theorem ashift_sound {op : BinOp} {k k' : IntKind} {a b : Int} {v : Value} (t : TypeId) (e : ashift op k a b = some v) : (binOp op t (.int k a) (.int k' b)).run P w = .ok v w := by
  unfold ashift at e
  split at e
  · cases e
  · rename_i hb
    cases op <;> simp only [] at e <;> first
      | (cases e; done)
      | (cases e; simp [binOp, Op.shift, hb])
theorem astr_sound {op : BinOp} {a b : ByteArray} {v : Value} (t : TypeId) (e : astr op a b = some v) : (binOp op t (.string a) (.string b)).run P w = .ok v w := by
  cases op <;> simp only [astr] at e <;> first
    | (cases e; done)
    | (split at e
       · cases e
       · rename_i hb; cases e; simp only [binOp, Op.stringOp]; rw [if_neg hb]; rfl)
    | (cases e; simp [binOp, Op.stringOp])
theorem run_eq_of {op : BinOp} {t : TypeId} {x y : Value} {b : Bool} {v : AV} (he : (Op.equal t x y).run P w = .ok b w)
    (h1 : binOp .eql t x y = (do pure (.bool (← Op.equal t x y)))) (h2 : binOp .neq t x y = (do pure (.bool (!(← Op.equal t x y))))) (e : aeqb op b = some v) :
    ∃ u, (binOp op t x y).run P w = .ok u w ∧ V w O γ v u := by
  cases op <;> simp only [aeqb] at e <;> cases e
  · exact ⟨_, by rw [h1]; simp [he], .val _⟩
  · exact ⟨_, by rw [h2]; simp [he], .val _⟩
theorem eqGuard_ok {op : BinOp} {t : TypeId} {x y : Operand} {a b : Value} (h1 : a ≠ .nilIface ∨ b ≠ .nilIface) (h2 : (∀ cs, a ≠ .agg cs) ∨ (∀ cs, b ≠ .agg cs)) :
    (eqGuard op t x y a b).run P w = .ok () w := by
  unfold eqGuard
  cases op <;> first
    | rfl
    | (cases a <;> cases b <;> first | rfl | (exfalso; simp at h1; done) | (exfalso; simp at h2; done))
theorem V.ptr_form {a : AV} {u : Value} (ha : V w O γ a u) (hf : (∃ id off, a = .ptr id off) ∨ (∃ id g k i off, a = .eptr id g k i off)) : ∃ p, u = .pointer (some p) := by
  rcases hf with ⟨_, _, rfl⟩ | ⟨_, _, _, _, _, rfl⟩ <;> cases ha <;> exact ⟨_, rfl⟩
theorem ptrT_iff {t : TypeId} (e : isPtrT P t = true) : ∃ el, P.underlying t = some (.pointer el) := by
  unfold isPtrT at e; split at e
  · exact ⟨_, by assumption⟩
  · cases e
theorem funcT_iff {t : TypeId} (e : isFuncT P t = true) : ∃ a b c, P.underlying t = some (.func a b c) := by
  unfold isFuncT at e; split at e
  · exact ⟨_, _, _, by assumption⟩
  · cases e
theorem boolT_iff {t : TypeId} (e : isBoolT P t = true) : P.underlying t = some .bool := by
  unfold isBoolT at e; split at e
  · assumption
  · cases e
theorem eqIn_bool (d : Nat) {t : TypeId} (hu : P.underlying t = some .bool) (a b : Bool) : (Op.equalIn (d + 1) t (.bool a) (.bool b)).run P w = .ok (a == b) w := by
  simp [Op.equalIn, run_underlying hu]
theorem eqIn_ptr00 (d : Nat) {t el : TypeId} (hu : P.underlying t = some (.pointer el)) : (Op.equalIn (d + 1) t (.pointer none) (.pointer none)).run P w = .ok true w := by
  simp [Op.equalIn, run_underlying hu]
theorem eqIn_ptr0 (d : Nat) {t el : TypeId} (hu : P.underlying t = some (.pointer el)) (p : Addr) : (Op.equalIn (d + 1) t (.pointer none) (.pointer (some p))).run P w = .ok false w := by
  simp [Op.equalIn, run_underlying hu]
theorem eqIn_ptr1 (d : Nat) {t el : TypeId} (hu : P.underlying t = some (.pointer el)) (p : Addr) : (Op.equalIn (d + 1) t (.pointer (some p)) (.pointer none)).run P w = .ok false w := by
  simp [Op.equalIn, run_underlying hu]
theorem eqIn_fn00 (d : Nat) {t : TypeId} {x y : Array TypeId} {z : Bool} (hu : P.underlying t = some (.func x y z)) : (Op.equalIn (d + 1) t .nilFunc .nilFunc).run P w = .ok true w := by
  simp [Op.equalIn, run_underlying hu]
theorem eqIn_fn1 (d : Nat) {t : TypeId} {x y : Array TypeId} {z : Bool} (hu : P.underlying t = some (.func x y z)) (f : Fn) (a b : Array Value) : (Op.equalIn (d + 1) t (.func f a b) .nilFunc).run P w = .ok false w := by
  simp [Op.equalIn, run_underlying hu]
theorem abin_sound {op : BinOp} {t : TypeId} {x y : Operand} {a b v : AV} {u u' : Value} (ha : V w O γ a u) (hb : V w O γ b u') (e : abin P op t a b = some v) :
    ∃ r, (do eqGuard op t x y u u'; binOp op t u u' : Sem Value).run P w = .ok r w ∧ V w O γ v r := by
  have fin : ∀ {a b : Value}, (a ≠ .nilIface ∨ b ≠ .nilIface) → ((∀ cs, a ≠ .agg cs) ∨ (∀ cs, b ≠ .agg cs)) → (∃ r, (binOp op t a b).run P w = .ok r w ∧ V w O γ v r) →
      ∃ r, (do eqGuard op t x y a b; binOp op t a b : Sem Value).run P w = .ok r w ∧ V w O γ v r := by
    rintro a b h1 h2 ⟨r, h3, h4⟩
    exact ⟨r, by simp only [Sem.run_bind, eqGuard_ok h1 h2, Result.andThen_ok, h3], h4⟩
  unfold abin at e
  split at e
  · cases ha.val_inv; cases hb.val_inv
    refine fin (.inl (by simp)) (.inl (by simp)) ?_
    split at e
    · cases h1 : ashift op _ _ _ with
      | none => rw [h1] at e; cases e
      | some r => rw [h1] at e; cases e; exact ⟨_, ashift_sound t h1, .val _⟩
    · rename_i hns
      split at e
      · rename_i hk; subst hk
        cases h1 : aint op _ _ _ with
        | none => rw [h1] at e; cases e
        | some r => rw [h1] at e; cases e; exact ⟨_, aint_sound (by simpa using hns) t h1, .val _⟩
      · cases e
  · cases ha.val_inv; cases hb.val_inv
    refine fin (.inl (by simp)) (.inl (by simp)) ?_
    cases h1 : astr op _ _ with
    | none => rw [h1] at e; cases e
    | some r => rw [h1] at e; cases e; exact ⟨_, astr_sound t h1, .val _⟩
  · cases ha.val_inv; cases hb.val_inv
    refine fin (.inl (by simp)) (.inl (by simp)) ?_
    split at e
    · rename_i ht
      exact run_eq_of (eqIn_bool 9999 (boolT_iff ht) _ _) rfl rfl e
    · cases e
  · cases ha.val_inv; cases hb.val_inv
    refine fin (.inl (by simp)) (.inl (by simp)) ?_
    split at e
    · rename_i ht
      obtain ⟨el, hu⟩ := ptrT_iff ht
      exact run_eq_of (eqIn_ptr00 9999 hu) rfl rfl e
    · cases e
  · cases hb.val_inv
    obtain ⟨p, rfl⟩ := ha.ptr_form (.inl ⟨_, _, rfl⟩)
    refine fin (.inl (by simp)) (.inl (by simp)) ?_
    split at e
    · rename_i ht
      obtain ⟨el, hu⟩ := ptrT_iff ht
      exact run_eq_of (eqIn_ptr1 9999 hu p) rfl rfl e
    · cases e
  · cases ha.val_inv
    obtain ⟨p, rfl⟩ := hb.ptr_form (.inl ⟨_, _, rfl⟩)
    refine fin (.inl (by simp)) (.inl (by simp)) ?_
    split at e
    · rename_i ht
      obtain ⟨el, hu⟩ := ptrT_iff ht
      exact run_eq_of (eqIn_ptr0 9999 hu p) rfl rfl e
    · cases e
  · cases hb.val_inv
    obtain ⟨p, rfl⟩ := ha.ptr_form (.inr ⟨_, _, _, _, _, rfl⟩)
    refine fin (.inl (by simp)) (.inl (by simp)) ?_
    split at e
    · rename_i ht
      obtain ⟨el, hu⟩ := ptrT_iff ht
      exact run_eq_of (eqIn_ptr1 9999 hu p) rfl rfl e
    · cases e
  · cases ha.val_inv; cases hb.val_inv
    refine fin (.inl (by simp)) (.inl (by simp)) ?_
    split at e
    · rename_i ht
      obtain ⟨_, _, _, hu⟩ := funcT_iff ht
      exact run_eq_of (eqIn_fn00 9999 hu) rfl rfl e
    · cases e
  · cases hb.val_inv
    obtain ⟨f, c1, c2, rfl⟩ : ∃ f a b, u = .func f a b := by cases ha; exact ⟨_, _, _, rfl⟩
    refine fin (.inl (by simp)) (.inl (by simp)) ?_
    split at e
    · rename_i ht
      obtain ⟨_, _, _, hu⟩ := funcT_iff ht
      exact run_eq_of (eqIn_fn1 9999 hu _ _ _) rfl rfl e
    · cases e
  · cases e
theorem aun_sound {op : UnOp} {a v : AV} {u : Value} (ha : V w O γ a u) (e : aun op a = some v) : ∃ r, (Op.unary op u).run P w = .ok r w ∧ V w O γ v r := by
  unfold aun at e
  split at e
  · cases ha.val_inv
    cases op <;> simp only [] at e <;> cases e
    · exact ⟨_, rfl, .val _⟩
    · exact ⟨_, rfl, .val _⟩
  · cases ha.val_inv
    cases op <;> simp only [] at e <;> cases e
    exact ⟨_, rfl, .val _⟩
  · cases e
end
end Go.Ab
