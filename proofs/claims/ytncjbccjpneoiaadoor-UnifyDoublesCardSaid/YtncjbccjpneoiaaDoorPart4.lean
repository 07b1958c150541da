/- Parts of the proof, each with its own heading: Maps: each operation of the abstract machine is one of the model's. One operation of the abstract machine is one of the model's. Calls: what is handed over, what comes back. -/
import Derived.Test.YtncjbccjpneoiaaDoorPart3
import Derived.MapKept
import Derived.Laws.StructEq
set_option linter.unusedSimpArgs false
set_option linter.unusedVariables false
namespace Go.Ab
set_option linter.unusedSimpArgs false
set_option linter.unusedVariables false
open Go.MapKept
section
variable {P : Program} {X O : Nat → Prop} {h : AHeap} {γ : Ghost} {w : World}

theorem tmap_iff {t k e : TypeId} (h : tmap P t = some (k, e)) : P.underlying t = some (.map k e) := by
  unfold tmap at h; split at h
  · rename_i hu; cases h; exact hu
  · cases h
theorem R.map (r : R X h γ w) {id b c : Nat} {es : List (AV × AV × Nat)} (e : hget h id = .map es c) (hg : γ id 0 = some (b, 0)) : ∃ xs, w.heap[b]? = some (Obj.map xs c) ∧ MapIs w (Ow X h γ) γ es xs := by
  have := r.obj id
  rw [e] at this
  obtain ⟨b', h1, xs, h2, h3⟩ := this
  rw [hg] at h1; cases h1; exact ⟨xs, h2, h3⟩
theorem R.iter (r : R X h γ w) {id b s l : Nat} {m : Option Nat} {n : List Nat} {o : Nat} (e : hget h id = .iter m s n l) (hg : γ id 0 = some (b, o)) : o = 0 ∧ ∃ mm, w.heap[b]? = some (Obj.mapIter mm s n.toArray l) ∧ IterIs γ m mm := by
  have := r.obj id
  rw [e] at this
  obtain ⟨b', h1, mm, h2, h3⟩ := this
  rw [hg] at h1; cases h1; exact ⟨rfl, mm, h2, h3⟩

/-! ### Keys -/
theorem part_of_part {t : TypeId} {x a : AV} {us : Array Value} {off : Nat} (hx : V w O γ x (.agg us)) (e : partOf P t off x = some a) : ∃ v, (part t us off).run P w = .ok v w ∧ V w O γ a v := by
  obtain ⟨_, e1, v, h1, h2⟩ := partOf_sound (P := P) hx e
  cases e1; exact ⟨v, h1, h2⟩
theorem checkKey_sound (em : Bool) : ∀ (d : Nat) {D : Nat} {t : TypeId} {x : AV} {u : Value} {e : Bool}, d ≤ D → V w O γ x u → aeqT P d t x x = some e → (Instr.checkKey em D t u).run P w = .ok () w
  | 0, _, _, _, _, _, _, _, h => by simp only [aeqT] at h; cases h
  | d + 1, 0, _, _, _, _, hd, _, _ => by omega
  | d + 1, D + 1, t, x, u, e, hd, hx, h => by
    unfold aeqT at h
    split at h
    · rename_i fs hu
      split at h
      · cases h
      · cases x <;> try (simp at h; done)
        rename_i cs
        obtain ⟨us, rfl⟩ : ∃ us, u = .agg us := by cases hx; exact ⟨_, rfl⟩
        simp only [Instr.checkKey, Sem.run_bind, run_underlying hu, Result.andThen_ok]
        rw [← Array.forIn_toList]
        dsimp only at h
        generalize fs.toList = l at h ⊢
        clear hu
        induction l generalizing e with
        | nil => rfl
        | cons f r ih =>
          simp only [aeqF] at h
          rw [List.forIn_cons]
          split at h
          · rename_i hn
            split at h
            · rename_i a b h1 h2
              rw [h1] at h2; cases h2
              obtain ⟨a', k1, k2⟩ := part_of_part (P := P) hx h1
              split at h
              · rename_i e1 e2 h3 h4
                have ck := checkKey_sound em d (D := D) (by omega) k2 h3
                simp only [hn, ne_eq, not_false_eq_true, if_true, Sem.run_bind, k1, Result.andThen_ok, ck, Sem.run_pure]
                exact ih _ h4
              · cases h
            · cases h
          · rename_i hn
            simp only [hn, if_false, Sem.run_bind, Sem.run_pure, Result.andThen_ok]
            exact ih _ h
    · rename_i ud hns hu
      split at h
      · rename_i hp
        simp only [Bool.and_eq_true] at hp
        unfold plainT at hp
        cases ud <;> first
          | (simp at hp; done)
          | simp [Instr.checkKey, run_underlying hu]
      · cases h
    · cases h
def MapL (w : World) (O : Nat → Prop) (γ : Ghost) (es : List (AV × AV × Nat)) (xs : List MapEntry) : Prop :=
  es.length = xs.length ∧ ∀ (i : Nat) (e : AV × AV × Nat) (x : MapEntry), es[i]? = some e → xs[i]? = some x → V w O γ e.1 x.key ∧ V w O γ e.2.1 x.val
theorem MapIs.list {es : List (AV × AV × Nat)} {xs : Array MapEntry} (h : MapIs w O γ es xs) : MapL w O γ es xs.toList :=
  ⟨by simpa using h.1, fun i e x he hx => by
    obtain ⟨_, _, _, h4, h5⟩ := h.2 i e x he (by simpa using hx)
    exact ⟨h4, h5⟩⟩
def FR (w : World) (O : Nat → Prop) (γ : Ghost) : Option (Nat × AV) → Option (Nat × Value) → Prop
  | none, none => True
  | some (i, a), some (j, u) => i = j ∧ V w O γ a u
  | _, _ => False
theorem MapL.cons {e : AV × AV × Nat} {es : List (AV × AV × Nat)} {xs : List MapEntry} (h : MapL w O γ (e :: es) xs) : ∃ x xs', xs = x :: xs' ∧ V w O γ e.1 x.key ∧ V w O γ e.2.1 x.val ∧ MapL w O γ es xs' := by
  obtain ⟨h1, h2⟩ := h
  cases xs with
  | nil => simp at h1
  | cons x xs' =>
    obtain ⟨k1, k2⟩ := h2 0 e x rfl rfl
    exact ⟨x, xs', rfl, k1, k2, by simpa using h1, fun i e x he hx => h2 (i + 1) e x (by simpa using he) (by simpa using hx)⟩
theorem MapL.nil {xs : List MapEntry} (h : MapL w O γ [] xs) : xs = [] := by
  obtain ⟨h1, _⟩ := h
  cases xs with
  | nil => rfl
  | cons _ _ => simp at h1
theorem findAsking_sound {kt : TypeId} {k : AV} {key : Value} (hk : V w O γ k key) : ∀ (es : List (AV × AV × Nat)) {xs : List MapEntry} {i : Nat} {r : Option (Nat × AV)}, MapL w O γ es xs →
    afind (aeqT P eqDepth kt) k es i = some r → ∃ r', (Instr.findAsking kt key xs i).run P w = .ok r' w ∧ FR w O γ r r'
  | [], xs, i, r, hl, e => by
    obtain rfl := hl.nil
    simp only [afind] at e; cases e
    exact ⟨none, rfl, trivial⟩
  | a :: es, xs, i, r, hl, e => by
    obtain ⟨x, xs', rfl, k1, k2, hl'⟩ := hl.cons
    simp only [afind] at e
    unfold Instr.findAsking
    cases hq : aeqT P eqDepth kt k a.1 with
    | none => rw [hq] at e; cases e
    | some b =>
      rw [hq] at e
      have h1 : (Op.equal kt key x.key).run P w = .ok b w := aeqT_sound (P := P) (w := w) eqDepth (D := Op.maxDepth) (by decide) hk k1 hq
      cases b with
      | true => cases e; exact ⟨some (i, x.val), by simp [h1], rfl, k2⟩
      | false =>
        obtain ⟨r', h2, h3⟩ := findAsking_sound hk es hl' e
        exact ⟨r', by simp [h1, h2], h3⟩
theorem findNow_sound {kt : TypeId} {ud : TypeDesc} (hu : P.underlying kt = some ud) (hp : ud = .bool ∨ (∃ k, ud = .int k) ∨ ud = .string) {k : AV} {key : Value} (hk : V w O γ k key) : ∀ (es : List (AV × AV × Nat)) {xs : List MapEntry} {i : Nat} {r : Option (Nat × AV)}, MapL w O γ es xs →
    afind (aeqT P eqDepth kt) k es i = some r → ∃ r', Instr.findNow ud key xs i = some r' ∧ FR w O γ r r'
  | [], xs, i, r, hl, e => by
    obtain rfl := hl.nil
    simp only [afind] at e; cases e
    exact ⟨none, rfl, trivial⟩
  | a :: es, xs, i, r, hl, e => by
    obtain ⟨x, xs', rfl, k1, k2, hl'⟩ := hl.cons
    simp only [afind] at e
    unfold Instr.findNow
    cases hq : aeqT P eqDepth kt k a.1 with
    | none => rw [hq] at e; cases e
    | some b =>
      rw [hq] at e
      have h1 : Instr.sameNow ud key x.key = some b := by
        unfold aeqT at hq
        rw [hu] at hq
        have hq' : (if plainT ud k && plainT ud a.1 then aeq1 k a.1 else none) = some b := by
          rcases hp with rfl | ⟨q, rfl⟩ | rfl <;> exact hq
        split at hq'
        · rename_i hpl
          simp only [Bool.and_eq_true] at hpl
          obtain ⟨p1, p2⟩ := hpl
          rcases hp with rfl | ⟨q, rfl⟩ | rfl
          · cases k <;> try (simp [plainT] at p1; done)
            rename_i v1
            cases v1 <;> try (simp [plainT] at p1; done)
            obtain ⟨a1, a2⟩ := a
            cases a1 <;> try (simp [plainT] at p2; done)
            rename_i v2
            cases v2 <;> try (simp [plainT] at p2; done)
            rw [hk.val_inv, k1.val_inv]
            exact hq'
          · cases k <;> try (simp [plainT] at p1; done)
            rename_i v1
            cases v1 <;> try (simp [plainT] at p1; done)
            obtain ⟨a1, a2⟩ := a
            cases a1 <;> try (simp [plainT] at p2; done)
            rename_i v2
            cases v2 <;> try (simp [plainT] at p2; done)
            rw [hk.val_inv, k1.val_inv]
            exact hq'
          · cases k <;> try (simp [plainT] at p1; done)
            rename_i v1
            cases v1 <;> try (simp [plainT] at p1; done)
            obtain ⟨a1, a2⟩ := a
            cases a1 <;> try (simp [plainT] at p2; done)
            rename_i v2
            cases v2 <;> try (simp [plainT] at p2; done)
            rw [hk.val_inv, k1.val_inv]
            simp only [aeq1] at hq'
            simp only [Instr.sameNow]
            rw [← hq', beq_toListBytes, ByteArray.toList_eq, ByteArray.toList_eq]
        · cases hq'
      rw [h1]
      cases b with
      | true => cases e; exact ⟨some (i, x.val), rfl, rfl, k2⟩
      | false => exact findNow_sound hu hp hk es hl' e
theorem findKey_sound {kt : TypeId} {k : AV} {key : Value} (hk : V w O γ k key) {es : List (AV × AV × Nat)} {xs : List MapEntry} {q : Bool} (hq : aeqT P eqDepth kt k k = some q) {r : Option (Nat × AV)} (hl : MapL w O γ es xs)
    (e : afind (aeqT P eqDepth kt) k es 0 = some r) : ∃ r', (Instr.findKey kt key xs).run P w = .ok r' w ∧ FR w O γ r r' := by
  unfold Instr.findKey
  cases hu : P.underlying kt with
  | none => unfold aeqT at hq; rw [hu] at hq; cases hq
  | some ud =>
    simp only [Sem.run_bind, run_underlying hu, Result.andThen_ok]
    by_cases hp : ud = .bool ∨ (∃ k, ud = .int k) ∨ ud = .string
    · obtain ⟨r', h1, h2⟩ := findNow_sound hu hp hk es hl e
      rw [h1]
      exact ⟨r', rfl, h2⟩
    · cases es with
      | nil =>
        obtain rfl := hl.nil
        simp only [afind] at e; cases e
        exact ⟨none, rfl, trivial⟩
      | cons a es =>
        obtain ⟨r', h1, h2⟩ := findAsking_sound hk _ hl e
        obtain ⟨x, xs', rfl, k1, k2, hl'⟩ := hl.cons
        have : Instr.findNow ud key (x :: xs') 0 = none := by
          unfold Instr.findNow
          have : Instr.sameNow ud key x.key = none := by
            cases ud <;> first
              | rfl
              | (exfalso; simp at hp; done)
          rw [this]
        rw [this]
        exact ⟨r', h1, h2⟩
theorem same1_eq {a b : AV} (h : same1 a b = true) : a = b ∧ ∀ {u v : Value} (n : Nat), V w O γ a u → V w O γ b v → u = v ∧ Instr.sameBits n u v = true := by
  unfold same1 at h
  split at h
  · simp only [Bool.and_eq_true, beq_iff_eq] at h
    obtain ⟨rfl, rfl⟩ := h
    refine ⟨rfl, fun n hu hv => ?_⟩
    rw [hu.val_inv, hv.val_inv]
    exact ⟨rfl, by cases n <;> simp [Instr.sameBits]⟩
  · rename_i x y
    have e : x = y := by
      have := eq_of_beq h
      cases x; cases y
      simp only at this
      congr 1
      exact Array.ext' this
    subst e
    refine ⟨rfl, fun n hu hv => ?_⟩
    rw [hu.val_inv, hv.val_inv]
    refine ⟨rfl, ?_⟩
    have : (x == x) = true := by rw [beq_toListBytes]; simp
    cases n <;> simpa [Instr.sameBits] using this
  · have := eq_of_beq h
    subst this
    refine ⟨rfl, fun n hu hv => ?_⟩
    rw [hu.val_inv, hv.val_inv]
    exact ⟨rfl, by cases n <;> simp [Instr.sameBits]⟩
  · cases h
theorem sameL_eq : ∀ {as bs : List AV}, sameL as bs = true → as = bs ∧ ∀ {us vs : List Value} (n : Nat), as.length = us.length → bs.length = vs.length →
    (∀ (i : Nat) (a : AV) (u : Value), as[i]? = some a → us[i]? = some u → V w O γ a u) → (∀ (i : Nat) (b : AV) (v : Value), bs[i]? = some b → vs[i]? = some v → V w O γ b v) → us = vs ∧ (us.zip vs).all (fun p => Instr.sameBits n p.1 p.2) = true
  | [], [], _ => ⟨rfl, fun {us vs} n h1 h2 _ _ => by
    cases us with
    | nil => cases vs with
      | nil => exact ⟨rfl, rfl⟩
      | cons _ _ => simp at h2
    | cons _ _ => simp at h1⟩
  | [], _ :: _, h => by simp [sameL] at h
  | _ :: _, [], h => by simp [sameL] at h
  | a :: as, b :: bs, h => by
    simp only [sameL, Bool.and_eq_true] at h
    obtain ⟨e1, f1⟩ := same1_eq (w := w) (O := O) (γ := γ) h.1
    obtain ⟨e2, f2⟩ := sameL_eq h.2
    subst e1; subst e2
    refine ⟨rfl, fun {us vs} n h1 h2 hu hv => ?_⟩
    cases us with
    | nil => simp at h1
    | cons u us =>
      cases vs with
      | nil => simp at h2
      | cons v vs =>
        obtain ⟨g1, g2⟩ := f1 n (hu 0 a u rfl rfl) (hv 0 a v rfl rfl)
        obtain ⟨g3, g4⟩ := f2 n (by simpa using h1) (by simpa using h2) (fun i a u ha hu' => hu (i + 1) a u (by simpa using ha) (by simpa using hu')) (fun i a u ha hu' => hv (i + 1) a u (by simpa using ha) (by simpa using hu'))
        subst g1; subst g3
        exact ⟨rfl, by simp only [List.zip_cons_cons, List.all_cons, g2, g4, Bool.and_self]⟩
theorem keySame_eq {a b : AV} (h : keySame a b = true) : a = b ∧ ∀ {u v : Value}, V w O γ a u → V w O γ b v → u = v ∧ Instr.sameBits 10000 u v = true := by
  unfold keySame at h
  split at h
  · rename_i as bs
    obtain ⟨e, f⟩ := sameL_eq (w := w) (O := O) (γ := γ) h
    subst e
    refine ⟨rfl, fun hu hv => ?_⟩
    cases hu with
    | agg _ us hl1 hc1 hv1 =>
      cases hv with
      | agg _ vs hl2 hc2 hv2 =>
        obtain ⟨g1, g2⟩ := f (us := us.toList) (vs := vs.toList) 9999 (by simpa using hl1) (by simpa using hl2) (fun i a u ha hu => hv1 i a u ha (by simpa using hu)) (fun i a u ha hu => hv2 i a u ha (by simpa using hu))
        have e : us = vs := Array.ext' g1
        subst e
        refine ⟨rfl, ?_⟩
        show Instr.sameBits (9999 + 1) _ _ = true
        simp only [Instr.sameBits, beq_self_eq_true, Bool.true_and]
        exact g2
  · obtain ⟨e, f⟩ := same1_eq (w := w) (O := O) (γ := γ) h
    exact ⟨e, fun hu hv => f 10000 hu hv⟩

/-! ### Operations -/
theorem Boolsome {α : Type} {x : Option α} {b c : Bool} (h : (x.isSome && b && c) = true) : (∃ q, x = some q) ∧ b = true ∧ c = true := by
  simp only [Bool.and_eq_true] at h
  exact ⟨Option.isSome_iff_exists.1 h.1.1, h.1.2, h.2⟩
theorem Boolsome2 {α : Type} {x : Option α} {b : Bool} (h : (x.isSome && b) = true) : (∃ q, x = some q) ∧ b = true := by
  simp only [Bool.and_eq_true] at h
  exact ⟨Option.isSome_iff_exists.1 h.1, h.2⟩
theorem V.mp_form {id : Nat} {u : Value} (hx : V w O γ (.mp id) u) : ∃ b, u = .map (some b) ∧ γ id 0 = some (b, 0) := by
  cases hx with
  | mp _ b hg => exact ⟨b, rfl, hg⟩
theorem zero_V {t : TypeId} {z : AV} (e : tzero P t = some z) : ∃ zv, (zeroValue t).run P w = .ok zv w ∧ V w O γ z zv ∧ okVal z = true := by
  obtain ⟨i, zv, hi, hz, rfl, hok, hall⟩ := tzero_all e
  exact ⟨zv, run_zeroValue hi hz w, ofVal_V _ hall, hok⟩
theorem pair_V {a : AV} {u : Value} (ha : V w O γ a u) (b : Bool) : V w O γ (.tup [a, .bool b]) (.tuple #[u, .bool b]) := by
  refine .tup _ _ rfl fun i c v hc hv => ?_
  match i, hc, hv with
  | 0, hc, hv => cases hc; cases hv; exact ha
  | 1, hc, hv => cases hc; cases hv; exact .val _
  | n + 2, hc, hv => simp at hc
theorem alookup_sound (r : R X h γ w) {t : TypeId} {x k v : AV} {u uk : Value} {ok : Bool} (hx : V w (Ow X h γ) γ x u) (hk : V w (Ow X h γ) γ k uk) (e : alookup P t h x k ok = some v) :
    ∃ y, (Instr.lookup t u uk ok).run P w = .ok y w ∧ V w (Ow X h γ) γ v y := by
  unfold alookup at e
  split at e
  · cases e
  · rename_i kt et hm
    have hu := tmap_iff hm
    split at e
    · cases e
    · rename_i z hz
      obtain ⟨zv, z1, z2, z3⟩ := zero_V (w := w) (O := Ow X h γ) (γ := γ) hz
      have fin : ∀ {a : AV} {y : Value} {b : Bool}, V w (Ow X h γ) γ a y → V w (Ow X h γ) γ (if ok then AV.tup [a, .bool b] else a) (if ok then .tuple #[y, .bool b] else y) := by
        intro a y b ha
        cases ok
        · exact ha
        · exact pair_V ha b
      dsimp only at e
      split at e
      · rename_i hb
        obtain ⟨⟨q, hq⟩, hko⟩ := Boolsome2 hb
        split at e
        · cases hx.val_inv
          cases e
          refine ⟨_, ?_, fin z2⟩
          have ck := checkKey_sound (P := P) (w := w) true eqDepth (D := 10000) (by decide) hk hq
          obtain ⟨r', f1, f2⟩ := findKey_sound (P := P) (w := w) hk hq (es := []) (xs := []) ⟨rfl, fun i e x he => by simp at he⟩ (r := none) rfl
          cases r' with
          | some p => exact f2.elim
          | none => simp [Instr.lookup, run_underlying hu, ck, f1, z1]
        · rename_i id
          obtain ⟨b, rfl, hg⟩ := hx.mp_form
          split at e
          · rename_i es c hid
            obtain ⟨xs, hw, hI⟩ := r.map hid hg
            have ck := checkKey_sound (P := P) (w := w) xs.isEmpty eqDepth (D := 10000) (by decide) hk hq
            split at e
            · rename_i i a hf
              cases e
              obtain ⟨r', f1, f2⟩ := findKey_sound (P := P) (w := w) hk hq hI.list hf
              cases r' with
              | none => exact f2.elim
              | some p =>
                obtain ⟨j, y⟩ := p
                refine ⟨_, ?_, fin f2.2⟩
                simp [Instr.lookup, run_underlying hu, MapKept.run_getObj_map hw, ck, f1]
            · rename_i hf
              cases e
              obtain ⟨r', f1, f2⟩ := findKey_sound (P := P) (w := w) hk hq hI.list hf
              cases r' with
              | some p => exact f2.elim
              | none =>
                refine ⟨_, ?_, fin z2⟩
                simp [Instr.lookup, run_underlying hu, MapKept.run_getObj_map hw, ck, f1, z1]
            · cases e
          · cases e
        · cases e
      · cases e
theorem map_goes (r : R X h γ w) {id b c c' : Nat} {es es' : List (AV × AV × Nat)} {xs xs' : Array MapEntry} (hid : hget h id = .map es c) (hg : γ id 0 = some (b, 0)) (hw : w.heap[b]? = some (.map xs c))
    (hok : ∀ {w' : World} {O' : Nat → Prop}, Sees w (Ow X h γ) γ w' O' γ → MapIs w' O' γ es' xs') :
    Goes X h γ w (h.set id (.map es' c')) γ { w with heap := w.heap.setIfInBounds b (.map xs' c') } := by
  have hlt : b < w.heap.size := (Array.getElem?_eq_some_iff.1 hw).1
  refine change_goes r (g := 0) (b := b) (p := 0) (by rw [hid]; rfl) hg (fun _ _ _ e => e) (fun _ _ _ e => .inl e) ?_ (fun g' b' p' e1 e2 => ?_) (fun k es g' e => by cases e) (fun s => ?_)
  · refine ⟨rfl, rfl, rfl, by simp, fun x _ hx => ?_, fun x cs T z hh => ?_⟩
    · simp only [Array.getElem?_setIfInBounds]; rw [if_neg (fun e => hx e.symm)]
    · have : x ≠ b := by rintro rfl; rw [hw] at hh; cases hh
      exact ⟨cs, z, by simp only [Array.getElem?_setIfInBounds]; rw [if_neg (fun e => this e.symm)]; exact hh, rfl⟩
  · cases e1; rw [hg] at e2; cases e2; exact .inl rfl
  · exact ⟨b, hg, xs', by simp [hlt], hok s⟩
theorem afind_lt {eq : AV → AV → Option Bool} {k : AV} : ∀ {es : List (AV × AV × Nat)} {n i : Nat} {v : AV}, afind eq k es n = some (some (i, v)) → ∃ e, n ≤ i ∧ es[i - n]? = some e ∧ e.2.1 = v
  | [], _, _, _, e => by simp [afind] at e
  | a :: r, n, i, v, e => by
    simp only [afind] at e
    split at e
    · cases e; exact ⟨a, Nat.le_refl _, by simp, rfl⟩
    · obtain ⟨x, h1, h2, h3⟩ := afind_lt e
      refine ⟨x, by omega, ?_, h3⟩
      rw [show i - n = (i - (n + 1)) + 1 by omega, List.getElem?_cons_succ]; exact h2
    · cases e
theorem MapIs.modify {es : List (AV × AV × Nat)} {xs : Array MapEntry} (h : MapIs w O γ es xs) {i : Nat} {v : AV} {u : Value} (hv : V w O γ v u) (hko : okVal v = true) {f : MapEntry → MapEntry} (hf : ∀ x e, xs[i]? = some x → es[i]? = some e → (f x).born = x.born ∧ V w O γ e.1 (f x).key ∧ (f x).val = u) :
    MapIs w O γ (es.modify i fun e => (e.1, v, e.2.2)) (xs.modify i f) := by
  refine ⟨by simp [h.1], fun j e x he hx => ?_⟩
  rw [List.getElem?_modify] at he
  rw [Array.getElem?_modify] at hx
  by_cases hij : i = j
  · subst hij
    rw [if_pos rfl] at hx
    cases h1 : es[i]? with
    | none => rw [h1] at he; cases he
    | some e0 =>
      cases h2 : xs[i]? with
      | none => rw [h2] at hx; cases hx
      | some x0 =>
        rw [h1] at he; rw [h2] at hx
        have he' : e = (e0.1, v, e0.2.2) := by simpa using he.symm
        subst he'; cases hx
        obtain ⟨k1, k2, k3, k4, k5⟩ := h.2 i e0 x0 h1 h2
        obtain ⟨g1, g2, g3⟩ := hf x0 e0 h2 h1
        exact ⟨by rw [g1]; exact k1, k2, hko, g2, by rw [g3]; exact hv⟩
  · rw [if_neg hij] at hx
    cases h1 : es[j]? with
    | none => rw [h1] at he; cases he
    | some e0 =>
      rw [h1] at he
      have he' : e = e0 := by simpa [hij] using he.symm
      subst he'
      exact h.2 j e x h1 hx
theorem MapIs.push {es : List (AV × AV × Nat)} {xs : Array MapEntry} (h : MapIs w O γ es xs) {k v : AV} {u uk : Value} (hk : V w O γ k uk) (hv : V w O γ v u) (hko : okVal v = true) (hkk : keyOk k = true) (c : Nat) :
    MapIs w O γ (es ++ [(k, v, c)]) (xs.push { key := uk, val := u, born := c }) := by
  refine ⟨by simp [h.1], fun j e x he hx => ?_⟩
  by_cases hj : j < es.length
  · rw [List.getElem?_append_left hj] at he
    rw [Array.getElem?_push, if_neg (by rw [← h.1]; omega)] at hx
    exact h.2 j e x he hx
  · have hj' : j = es.length := by
      have := (List.getElem?_eq_some_iff.1 he).1
      simp at this; omega
    subst hj'
    rw [List.getElem?_append_right (Nat.le_refl _), Nat.sub_self] at he
    rw [Array.getElem?_push, if_pos h.1] at hx
    cases he; cases hx
    exact ⟨rfl, hkk, hko, hk, hv⟩
theorem amapPut_sound (r : R X h γ w) {t : TypeId} {x k v : AV} {u uk uv : Value} {h' : AHeap} (hx : V w (Ow X h γ) γ x u) (hk : V w (Ow X h γ) γ k uk) (hv : V w (Ow X h γ) γ v uv) (e : amapPut P t h x k v = some h') :
    ∃ w' γ', (Instr.mapUpdate t u uk uv).run P w = .ok () w' ∧ Goes X h γ w h' γ' w' := by
  unfold amapPut at e
  split at e
  · rename_i kt et id hm
    have hu := tmap_iff hm
    obtain ⟨b, rfl, hg⟩ := hx.mp_form
    split at e
    · rename_i es c hid
      obtain ⟨xs, hw, hI⟩ := r.map hid hg
      split at e
      · rename_i hb
        obtain ⟨⟨q, hq⟩, hko, hvo⟩ := Boolsome hb
        have ck := checkKey_sound (P := P) (w := w) false eqDepth (D := 10000) (by decide) hk hq
        split at e
        · rename_i i a hf
          split at e
          · rename_i hsame
            cases e
            obtain ⟨r', f1, f2⟩ := findKey_sound (P := P) (w := w) hk hq hI.list hf
            obtain ⟨e0, _, he0, hea⟩ := afind_lt hf
            rw [Nat.sub_zero] at he0
            rw [he0] at hsame
            simp only [Option.map_some, Option.some.injEq] at hsame
            obtain ⟨hkk, hbits⟩ := keySame_eq (w := w) (O := Ow X h γ) (γ := γ) hsame
            cases r' with
            | none => exact f2.elim
            | some p =>
              obtain ⟨j, y⟩ := p
              obtain ⟨rfl, f3⟩ := f2
              have hlt : i < xs.size := by rw [← hI.1]; exact (List.getElem?_eq_some_iff.1 he0).1
              obtain ⟨k1, k2, k3, k4, k5⟩ := hI.2 i e0 xs[i] he0 (by simp [hlt])
              have hs := (hbits k4 hk).2
              have hkt : (Instr.keyThatStays xs[i].key uk).run P w = .ok uk w := by
                simp [Instr.keyThatStays, hs]
              refine ⟨_, γ, ?_, map_goes r (xs' := xs.modify i fun e => { e with key := uk, val := uv }) (c' := c) hid hg hw fun s => (hI.mono s).modify (hv.mono s) hvo fun x e hx he => ⟨rfl, ?_, rfl⟩⟩
              · simp [Instr.mapUpdate, run_underlying hu, MapKept.run_getObj_map hw, ck, f1, hlt, hkt, run_setObj_map _ hw]
              · rw [he0] at he; cases he
                rw [hkk]; exact hk.mono s
          · cases e
        · rename_i hf
          cases e
          obtain ⟨r', f1, f2⟩ := findKey_sound (P := P) (w := w) hk hq hI.list hf
          cases r' with
          | some p => exact f2.elim
          | none =>
            refine ⟨_, γ, ?_, map_goes r (xs' := xs.push { key := uk, val := uv, born := c }) (c' := c + 1) hid hg hw fun s => (hI.mono s).push (hk.mono s) (hv.mono s) hvo hko c⟩
            simp [Instr.mapUpdate, run_underlying hu, MapKept.run_getObj_map hw, ck, f1, run_setObj_map _ hw]
        · cases e
      · cases e
    · cases e
  · cases e
theorem amapEntry_sound (r : R X h γ w) {t : TypeId} {x k v : AV} {u uk : Value} {h' : AHeap} (hx : V w (Ow X h γ) γ x u) (hk : V w (Ow X h γ) γ k uk) (e : amapEntry P t h x k = some (v, h')) :
    ∃ y w' γ', (Instr.mapEntry t u uk).run P w = .ok y w' ∧ Goes X h γ w h' γ' w' ∧ V w' (Ow X h' γ') γ' v y := by
  unfold amapEntry at e
  split at e
  · rename_i kt et id hm
    have hu := tmap_iff hm
    obtain ⟨b, rfl, hg⟩ := hx.mp_form
    split at e
    · rename_i es c z hid hz
      obtain ⟨xs, hw, hI⟩ := r.map hid hg
      obtain ⟨zv, z1, z2, z3⟩ := zero_V (w := w) (O := Ow X h γ) (γ := γ) hz
      have two : ∀ {w' : World} {O' : Nat → Prop} {γ' : Ghost} {a : AV} {y : Value} (n : Nat), V w' O' γ' a y → V w' O' γ' (.tup [a, .int n]) (.tuple #[y, goInt n]) := by
        intro w' O' γ' a y n ha
        refine .tup _ _ rfl fun i c v hc hv => ?_
        match i, hc, hv with
        | 0, hc, hv => cases hc; cases hv; exact ha
        | 1, hc, hv => cases hc; cases hv; exact .val _
        | n + 2, hc, hv => simp at hc
      split at e
      · rename_i hb
        obtain ⟨⟨q, hq⟩, hko⟩ := Boolsome2 hb
        have ck := checkKey_sound (P := P) (w := w) false eqDepth (D := 10000) (by decide) hk hq
        split at e
        · rename_i i a hf
          split at e
          · rename_i e0 he0
            split at e
            · rename_i hsame
              cases e
              obtain ⟨r', f1, f2⟩ := findKey_sound (P := P) (w := w) hk hq hI.list hf
              obtain ⟨hkk, hbits⟩ := keySame_eq (w := w) (O := Ow X h γ) (γ := γ) hsame
              cases r' with
              | none => exact f2.elim
              | some p =>
                obtain ⟨j, y⟩ := p
                obtain ⟨rfl, f3⟩ := f2
                have hlt : i < xs.size := by rw [← hI.1]; exact (List.getElem?_eq_some_iff.1 he0).1
                obtain ⟨k1, k2, k3, k4, k5⟩ := hI.2 i e0 xs[i] he0 (by simp [hlt])
                obtain ⟨hs0, hs⟩ := hbits k4 hk
                have hkt : (Instr.keyThatStays xs[i].key uk).run P w = .ok uk w := by
                  simp [Instr.keyThatStays, hs]
                have hmod : xs.modify i (fun e => { e with key := uk }) = xs := by
                  apply Array.ext_getElem?
                  intro j
                  rw [Array.getElem?_modify]
                  by_cases hij : i = j
                  · subst hij
                    rw [if_pos rfl]
                    simp only [hlt, getElem?_pos, Option.map_some, Option.some.injEq]
                    simp only [← hs0]
                  · rw [if_neg hij]
                have hset : ({ w with heap := w.heap.setIfInBounds b (.map xs c) } : World) = w := by
                  have : w.heap.setIfInBounds b (.map xs c) = w.heap := by
                    apply Array.ext_getElem?
                    intro j
                    rw [Array.getElem?_setIfInBounds]
                    split
                    · rename_i hij; subst hij
                      rw [hw]; simp [(Array.getElem?_eq_some_iff.1 hw).1]
                    · rfl
                  rw [this]
                refine ⟨.tuple #[y, goInt e0.2.2], w, γ, ?_, Goes.refl r, two _ f3⟩
                simp [Instr.mapEntry, run_underlying hu, MapKept.run_getObj_map hw, ck, f1, hkt, run_setObj_map _ hw, hmod, hset, hlt, k1]
            · cases e
          · cases e
        · rename_i hf
          cases e
          obtain ⟨r', f1, f2⟩ := findKey_sound (P := P) (w := w) hk hq hI.list hf
          cases r' with
          | some p => exact f2.elim
          | none =>
            have g := map_goes (c' := c + 1) (xs' := xs.push { key := uk, val := zv, born := c }) r hid hg hw fun s => (hI.mono s).push (hk.mono s) (z2.mono s) z3 hko c
            refine ⟨.tuple #[zv, goInt c], _, γ, ?_, g, two c (z2.goes g)⟩
            simp [Instr.mapEntry, run_underlying hu, MapKept.run_getObj_map hw, ck, f1, z1, run_setObj_map _ hw]
        · cases e
      · cases e
    · cases e
  · cases e
theorem aentryStore_sound (r : R X h γ w) {t : TypeId} {x s v : AV} {u us uv : Value} {h' : AHeap} (hx : V w (Ow X h γ) γ x u) (hs : V w (Ow X h γ) γ s us) (hv : V w (Ow X h γ) γ v uv) (e : aentryStore h x s v = some h') :
    ∃ w' γ', (Instr.entryStore t u us uv).run P w = .ok () w' ∧ Goes X h γ w h' γ' w' := by
  unfold aentryStore at e
  split at e
  · rename_i id n hn
    obtain ⟨b, rfl, hg⟩ := hx.mp_form
    obtain ⟨k, rfl⟩ : ∃ k, s = .val (.int k n) := by
      unfold asIntV at hn; split at hn
      · cases hn; exact ⟨_, rfl⟩
      · cases hn
    cases hs.val_inv
    split at e
    · rename_i es c hid
      obtain ⟨xs, hw, hI⟩ := r.map hid hg
      split at e
      · rename_i hvo
        split at e
        · rename_i i hi
          cases e
          have hi' : xs.findIdx? (fun e => (e.born : Int) == n) = some i := by
            rw [show xs = xs.toList.toArray by simp, List.findIdx?_toArray]
            have hlen : es.length = xs.toList.length := by simpa using hI.1
            have key : ∀ (es : List (AV × AV × Nat)) (ys : List MapEntry), es.length = ys.length → (∀ (j : Nat) (e : AV × AV × Nat) (x : MapEntry), es[j]? = some e → ys[j]? = some x → x.born = e.2.2) → es.findIdx? (fun e => (e.2.2 : Int) == n) = ys.findIdx? (fun e => (e.born : Int) == n) := by
              intro es
              induction es with
              | nil => intro ys hl _; cases ys with
                | nil => rfl
                | cons _ _ => simp at hl
              | cons a es ih =>
                intro ys hl hb
                cases ys with
                | nil => simp at hl
                | cons y ys =>
                  rw [List.findIdx?_cons, List.findIdx?_cons, hb 0 a y rfl rfl, ih ys (by simpa using hl) fun j e x he hx => hb (j + 1) e x (by simpa using he) (by simpa using hx)]
            rw [← key es xs.toList hlen fun j e x he hx => (hI.2 j e x he (by simpa using hx)).1]
            exact hi
          refine ⟨_, γ, ?_, map_goes r (xs' := xs.modify i fun e => { e with val := uv }) (c' := c) hid hg hw fun s => (hI.mono s).modify (hv.mono s) hvo fun x e hx he => ⟨rfl, ((hI.mono s).2 i e x he hx).2.2.2.1, rfl⟩⟩
          simp [Instr.entryStore, MapKept.run_getObj_map hw, run_asInt, hi', run_setObj_map _ hw]
        · cases e
      · cases e
    · cases e
  · cases e
theorem MapIs.erase {es : List (AV × AV × Nat)} {xs : Array MapEntry} (h : MapIs w O γ es xs) (i : Nat) : MapIs w O γ (es.eraseIdx i) (xs.eraseIdxIfInBounds i) := by
  have hl := h.1
  by_cases hi : i < xs.size
  · have e : (xs.eraseIdxIfInBounds i).toList = xs.toList.eraseIdx i := by
      rw [Array.toList_eraseIdxIfInBounds]
    refine ⟨?_, fun j e0 x he hx => ?_⟩
    · rw [← Array.length_toList, e, List.length_eraseIdx, List.length_eraseIdx]; simp [hl]
    · rw [← Array.getElem?_toList, e, List.getElem?_eraseIdx] at hx
      rw [List.getElem?_eraseIdx] at he
      split at he
      · rename_i hj; rw [if_pos hj] at hx; exact h.2 j e0 x he (by simpa using hx)
      · rename_i hj; rw [if_neg hj] at hx; exact h.2 (j + 1) e0 x he (by simpa using hx)
  · have e1 : xs.eraseIdxIfInBounds i = xs := by unfold Array.eraseIdxIfInBounds; rw [dif_neg hi]
    have e2 : es.eraseIdx i = es := List.eraseIdx_of_length_le (by omega)
    rw [e1, e2]; exact h
theorem amapDel_sound (r : R X h γ w) {ts : Array TypeId} {ty : TypeId} {x k : AV} {u uk : Value} {h' : AHeap} (hts : 0 < ts.size) (hx : V w (Ow X h γ) γ x u) (hk : V w (Ow X h γ) γ k uk) (e : amapDel P (argT ts 0) h x k = some h') :
    ∃ w' γ', (Builtin.delete_ ts ty #[u, uk]).run P w = .ok (.tuple #[]) w' ∧ Goes X h γ w h' γ' w' := by
  have ht : ts[0]? = some (argT ts 0) := by simp [argT, hts]
  unfold amapDel at e
  split at e
  · rename_i kt et hm
    have hu := tmap_iff hm
    split at e
    · rename_i hb
      obtain ⟨⟨q, hq⟩, hko⟩ := Boolsome2 hb
      cases e
      cases hx.val_inv
      have ck := checkKey_sound (P := P) (w := w) true eqDepth (D := 10000) (by decide) hk hq
      exact ⟨w, γ, by simp [Builtin.delete_, ht, run_underlying hu, ck], Goes.refl r⟩
    · cases e
  · rename_i kt et id hm
    have hu := tmap_iff hm
    obtain ⟨b, rfl, hg⟩ := hx.mp_form
    split at e
    · rename_i es c hid
      obtain ⟨xs, hw, hI⟩ := r.map hid hg
      split at e
      · rename_i hb
        obtain ⟨⟨q, hq⟩, hko⟩ := Boolsome2 hb
        have ck := checkKey_sound (P := P) (w := w) xs.isEmpty eqDepth (D := 10000) (by decide) hk hq
        split at e
        · rename_i i a hf
          cases e
          obtain ⟨r', f1, f2⟩ := findKey_sound (P := P) (w := w) hk hq hI.list hf
          cases r' with
          | none => exact f2.elim
          | some p =>
            obtain ⟨j, y⟩ := p
            obtain ⟨rfl, f3⟩ := f2
            refine ⟨_, γ, ?_, map_goes r (xs' := xs.eraseIdxIfInBounds i) (c' := c) hid hg hw fun s => (hI.mono s).erase i⟩
            simp [Builtin.delete_, ht, run_underlying hu, MapKept.run_getObj_map hw, ck, f1, run_setObj_map _ hw]
        · rename_i hf
          cases e
          obtain ⟨r', f1, f2⟩ := findKey_sound (P := P) (w := w) hk hq hI.list hf
          cases r' with
          | some p => exact f2.elim
          | none =>
            refine ⟨_, γ, ?_, map_goes r (xs' := xs) (c' := c) hid hg hw fun s => hI.mono s⟩
            simp [Builtin.delete_, ht, run_underlying hu, MapKept.run_getObj_map hw, ck, f1, run_setObj_map _ hw]
        · cases e
      · cases e
    · cases e
  · cases e
theorem makeMap_goes (r : R X h γ w) : Goes X h γ w (h ++ [.map [] 0]) (γ.put h.length 0 (w.heap.size, 0)) (w.alloc (.map #[] 0)) :=
  new_goes r rfl rfl rfl rfl rfl fun hn hg _ => ⟨w.heap.size, hg, #[], hn, rfl, fun i e x he => by simp at he⟩
theorem arange_sound (r : R X h γ w) {t : TypeId} {x v : AV} {u : Value} {h' : AHeap} (hx : V w (Ow X h γ) γ x u) (e : arange P t h x = some (v, h')) :
    ∃ y w' γ', (Instr.range t u).run P w = .ok y w' ∧ Goes X h γ w h' γ' w' ∧ V w' (Ow X h' γ') γ' v y := by
  unfold arange at e
  split at e
  · rename_i ht
    obtain ⟨kt, et, hu⟩ := mapT_iff ht
    have hp : ∀ (O' : Nat → Prop) (w' : World), V w' O' (γ.put h.length 0 (w.heap.size, 0)) (.ptr h.length 0) (.pointer (some ⟨w.heap.size, 0, none⟩)) :=
      fun O' w' => V.ptr h.length 0 w.heap.size 0 (by simp [Ghost.put])
    split at e
    · cases hx.val_inv; cases e
      refine ⟨_, _, _, ?_, new_goes r (w' := w.alloc (.mapIter none 0 #[] 0)) (ob := .mapIter none 0 #[] 0) rfl rfl rfl rfl rfl fun hn hg _ => ⟨w.heap.size, hg, none, hn, rfl⟩, hp _ _⟩
      simp [Instr.range, run_underlying hu]
    · rename_i id
      obtain ⟨b, rfl, hg⟩ := hx.mp_form
      split at e
      · rename_i es c hid
        obtain ⟨xs, hw, hI⟩ := r.map hid hg
        cases e
        refine ⟨_, _, _, ?_, new_goes r (w' := w.alloc (.mapIter (some b) c #[] c)) (ob := .mapIter (some b) c #[] c) rfl rfl rfl rfl rfl fun hn hg' s => ⟨w.heap.size, hg', some b, hn, b, s.ext _ _ _ hg, rfl⟩, hp _ _⟩
        simp [Instr.range, run_underlying hu, MapKept.run_getObj_map hw]
      · cases e
    · cases e
  · cases e
theorem run_getObj_iter {r s l : Nat} {m : Option Nat} {n : Array Nat} (hb : w.heap[r]? = some (.mapIter m s n l)) : (getObj r).run P w = .ok (.mapIter m s n l) w := by
  simp [getObj, Sem.run, hb]
theorem run_setObj_iter {r s l : Nat} {m : Option Nat} {n : Array Nat} (o : Obj) (hb : w.heap[r]? = some (.mapIter m s n l)) : (setObj r o).run P w = .ok () { w with heap := w.heap.setIfInBounds r o } := by
  simp [setObj, Sem.run, hb]
theorem iter_goes (r : R X h γ w) {id b s l s' l' : Nat} {m m' mm mm' : Option Nat} {n n' : List Nat} (hid : hget h id = .iter m s n l) (hg : γ id 0 = some (b, 0)) (hw : w.heap[b]? = some (.mapIter mm s n.toArray l)) (hm : IterIs γ m' mm') :
    Goes X h γ w (h.set id (.iter m' s' n' l')) γ { w with heap := w.heap.setIfInBounds b (.mapIter mm' s' n'.toArray l') } := by
  have hlt : b < w.heap.size := (Array.getElem?_eq_some_iff.1 hw).1
  refine change_goes r (g := 0) (b := b) (p := 0) (by rw [hid]; rfl) hg (fun _ _ _ e => e) (fun _ _ _ e => .inl e) ?_ (fun g' b' p' e1 e2 => ?_) (fun k es g' e => by cases e) (fun s => ?_)
  · refine ⟨rfl, rfl, rfl, by simp, fun x _ hx => ?_, fun x cs T z hh => ?_⟩
    · simp only [Array.getElem?_setIfInBounds]; rw [if_neg (fun e => hx e.symm)]
    · have : x ≠ b := by rintro rfl; rw [hw] at hh; cases hh
      exact ⟨cs, z, by simp only [Array.getElem?_setIfInBounds]; rw [if_neg (fun e => this e.symm)]; exact hh, rfl⟩
  · cases e1; rw [hg] at e2; cases e2; exact .inl rfl
  · exact ⟨b, hg, mm', by simp [hlt], hm⟩
theorem iter_ptr {id : Nat} {u : Value} {m : Option Nat} {s l : Nat} {n : List Nat} (r : R X h γ w) (hx : V w O γ (.ptr id 0) u) (hid : hget h id = .iter m s n l) :
    ∃ b mm, u = .pointer (some ⟨b, 0, none⟩) ∧ γ id 0 = some (b, 0) ∧ w.heap[b]? = some (Obj.mapIter mm s n.toArray l) ∧ IterIs γ m mm := by
  cases hx with
  | ptr _ _ b o hg =>
    obtain ⟨rfl, mm, h1, h2⟩ := r.iter hid hg
    exact ⟨b, mm, rfl, hg, h1, h2⟩
theorem map_filter {es : List (AV × AV × Nat)} {ys : List MapEntry} (hl : es.length = ys.length) (hb : ∀ (j : Nat) (e : AV × AV × Nat) (x : MapEntry), es[j]? = some e → ys[j]? = some x → x.born = e.2.2) (p : Nat → Bool) :
    ∀ {l : List (AV × AV × Nat)}, es.filter (fun e => p e.2.2) = l → ∃ l' : List MapEntry, ys.filter (fun e => p e.born) = l' ∧ l.length = l'.length ∧ ∀ (j : Nat) (e : AV × AV × Nat) (x : MapEntry), l[j]? = some e → l'[j]? = some x → ∃ i : Nat, es[i]? = some e ∧ ys[i]? = some x := by
  induction es generalizing ys with
  | nil =>
    intro l e
    cases ys with
    | nil => subst e; exact ⟨[], rfl, rfl, fun j e x he => by simp at he⟩
    | cons _ _ => simp at hl
  | cons a es ih =>
    intro l e
    cases ys with
    | nil => simp at hl
    | cons y ys =>
      obtain ⟨l', h1, h2, h3⟩ := ih (ys := ys) (by simpa using hl) (fun j e x he hx => hb (j + 1) e x (by simpa using he) (by simpa using hx)) rfl
      have h0 := hb 0 a y rfl rfl
      rw [List.filter_cons] at e
      rw [List.filter_cons, h0]
      split at e
      · rename_i hp
        subst e
        rw [if_pos hp]
        refine ⟨_, rfl, by simp [h1, h2], fun j e x he hx => ?_⟩
        cases j with
        | zero => cases he; cases hx; exact ⟨0, rfl, rfl⟩
        | succ j =>
          obtain ⟨i, g1, g2⟩ := h3 j e x (by simpa using he) (by rw [← h1]; simpa using hx)
          exact ⟨i + 1, by simpa using g1, by simpa using g2⟩
      · rename_i hp
        subst e
        rw [if_neg hp]
        refine ⟨_, rfl, by rw [h1]; exact h2, fun j e x he hx => ?_⟩
        obtain ⟨i, g1, g2⟩ := h3 j e x he (by rw [← h1]; exact hx)
        exact ⟨i + 1, by simpa using g1, by simpa using g2⟩
theorem map_all {es : List (AV × AV × Nat)} {xs : Array MapEntry} (hI : MapIs w O γ es xs) (p : Nat → Bool) : es.all (fun e => p e.2.2) = xs.all (fun e => p e.born) := by
  rw [← Array.all_toList]
  have hl : es.length = xs.toList.length := by simpa using hI.1
  have hb : ∀ (j : Nat) (e : AV × AV × Nat) (x : MapEntry), es[j]? = some e → xs.toList[j]? = some x → x.born = e.2.2 := fun j e x he hx => (hI.2 j e x he (by simpa using hx)).1
  generalize xs.toList = ys at hl hb
  clear hI
  induction es generalizing ys with
  | nil => cases ys with
    | nil => rfl
    | cons _ _ => simp at hl
  | cons a es ih =>
    cases ys with
    | nil => simp at hl
    | cons y ys =>
      simp only [List.all_cons]
      rw [hb 0 a y rfl rfl, ih ys (by simpa using hl) fun j e x he hx => hb (j + 1) e x (by simpa using he) (by simpa using hx)]
theorem arr_of_list {α : Type} {xs : Array α} {l : List α} (e : xs.toList = l) : xs = l.toArray := by rw [← e]
theorem anext_sound (r : R X h γ w) {x v : AV} {u : Value} {ty : TypeId} {h' : AHeap} (hx : V w (Ow X h γ) γ x u) (e : anext h x = some (v, h')) :
    ∃ y w' γ', (Instr.next u false ty).run P w = .ok y w' ∧ Goes X h γ w h' γ' w' ∧ V w' (Ow X h' γ') γ' v y := by
  have ovr : ∀ {w' : World} {O' : Nat → Prop} {γ' : Ghost}, V w' O' γ' (.tup [.bool false]) (.tuple #[.bool false]) := by
    intro w' O' γ'
    refine .tup _ _ rfl fun i c v hc hv => ?_
    match i, hc, hv with
    | 0, hc, hv => cases hc; cases hv; exact .val _
    | n + 1, hc, hv => simp at hc
  unfold anext at e
  split at e
  · rename_i id
    split at e
    · rename_i s n l hid
      obtain ⟨b, mm, rfl, hg, hw, rfl⟩ := iter_ptr r hx hid
      cases e
      exact ⟨_, w, γ, by simp [Instr.next, run_getObj_iter hw], Goes.refl r, ovr⟩
    · rename_i m since seen last hid
      obtain ⟨b, mm, rfl, hg, hw, b', hgm, rfl⟩ := iter_ptr r hx hid
      split at e
      · rename_i es c hmid
        obtain ⟨xs, hwm, hI⟩ := r.map hmid hgm
        have hlen : es.length = xs.toList.length := by simpa using hI.1
        have hbn : ∀ (j : Nat) (e : AV × AV × Nat) (x : MapEntry), es[j]? = some e → xs.toList[j]? = some x → x.born = e.2.2 := fun j e x he hx => (hI.2 j e x he (by simpa using hx)).1
        split at e
        · cases e
        · rename_i hno
          have hno' : (!seen.toArray.isEmpty && !xs.isEmpty && xs.all (fun e => decide (e.born ≥ last))) = false := by
            rw [← map_all hI (fun n => decide (n ≥ last))]
            have e1 : seen.toArray.isEmpty = seen.isEmpty := by cases seen <;> rfl
            have e2 : xs.isEmpty = es.isEmpty := by
              cases es with
              | nil => have : xs.size = 0 := by rw [← hI.1]; rfl
                       simp [Array.isEmpty, this]
              | cons a r => have : xs.size = (a :: r).length := hI.1.symm
                            simp [Array.isEmpty, this]
            rw [e1, e2]
            simpa using hno
          split at e
          · rename_i hl
            cases e
            obtain ⟨l', f1, f2, f3⟩ := map_filter hlen hbn (fun n => !seen.contains n) hl
            have hl' : l' = [] := by cases l' with
              | nil => rfl
              | cons _ _ => simp at f2
            subst hl'
            have hfil : xs.filter (fun e => !seen.toArray.contains e.born) = #[] := by
              apply arr_of_list
              rw [Array.toList_filter]
              simpa using f1
            refine ⟨_, w, γ, ?_, Goes.refl r, ovr⟩
            simp only [Instr.next, Sem.run_bind, run_getObj_iter hw, Result.andThen_ok, MapKept.run_getObj_map hwm, hno', Bool.false_eq_true, if_false, hfil]
            simp [Question.forced]
          · rename_i e0 hl
            split at e
            · rename_i hlt
              cases e
              obtain ⟨l', f1, f2, f3⟩ := map_filter hlen hbn (fun n => !seen.contains n) hl
              obtain ⟨x0, rfl⟩ : ∃ x0, l' = [x0] := by
                cases l' with
                | nil => simp at f2
                | cons x0 r => cases r with
                  | nil => exact ⟨x0, rfl⟩
                  | cons _ _ => simp at f2
              obtain ⟨i, g1, g2⟩ := f3 0 e0 x0 rfl rfl
              obtain ⟨k1, k2, k3, k4, k5⟩ := hI.2 i e0 x0 g1 (by simpa using g2)
              have hfil : xs.filter (fun e => !seen.toArray.contains e.born) = #[x0] := by
                apply arr_of_list
                rw [Array.toList_filter]
                simpa using f1
              have hold : (#[x0] : Array MapEntry).filter (fun e => decide (e.born < since)) = #[x0] := by
                simp [k1, hlt]
              have hnew : (#[x0] : Array MapEntry).filter (fun e => decide (e.born ≥ since)) = #[] := by
                simp [k1]; omega
              have g := iter_goes (m' := some m) (mm' := some b') (s' := since) (n' := seen ++ [e0.2.2]) (l' := c) r hid hg hw ⟨b', hgm, rfl⟩
              refine ⟨.tuple #[.bool true, x0.key, x0.val], _, γ, ?_, g, ?_⟩
              · simp only [Instr.next, Sem.run_bind, run_getObj_iter hw, Result.andThen_ok, MapKept.run_getObj_map hwm, hno', Bool.false_eq_true, if_false, hfil, hold, hnew]
                simp [Question.forced, run_setObj_iter _ hw, k1]
              · refine .tup _ _ rfl fun i c v hc hv => ?_
                match i, hc, hv with
                | 0, hc, hv => cases hc; cases hv; exact .val _
                | 1, hc, hv => cases hc; cases hv; exact k4.goes g
                | 2, hc, hv => cases hc; cases hv; exact k5.goes g
                | n + 3, hc, hv => simp at hc
            · cases e
          · cases e
      · cases e
    · cases e
  · cases e
theorem aentry_sound (r : R X h γ w) {x v : AV} {u : Value} (hx : V w (Ow X h γ) γ x u) (e : aentry h x = some v) :
    ∃ y, (Instr.entry u).run P w = .ok y w ∧ V w (Ow X h γ) γ v y := by
  unfold aentry at e
  split at e
  · rename_i id
    split at e
    · rename_i m since seen last hid
      obtain ⟨b, mm, rfl, hg, hw, b', hgm, rfl⟩ := iter_ptr r hx hid
      split at e
      · rename_i es c s hmid hs
        obtain ⟨xs, hwm, hI⟩ := r.map hmid hgm
        split at e
        · rename_i hc
          subst hc
          cases hf : es.find? (fun e => e.2.2 == s) with
          | none => rw [hf] at e; cases e
          | some e0 =>
            rw [hf] at e; cases e
            have hlen : es.length = xs.toList.length := by simpa using hI.1
            have key : ∀ (es : List (AV × AV × Nat)) (ys : List MapEntry), es.length = ys.length → (∀ (j : Nat) (e : AV × AV × Nat) (x : MapEntry), es[j]? = some e → ys[j]? = some x → x.born = e.2.2 ∧ V w (Ow X h γ) γ e.1 x.key ∧ V w (Ow X h γ) γ e.2.1 x.val) →
                ∀ e0, es.find? (fun e => e.2.2 == s) = some e0 → ∃ x0, ys.find? (fun e => e.born == s) = some x0 ∧ V w (Ow X h γ) γ e0.1 x0.key ∧ V w (Ow X h γ) γ e0.2.1 x0.val := by
              intro es
              induction es with
              | nil => intro ys _ _ e0 he; cases he
              | cons a es ih =>
                intro ys hl hb e0 he
                cases ys with
                | nil => simp at hl
                | cons y ys =>
                  obtain ⟨b1, b2, b3⟩ := hb 0 a y rfl rfl
                  rw [List.find?_cons] at he ⊢
                  rw [b1]
                  cases hq : (a.2.2 == s) with
                  | true => rw [hq] at he; cases he; exact ⟨y, rfl, b2, b3⟩
                  | false => rw [hq] at he; exact ih ys (by simpa using hl) (fun j e x he hx => hb (j + 1) e x (by simpa using he) (by simpa using hx)) e0 he
            obtain ⟨x0, g1, g2, g3⟩ := key es xs.toList hlen (fun j e x he hx => by
              obtain ⟨k1, _, _, k4, k5⟩ := hI.2 j e x he (by simpa using hx)
              exact ⟨k1, k4, k5⟩) e0 hf
            have hback : seen.toArray.back? = some s := by simpa using hs
            refine ⟨.tuple #[x0.key, x0.val], ?_, ?_⟩
            · have g1' : xs.find? (fun e => e.born == s) = some x0 := by rw [← Array.find?_toList]; exact g1
              simp [Instr.entry, run_getObj_iter hw, hback, MapKept.run_getObj_map hwm, g1']
            · refine .tup _ _ rfl fun i c v hc hv => ?_
              match i, hc, hv with
              | 0, hc, hv => cases hc; cases hv; exact g2
              | 1, hc, hv => cases hc; cases hv; exact g3
              | n + 2, hc, hv => simp at hc
        · cases e
      · cases e
    · cases e
  · cases e
end
end Go.Ab
namespace Go.Ab
section
variable {P : Program} {X : Nat → Prop} {h : AHeap} {γ : Ghost} {w : World}

def RunsTo (P : Program) (s : Sem Next) (w : World) (u : Value) (w' : World) : Prop := s.run P w = .ok (.value u) w' ∨ (s.run P w = .ok .skip w' ∧ u = undef)
theorem RunsTo.v {s : Sem Value} {u : Value} {w w' : World} (h : s.run P w = .ok u w') : RunsTo P (do pure (.value (← s))) w u w' := .inl (by simp [h])
theorem RunsTo.u {s : Sem Unit} {w w' : World} (h : s.run P w = .ok () w') : RunsTo P (do s; pure .skip) w undef w' := .inr ⟨by simp [h], rfl⟩
theorem ato_inv {x : Option AV} {h h' : AHeap} {v : AV} (e : ato x h = some (.value v h')) : x = some v ∧ h' = h := by
  unfold ato at e
  cases x with
  | none => cases e
  | some y => cases e; exact ⟨rfl, rfl⟩
theorem ato_call {x : Option AV} {h h' : AHeap} {f : FuncId} {as : List AV} (e : ato x h = some (.call f as h')) : False := by
  unfold ato at e
  cases x with
  | none => cases e
  | some y => cases e
theorem ato2_inv {x : Option (AV × AHeap)} {h' : AHeap} {v : AV} (e : ato2 x = some (.value v h')) : x = some (v, h') := by
  unfold ato2 at e
  cases x with
  | none => cases e
  | some y => cases e; rfl
theorem ato2_call {x : Option (AV × AHeap)} {h' : AHeap} {f : FuncId} {as : List AV} (e : ato2 x = some (.call f as h')) : False := by
  unfold ato2 at e
  cases x with
  | none => cases e
  | some y => cases e
theorem args_VA {O : Nat → Prop} {env : Env} {a : Act} (he : VA w O γ env a.tmps) (xs : Array Operand) : VA w O γ (xs.toList.map (oval env)) (xs.map a.eval) := by
  have := VA.of_list (w := w) (O := O) (γ := γ) (l := xs.toList) (f := oval env) (g := a.eval) fun x _ => he.oval x
  have e : (xs.toList.map a.eval).toArray = xs.map a.eval := by apply Array.ext'; simp
  rw [← e]; exact this
theorem parts_VA {O : Nat → Prop} {env : Env} {a : Act} (he : VA w O γ env a.tmps) (ps : Array (Nat × Operand)) :
    (ps.toList.map fun p => (p.1, oval env p.2)).length = (ps.map fun (i, x) => (i, a.eval x)).size ∧
    ∀ (i : Nat) (p : Nat × AV) (q : Nat × Value), (ps.toList.map fun p => (p.1, oval env p.2))[i]? = some p → (ps.map fun (i, x) => (i, a.eval x))[i]? = some q → p.1 = q.1 ∧ V w O γ p.2 q.2 := by
  refine ⟨by simp, fun i p q hp hq => ?_⟩
  simp at hp hq
  obtain ⟨a1, b1, h1, rfl⟩ := hp
  obtain ⟨a2, b2, h2, rfl⟩ := hq
  rw [h1] at h2; cases h2
  exact ⟨rfl, he.oval _⟩
theorem opt_VA {O : Nat → Prop} {env : Env} {a : Act} (he : VA w O γ env a.tmps) (x : Option Operand) :
    (∀ v, x.map (oval env) = some v → ∃ y, x.map a.eval = some y ∧ V w O γ v y) ∧ (x.map (oval env) = none → x.map a.eval = none) := by
  cases x with
  | none => exact ⟨fun v h => (by cases h), fun _ => rfl⟩
  | some x => exact ⟨fun v h => (by cases h; exact ⟨_, rfl, he.oval x⟩), fun h => (by cases h)⟩
theorem list_two {α : Type} {xs : Array α} {β : Type} {f : α → β} {a b : β} (e : xs.toList.map f = [a, b]) : ∃ x y, xs = #[x, y] ∧ f x = a ∧ f y = b := by
  cases hx : xs.toList with
  | nil => rw [hx] at e; cases e
  | cons x r =>
    rw [hx] at e
    cases r with
    | nil => cases e
    | cons y t =>
      cases t with
      | nil => cases e; exact ⟨x, y, by apply Array.ext'; simpa using hx, rfl, rfl⟩
      | cons _ _ => simp at e
theorem list_one {α : Type} {xs : Array α} {β : Type} {f : α → β} {a : β} (e : xs.toList.map f = [a]) : ∃ x, xs = #[x] ∧ f x = a := by
  cases hx : xs.toList with
  | nil => rw [hx] at e; cases e
  | cons x r =>
    rw [hx] at e
    cases r with
    | nil => cases e; exact ⟨x, by apply Array.ext'; simpa using hx, rfl⟩
    | cons y t => simp at e
theorem abuiltin_sound (r : R X h γ w) {env : Env} {a : Act} (he : VA w (Ow X h γ) γ env a.tmps) {b : Builtin} {ts : Array TypeId} {ty : TypeId} {cs : Array Bool} {xs : Array Operand} {v : AV} {h' : AHeap}
    (e : abuiltin P b ts h (xs.toList.map (oval env)) = some (v, h')) :
    ∃ u w' γ', RunsTo P (builtin b ts ty cs (xs.map a.eval)) w u w' ∧ Goes X h γ w h' γ' w' ∧ V w' (Ow X h' γ') γ' v u := by
  unfold abuiltin at e
  split at e
  · rename_i id hxs
    obtain ⟨y, rfl, hy⟩ := list_one hxs
    split at e
    · rename_i hc; obtain ⟨hts, ht⟩ := hc
      have hx := he.oval y
      rw [hy] at hx
      obtain ⟨b, hb, hg⟩ := hx.mp_form
      obtain ⟨kt, et, hu⟩ := mapT_iff ht
      unfold amlen at e
      split at e
      · rename_i es c hid
        cases e
        obtain ⟨ys, hw, hI⟩ := r.map hid hg
        refine ⟨goInt ys.size, w, γ, ?_, Goes.refl r, by rw [show (AV.int es.length) = AV.int ys.size by rw [hI.1]]; exact .val _⟩
        rw [show Array.map a.eval #[y] = #[a.eval y] by simp, hb]
        have ht0 : ts[0]? = some (argT ts 0) := by simp [argT, hts]
        exact RunsTo.v (s := Builtin.len_ ts ty #[.map (some b)]) (by simp [Builtin.len_, ht0, run_underlying hu, MapKept.run_getObj_map hw])
      · cases e
    · cases e
  · rename_i hxs
    obtain ⟨y, rfl, hy⟩ := list_one hxs
    split at e
    · rename_i hc; obtain ⟨hts, ht⟩ := hc
      have hx := he.oval y
      rw [hy] at hx
      have hb := hx.val_inv
      obtain ⟨kt, et, hu⟩ := mapT_iff ht
      cases e
      refine ⟨goInt 0, w, γ, ?_, Goes.refl r, .val _⟩
      rw [show Array.map a.eval #[y] = #[a.eval y] by simp, hb]
      have ht0 : ts[0]? = some (argT ts 0) := by simp [argT, hts]
      exact RunsTo.v (s := Builtin.len_ ts ty #[.map none]) (by simp [Builtin.len_, ht0, run_underlying hu])
    · cases e
  · rename_i x _ _ hxs
    obtain ⟨y, rfl, rfl⟩ := list_one hxs
    split at e
    · rename_i hts
      cases hl : alen P (argT ts 0) (oval env y) with
      | none => rw [hl] at e; cases e
      | some z =>
        rw [hl] at e; cases e
        obtain ⟨u, h1, h2⟩ := alen_sound (ty := ty) hts (he.oval y) hl
        refine ⟨u, w, γ, ?_, Goes.refl r, h2⟩
        rw [show Array.map a.eval #[y] = #[a.eval y] by simp]
        exact RunsTo.v h1
    · cases e
  · rename_i x k hxs
    obtain ⟨y1, y2, rfl, rfl, rfl⟩ := list_two hxs
    split at e
    · rename_i hts
      cases hl : amapDel P (argT ts 0) h (oval env y1) (oval env y2) with
      | none => rw [hl] at e; cases e
      | some h1 =>
        rw [hl] at e; cases e
        obtain ⟨w', γ', k1, k2⟩ := amapDel_sound (ty := ty) r hts (he.oval y1) (he.oval y2) hl
        refine ⟨.tuple #[], w', γ', ?_, k2, .tup [] #[] rfl fun i c v hc => by simp at hc⟩
        rw [show Array.map a.eval #[y1, y2] = #[a.eval y1, a.eval y2] by simp]
        exact RunsTo.v k1
    · cases e
  · rename_i s x hxs
    obtain ⟨y1, y2, rfl, rfl, rfl⟩ := list_two hxs
    split at e
    · rename_i hc; obtain ⟨hts, hsq⟩ := hc
      obtain ⟨u, w', γ', h1, h2, h3⟩ := aappend_sound (ty := ty) r (he.oval y1) (he.oval y2) hts hsq e
      refine ⟨u, w', γ', ?_, h2, h3⟩
      rw [show Array.map a.eval #[y1, y2] = #[a.eval y1, a.eval y2] by simp]
      exact RunsTo.v h1
    · cases e
  · rename_i d x hxs
    obtain ⟨y1, y2, rfl, rfl, rfl⟩ := list_two hxs
    split at e
    · rename_i hts
      obtain ⟨u, w', h1, h2, h3⟩ := acopy_sound (ty := ty) r (he.oval y1) (he.oval y2) hts e
      refine ⟨u, w', γ, ?_, h2, h3⟩
      rw [show Array.map a.eval #[y1, y2] = #[a.eval y1, a.eval y2] by simp]
      exact RunsTo.v h1
    · cases e
  · rename_i x rr hxs
    cases hl : afold amin2 x rr with
    | none => rw [hl] at e; cases e
    | some z =>
      rw [hl] at e; cases e
      have hva := args_VA he xs
      rw [hxs] at hva
      cases hv : (xs.map a.eval).toList with
      | nil =>
        have h1 := hva.1
        have h2 : (xs.map a.eval).size = 0 := by rw [← Array.length_toList, hv]; rfl
        rw [h2] at h1; cases h1
      | cons y t =>
        have hvl : (x :: rr).length = (y :: t).length := by rw [← hv, Array.length_toList]; exact hva.1
        have hget : ∀ (i : Nat) (b : AV) (z : Value), (x :: rr)[i]? = some b → (y :: t)[i]? = some z → V w (Ow X h γ) γ b z := fun i b z hb hz => hva.2 i b z hb (by rw [← hv] at hz; simpa using hz)
        obtain ⟨u, h1, h2⟩ := afold_sound (P := P) (f := amin2) (g := Builtin.min2) amin2_sound rr t (hget 0 _ _ rfl rfl) (by simpa using hvl) (fun i b z hb hz => hget (i + 1) b z (by simpa using hb) (by simpa using hz)) hl
        refine ⟨u, w, γ, RunsTo.v (s := Builtin.min_ ts ty (xs.map a.eval)) ?_, Goes.refl r, h2⟩
        simp only [Builtin.min_, hv]; exact h1
  · rename_i x rr hxs
    cases hl : afold amax2 x rr with
    | none => rw [hl] at e; cases e
    | some z =>
      rw [hl] at e; cases e
      have hva := args_VA he xs
      rw [hxs] at hva
      cases hv : (xs.map a.eval).toList with
      | nil =>
        have h1 := hva.1
        have h2 : (xs.map a.eval).size = 0 := by rw [← Array.length_toList, hv]; rfl
        rw [h2] at h1; cases h1
      | cons y t =>
        have hvl : (x :: rr).length = (y :: t).length := by rw [← hv, Array.length_toList]; exact hva.1
        have hget : ∀ (i : Nat) (b : AV) (z : Value), (x :: rr)[i]? = some b → (y :: t)[i]? = some z → V w (Ow X h γ) γ b z := fun i b z hb hz => hva.2 i b z hb (by rw [← hv] at hz; simpa using hz)
        obtain ⟨u, h1, h2⟩ := afold_sound (P := P) (f := amax2) (g := Builtin.max2) amax2_sound rr t (hget 0 _ _ rfl rfl) (by simpa using hvl) (fun i b z hb hz => hget (i + 1) b z (by simpa using hb) (by simpa using hz)) hl
        refine ⟨u, w, γ, RunsTo.v (s := Builtin.max_ ts ty (xs.map a.eval)) ?_, Goes.refl r, h2⟩
        simp only [Builtin.max_, hv]; exact h1
  · cases e
theorem acall1_inv {f v : AV} {args : List AV} {h' : AHeap} (e : acall1 P h f args = some (.value v h')) : False := by
  cases f with
  | clo f first caps =>
    simp only [acall1] at e
    by_cases hc : callable P f = true
    · rw [if_pos hc] at e; cases e
    · rw [if_neg hc] at e; cases e
  | _ => cases e
theorem run_callFunc {f : FuncId} (hc : callable P f = true) (args : Array Value) : (callFunc f args).run P w = .ok (.enter f args) w := by
  unfold callable at hc
  split at hc
  · rename_i fn hfn
    simp only [Bool.and_eq_true, bne_iff_ne, ne_eq] at hc
    cases hb : fn.body with
    | none => rw [hb] at hc; simp at hc
    | some c => simp [callFunc, hfn, hc.2, hb]
  · cases hc
theorem acall1_sound {env : Env} {a : Act} (he : VA w (Ow X h γ) γ env a.tmps) {o : Oper} {c : Call} {fo : Operand} {f : FuncId} {args : List AV} {h' : AHeap} (ho : o.op = .call c) (hcal : c.callee = .value fo)
    (e : acall1 P h (oval env fo) (c.args.toList.map (oval env)) = some (.call f args h')) :
    h' = h ∧ callable P f = true ∧ ∃ vs, (execOp a.eval o).run P w = .ok (.enter f vs) w ∧ VA w (Ow X h γ) γ args vs := by
  unfold acall1 at e
  split at e
  · rename_i f' first caps hf
    split at e
    · rename_i hc
      cases e
      have hv := he.oval fo
      rw [hf] at hv
      generalize hu : a.eval fo = u at hv
      cases hv with
      | clo f first caps fs cs hfl hcl hvf hvc =>
        refine ⟨rfl, hc, fs ++ c.args.map a.eval ++ cs, ?_, (VA.append ⟨hfl, hvf⟩ (args_VA he c.args)).append ⟨hcl, hvc⟩⟩
        simp only [execOp, ho, resolve, hcal, hu, Deferred.ofValue, Sem.run_bind, Sem.run_pure, Result.andThen_ok, invoke]
        exact run_callFunc hc _
    · cases e
  · cases e
theorem eqIn_slc (d : Nat) {t el : TypeId} (hu : P.underlying t = some (.slice el)) (p : Option Addr) (l c : Nat) : (Op.equalIn (d + 1) t (.slice p l c) (.slice none 0 0)).run P w = .ok p.isNone w := by
  cases p <;> simp [Op.equalIn, run_underlying hu]
theorem anilS_sound {O : Nat → Prop} {a : Act} {op : BinOp} {t : TypeId} {x y : Operand} {b v : AV} {u : Value} (hn : isNilS y = true) (hx : V w O γ b u) (e : anilS P op t b = some v) :
    ∃ r, (do eqGuard op t x y u (a.eval y); binOp op t u (a.eval y) : Sem Value).run P w = .ok r w ∧ V w O γ v r := by
  have hy : a.eval y = .slice none 0 0 := by
    unfold isNilS at hn
    split at hn
    · rfl
    · cases hn
  rw [hy]
  unfold anilS at e
  split at e
  · rename_i ht
    obtain ⟨el, hu⟩ : ∃ el, P.underlying t = some (.slice el) := by
      unfold isSliceT at ht; split at ht
      · exact ⟨_, by assumption⟩
      · cases ht
    have fin : ∀ {p : Option Addr} {l c : Nat}, u = .slice p l c → aeqb op p.isNone = some v → ∃ r, (do eqGuard op t x y u (.slice none 0 0); binOp op t u (.slice none 0 0) : Sem Value).run P w = .ok r w ∧ V w O γ v r := by
      rintro p l c rfl e
      obtain ⟨r, h1, h2⟩ := run_eq_of (P := P) (w := w) (γ := γ) (O := O) (op := op) (t := t) (x := .slice p l c) (y := .slice none 0 0) (b := p.isNone) (eqIn_slc 9999 hu p l c) rfl rfl e
      exact ⟨r, by simp only [Sem.run_bind, eqGuard_ok (P := P) (w := w) (op := op) (t := t) (x := x) (y := y) (a := .slice p l c) (b := .slice none 0 0) (.inl (by simp)) (.inl (by simp)), Result.andThen_ok, h1], h2⟩
    split at e
    · cases hx.val_inv; exact fin (p := none) rfl e
    · cases hx with
      | slc _ _ b o cap k vals _ _ _ _ _ => exact fin (p := some _) rfl e
    · cases hx with
      | arr _ _ _ _ _ b o cap o' _ _ _ _ => exact fin (p := some _) rfl e
    · cases hx with
      | emp a cap => exact fin (p := some _) rfl e
    · cases e
  · cases e
theorem op_value (r : R X h γ w) {env : Env} {a : Act} (he : VA w (Ow X h γ) γ env a.tmps) {o : Oper} {v : AV} {h' : AHeap} (e : aop P env h o = some (.value v h')) :
    ∃ u w' γ', RunsTo P (execOp a.eval o) w u w' ∧ Goes X h γ w h' γ' w' ∧ V w' (Ow X h' γ') γ' v u := by
  unfold aop at e
  cases hop : o.op with
  | move x => simp only [hop] at e; cases e; exact ⟨_, w, γ, .inl (by simp [execOp, hop]), Goes.refl r, he.oval x⟩
  | assign x => simp only [hop] at e; cases e; exact ⟨_, w, γ, .inl (by simp [execOp, hop]), Goes.refl r, he.oval x⟩
  | pick c x y =>
    simp only [hop] at e
    obtain ⟨e', rfl⟩ := ato_inv e
    replace e := e'
    unfold apick at e
    split at e
    · rename_i b hb
      have hv := he.oval c
      rw [hb] at hv
      have hc := hv.val_inv
      cases e
      cases b with
      | true => exact ⟨_, w, γ, .inl (by simp [execOp, hop, hc, Go.asBool]), Goes.refl r, he.oval x⟩
      | false => exact ⟨_, w, γ, .inl (by simp [execOp, hop, hc, Go.asBool]), Goes.refl r, he.oval y⟩
    · cases e
  | alloc t =>
    simp only [hop] at e
    split at e
    · rename_i z hz
      cases e
      obtain ⟨i, zv, hi, hzero, rfl, hok, hcells⟩ := tzero_all hz
      obtain ⟨w', γ', h1, h2, h3⟩ := box_goes (P := P) r (ofVal_V zv hcells) hok t
      refine ⟨_, w', γ', ?_, h2, h3⟩
      have : (execOp a.eval o) = (do pure (.value (← Instr.alloc t true (.tuple #[])))) := by simp [execOp, hop]
      rw [this]
      exact RunsTo.v (by simp [Instr.alloc, run_zeroValue hi hzero, h1])
    · cases e
  | box t x =>
    simp only [hop] at e
    split at e
    · rename_i hk
      cases e
      obtain ⟨w', γ', h1, h2, h3⟩ := box_goes (P := P) r (he.oval x) hk t
      refine ⟨_, w', γ', ?_, h2, h3⟩
      have : (execOp a.eval o) = (do pure (.value (← Instr.box t (a.eval x)))) := by simp [execOp, hop]
      rw [this]
      exact RunsTo.v (by simp [Instr.box, h1])
    · cases e
  | build t ps =>
    simp only [hop] at e
    obtain ⟨e', rfl⟩ := ato_inv e
    replace e := e'
    obtain ⟨u, h1, h2⟩ := abuild_sound (parts_VA he ps).1 (parts_VA he ps).2 e
    refine ⟨u, w, γ, ?_, Goes.refl r, h2⟩
    have : (execOp a.eval o) = (do pure (.value (← Instr.build t (ps.map fun (i, x) => (i, a.eval x))))) := by simp [execOp, hop]
    rw [this]; exact RunsTo.v h1
  | buildSlice t n ps =>
    simp only [hop] at e
    have this : (execOp a.eval o) = (do pure (.value (← Instr.buildSlice t n (ps.map fun (i, x) => (i, a.eval x))))) := by simp [execOp, hop]
    split at e
    · have e := ato2_inv e
      obtain ⟨u, w', γ', h1, h2, h3⟩ := abuildOwn_sound r (parts_VA he ps).1 (parts_VA he ps).2 e
      refine ⟨u, w', γ', ?_, h2, h3⟩
      rw [this]; exact RunsTo.v h1
    · obtain ⟨e', rfl⟩ := ato_inv e
      replace e := e'
      obtain ⟨u, w', h1, h2, h3⟩ := abuildSlice_sound r (parts_VA he ps).1 (parts_VA he ps).2 e
      refine ⟨u, w', γ, ?_, h2, h3⟩
      rw [this]; exact RunsTo.v h1
  | load t x =>
    simp only [hop] at e
    obtain ⟨e', rfl⟩ := ato_inv e
    replace e := e'
    obtain ⟨u, h1, h2⟩ := aload_sound r (he.oval x) e
    refine ⟨u, w, γ, ?_, Goes.refl r, h2⟩
    have : (execOp a.eval o) = (do pure (.value (← Instr.loadAt t (a.eval x)))) := by simp [execOp, hop]
    rw [this]; exact RunsTo.v h1
  | store t x y =>
    simp only [hop] at e
    cases hs : astore P t h (oval env x) (oval env y) with
    | none => rw [hs] at e; cases e
    | some h2 =>
      rw [hs] at e; cases e
      obtain ⟨w', h1, h2⟩ := astore_sound r (he.oval x) (he.oval y) hs
      refine ⟨undef, w', γ, ?_, h2, .val _⟩
      have : (execOp a.eval o) = (do Instr.storeAt t (a.eval x) (a.eval y); pure .skip) := by simp [execOp, hop]
      rw [this]; exact RunsTo.u h1
  | nilCheck x =>
    simp only [hop] at e
    obtain ⟨e', rfl⟩ := ato_inv e
    replace e := e'
    have hv := he.oval x
    generalize oval env x = av at hv e
    generalize hu : a.eval x = u at hv
    refine ⟨u, w, γ, .inl ?_, Goes.refl r, ?_⟩
    · cases hv <;> simp [anil] at e <;> simp [execOp, hop, hu]
    · cases av <;> simp [anil] at e <;> subst e <;> exact hv
  | binOp op t x y t' =>
    simp only [hop] at e
    obtain ⟨e', rfl⟩ := ato_inv e
    replace e := e'
    have key : ∃ u, (do eqGuard op t x y (a.eval x) (a.eval y); binOp op t (a.eval x) (a.eval y) : Sem Value).run P w = .ok u w ∧ V w (Ow X h' γ) γ v u := by
      split at e
      · rename_i hn; exact anilS_sound hn (he.oval x) e
      · exact abin_sound (x := x) (y := y) (he.oval x) (he.oval y) e
    obtain ⟨u, h1, h2⟩ := key
    refine ⟨u, w, γ, ?_, Goes.refl r, h2⟩
    have : (execOp a.eval o) = (do pure (.value (← (do eqGuard op t x y (a.eval x) (a.eval y); binOp op t (a.eval x) (a.eval y))))) := by simp [execOp, hop]
    rw [this]; exact RunsTo.v h1
  | unOp op t x =>
    simp only [hop] at e
    obtain ⟨e', rfl⟩ := ato_inv e
    replace e := e'
    obtain ⟨u, h1, h2⟩ := aun_sound (he.oval x) e
    refine ⟨u, w, γ, ?_, Goes.refl r, h2⟩
    have : (execOp a.eval o) = (do pure (.value (← Op.unary op (a.eval x)))) := by simp [execOp, hop]
    rw [this]; exact RunsTo.v h1
  | convert s d x =>
    simp only [hop] at e
    have e := ato2_inv e
    obtain ⟨u, w', γ', h1, h2, h3⟩ := aconvert_sound r (he.oval x) e
    refine ⟨u, w', γ', ?_, h2, h3⟩
    have : (execOp a.eval o) = (do pure (.value (← convert s d (a.eval x)))) := by simp [execOp, hop]
    rw [this]; exact RunsTo.v h1
  | makeFunc fn first caps =>
    cases fn with
    | func f =>
      simp only [hop] at e; cases e
      refine ⟨_, w, γ, .inl ?_, Goes.refl r, .clo f _ _ _ _ (args_VA he first).1 (args_VA he caps).1 (args_VA he first).2 (args_VA he caps).2⟩
      simp [execOp, hop, Instr.makeFunc]
    | _ => simp only [hop] at e; cases e
  | makeSlice t l c =>
    simp only [hop] at e
    have e := ato2_inv e
    obtain ⟨u, w', γ', h1, h2, h3⟩ := amake_sound r (he.oval l) (he.oval c) e
    refine ⟨u, w', γ', ?_, h2, h3⟩
    have : (execOp a.eval o) = (do pure (.value (← Instr.makeSlice t (a.eval l) (a.eval c)))) := by simp [execOp, hop]
    rw [this]; exact RunsTo.v h1
  | slice t x lo hi mx =>
    simp only [hop] at e
    obtain ⟨e', rfl⟩ := ato_inv e
    replace e := e'
    obtain ⟨u, h1, h2⟩ := asliceAt_sound r (he.oval x) (opt_VA he lo).1 (opt_VA he lo).2 (opt_VA he hi).1 (opt_VA he hi).2 (opt_VA he mx).1 (opt_VA he mx).2 e
    refine ⟨u, w, γ, ?_, Goes.refl r, h2⟩
    have : (execOp a.eval o) = (do pure (.value (← Instr.sliceAt t (a.eval x) (lo.map a.eval) (hi.map a.eval) (mx.map a.eval)))) := by simp [execOp, hop]
    rw [this]; exact RunsTo.v h1
  | fieldAddr s x f =>
    simp only [hop] at e
    obtain ⟨e', rfl⟩ := ato_inv e
    replace e := e'
    obtain ⟨u, h1, h2⟩ := afieldAddr_sound (he.oval x) e
    refine ⟨u, w, γ, ?_, Goes.refl r, h2⟩
    have : (execOp a.eval o) = (do pure (.value (← Instr.fieldAt s (a.eval x) f))) := by simp [execOp, hop]
    rw [this]; exact RunsTo.v h1
  | field s x f =>
    simp only [hop] at e
    obtain ⟨e', rfl⟩ := ato_inv e
    replace e := e'
    obtain ⟨u, h1, h2⟩ := afield_sound (he.oval x) e
    refine ⟨u, w, γ, ?_, Goes.refl r, h2⟩
    have : (execOp a.eval o) = (do pure (.value (← Instr.field s (a.eval x) f))) := by simp [execOp, hop]
    rw [this]; exact RunsTo.v h1
  | indexAddr t x i =>
    simp only [hop] at e
    obtain ⟨e', rfl⟩ := ato_inv e
    replace e := e'
    obtain ⟨u, h1, h2⟩ := aindexAddr_sound (he.oval x) (he.oval i) e
    refine ⟨u, w, γ, ?_, Goes.refl r, h2⟩
    have : (execOp a.eval o) = (do pure (.value (← Instr.indexAt t (a.eval x) (a.eval i)))) := by simp [execOp, hop]
    rw [this]; exact RunsTo.v h1
  | index t x i =>
    simp only [hop] at e
    obtain ⟨e', rfl⟩ := ato_inv e
    replace e := e'
    obtain ⟨u, h1, h2⟩ := aindex_sound (he.oval x) (he.oval i) e
    refine ⟨u, w, γ, ?_, Goes.refl r, h2⟩
    have : (execOp a.eval o) = (do pure (.value (← Instr.index t (a.eval x) (a.eval i)))) := by simp [execOp, hop]
    rw [this]; exact RunsTo.v h1
  | extract t i =>
    simp only [hop] at e
    split at e
    · rename_i vs hvs
      obtain ⟨e', rfl⟩ := ato_inv e
      replace e := e'
      have hv := he.oval t
      rw [hvs] at hv
      generalize hu : a.eval t = u at hv
      cases hv with
      | tup cs us hl hvv =>
        have hlt : i < vs.length := (List.getElem?_eq_some_iff.1 e).1
        have hlt' : i < us.size := hl ▸ hlt
        refine ⟨us[i], w, γ, .inl ?_, Goes.refl r, hvv i _ _ e (by simp [hlt'])⟩
        simp [execOp, hop, hu, Instr.extract, hlt']
    · cases e
  | call c =>
    simp only [hop] at e
    split at e
    · exact (acall1_inv e).elim
    · rename_i b hb
      have e := ato2_inv e
      have : ∃ cs, execOp a.eval o = builtin b c.argTypes o.type cs (c.args.map a.eval) := ⟨_, by simp only [execOp, hop, resolve, hb]; rfl⟩
      obtain ⟨cs, hcs⟩ := this
      obtain ⟨u, w', γ', h1, h2, h3⟩ := abuiltin_sound (ty := o.type) (cs := cs) r he e
      exact ⟨u, w', γ', by rw [hcs]; exact h1, h2, h3⟩
    · cases e
  | makeMap t rsv =>
    cases rsv with
    | some _ => simp only [hop] at e; cases e
    | none =>
      simp only [hop] at e
      split at e
      · cases e
        refine ⟨.map (some w.heap.size), _, _, ?_, makeMap_goes r, .mp _ _ (by simp [Ghost.put])⟩
        have : (execOp a.eval o) = (do pure (.value (← Instr.makeMap t none))) := by simp [execOp, hop]
        rw [this]; exact RunsTo.v (by simp [Instr.makeMap])
      · cases e
  | lookup t x k ok =>
    simp only [hop] at e
    obtain ⟨e', rfl⟩ := ato_inv e
    obtain ⟨u, h1, h2⟩ := alookup_sound r (he.oval x) (he.oval k) e'
    refine ⟨u, w, γ, ?_, Goes.refl r, h2⟩
    have : (execOp a.eval o) = (do pure (.value (← Instr.lookup t (a.eval x) (a.eval k) ok))) := by simp [execOp, hop]
    rw [this]; exact RunsTo.v h1
  | mapUpdate t x k y =>
    simp only [hop] at e
    cases hs : amapPut P t h (oval env x) (oval env k) (oval env y) with
    | none => rw [hs] at e; cases e
    | some h1 =>
      rw [hs] at e; cases e
      obtain ⟨w', γ', k1, k2⟩ := amapPut_sound r (he.oval x) (he.oval k) (he.oval y) hs
      refine ⟨undef, w', γ', ?_, k2, .val _⟩
      have : (execOp a.eval o) = (do Instr.mapUpdate t (a.eval x) (a.eval k) (a.eval y); pure .skip) := by simp [execOp, hop]
      rw [this]; exact RunsTo.u k1
  | insert t x k y =>
    simp only [hop] at e
    cases hs : amapPut P t h (oval env x) (oval env k) (oval env y) with
    | none => rw [hs] at e; cases e
    | some h1 =>
      rw [hs] at e; cases e
      obtain ⟨w', γ', k1, k2⟩ := amapPut_sound r (he.oval x) (he.oval k) (he.oval y) hs
      refine ⟨undef, w', γ', ?_, k2, .val _⟩
      have : (execOp a.eval o) = (do Instr.mapUpdate t (a.eval x) (a.eval k) (a.eval y); pure .skip) := by simp [execOp, hop]
      rw [this]; exact RunsTo.u k1
  | mapEntry t x k =>
    simp only [hop] at e
    have e := ato2_inv e
    obtain ⟨u, w', γ', h1, h2, h3⟩ := amapEntry_sound r (he.oval x) (he.oval k) e
    refine ⟨u, w', γ', ?_, h2, h3⟩
    have : (execOp a.eval o) = (do pure (.value (← Instr.mapEntry t (a.eval x) (a.eval k)))) := by simp [execOp, hop]
    rw [this]; exact RunsTo.v h1
  | entryStore t x s y =>
    simp only [hop] at e
    cases hs : aentryStore h (oval env x) (oval env s) (oval env y) with
    | none => rw [hs] at e; cases e
    | some h1 =>
      rw [hs] at e; cases e
      obtain ⟨w', γ', k1, k2⟩ := aentryStore_sound (P := P) (t := t) r (he.oval x) (he.oval s) (he.oval y) hs
      refine ⟨undef, w', γ', ?_, k2, .val _⟩
      have : (execOp a.eval o) = (do Instr.entryStore t (a.eval x) (a.eval s) (a.eval y); pure .skip) := by simp [execOp, hop]
      rw [this]; exact RunsTo.u k1
  | range t x =>
    simp only [hop] at e
    have e := ato2_inv e
    obtain ⟨u, w', γ', h1, h2, h3⟩ := arange_sound r (he.oval x) e
    refine ⟨u, w', γ', ?_, h2, h3⟩
    have : (execOp a.eval o) = (do pure (.value (← Instr.range t (a.eval x)))) := by simp [execOp, hop]
    rw [this]; exact RunsTo.v h1
  | next x s =>
    cases s with
    | true => simp only [hop] at e; cases e
    | false =>
      simp only [hop] at e
      have e := ato2_inv e
      obtain ⟨u, w', γ', h1, h2, h3⟩ := anext_sound (P := P) (ty := o.type) r (he.oval x) e
      refine ⟨u, w', γ', ?_, h2, h3⟩
      have : (execOp a.eval o) = (do pure (.value (← Instr.next (a.eval x) false o.type))) := by simp [execOp, hop]
      rw [this]; exact RunsTo.v h1
  | entry x =>
    simp only [hop] at e
    obtain ⟨e', rfl⟩ := ato_inv e
    obtain ⟨u, h1, h2⟩ := aentry_sound (P := P) r (he.oval x) e'
    refine ⟨u, w, γ, ?_, Goes.refl r, h2⟩
    have : (execOp a.eval o) = (do pure (.value (← Instr.entry (a.eval x)))) := by simp [execOp, hop]
    rw [this]; exact RunsTo.v h1
  | _ => simp only [hop] at e; cases e
theorem op_call {env : Env} {a : Act} (he : VA w (Ow X h γ) γ env a.tmps) {o : Oper} {f : FuncId} {args : List AV} {h' : AHeap} (e : aop P env h o = some (.call f args h')) :
    h' = h ∧ callable P f = true ∧ ∃ vs, (execOp a.eval o).run P w = .ok (.enter f vs) w ∧ VA w (Ow X h γ) γ args vs := by
  unfold aop at e
  cases hop : o.op with
  | call c =>
    simp only [hop] at e
    split at e
    · rename_i fo hfo; exact acall1_sound he hop hfo e
    · exact (ato2_call e).elim
    · cases e
  | alloc t => simp only [hop] at e; split at e <;> cases e
  | box t x => simp only [hop] at e; split at e <;> cases e
  | store t x y => simp only [hop] at e; cases hs : astore P t h (oval env x) (oval env y) <;> rw [hs] at e <;> cases e
  | makeMap t rsv =>
    cases rsv with
    | some _ => simp only [hop] at e; cases e
    | none => simp only [hop] at e; split at e <;> cases e
  | mapUpdate t x k y => simp only [hop] at e; cases hs : amapPut P t h (oval env x) (oval env k) (oval env y) <;> rw [hs] at e <;> cases e
  | insert t x k y => simp only [hop] at e; cases hs : amapPut P t h (oval env x) (oval env k) (oval env y) <;> rw [hs] at e <;> cases e
  | entryStore t x s y => simp only [hop] at e; cases hs : aentryStore h (oval env x) (oval env s) (oval env y) <;> rw [hs] at e <;> cases e
  | next x s => cases s <;> simp only [hop] at e <;> first | (cases e; done) | exact (ato2_call e).elim
  | extract t i =>
    simp only [hop] at e; split at e
    · exact (ato_call e).elim
    · cases e
  | makeFunc fn first caps => cases fn <;> simp only [hop] at e <;> cases e
  | buildSlice t n ps =>
    simp only [hop] at e; split at e
    · exact (ato2_call e).elim
    · exact (ato_call e).elim
  | _ => simp only [hop] at e; first | (cases e; done) | exact (ato_call e).elim | exact (ato2_call e).elim
end
end Go.Ab
namespace Go.Ab
set_option linter.unusedSimpArgs false
set_option linter.unusedVariables false
section
variable {P : Program} {X O O' : Nat → Prop} {h h' : AHeap} {γ γ' : Ghost} {w w' : World}

/-! ### What hangs on no ghost -/
theorem solidL_mem : ∀ {cs : List AV}, solidL cs = true → ∀ c ∈ cs, solid c = true
  | [], _, _, hc => by cases hc
  | x :: r, hs, c, hc => by
    simp only [solidL, Bool.and_eq_true] at hs
    rcases List.mem_cons.1 hc with rfl | hc
    · exact hs.1
    · exact solidL_mem hs.2 c hc
theorem solid_cells {e : AV} (hs : solid e = true) {j : Nat} {c : AV} (hj : e.cells[j]? = some c) : solid c = true := by
  cases e with
  | agg cs => exact solidL_mem (cs := cs) (by simpa [solid] using hs) c (List.mem_of_getElem? hj)
  | _ =>
    have hm := List.mem_of_getElem? hj
    simp only [AV.cells, List.mem_singleton] at hm
    subst hm; exact hs
theorem V.solid {a : AV} {v : Value} (hv : V w O γ a v) (hs : solid a = true) (hO : ∀ b, O' b → O b) : V w O' γ' a v := by
  induction hv with
  | unk v => exact .unk v
  | val v => exact .val v
  | agg cs vs hl hc _ ih => exact .agg cs vs hl hc fun i c v hi hu => ih i c v hi hu (solidL_mem (by simpa [Ab.solid] using hs) c (List.mem_of_getElem? hi))
  | tup cs vs hl _ ih => exact .tup cs vs hl fun i c v hi hu => ih i c v hi hu (solidL_mem (by simpa [Ab.solid] using hs) c (List.mem_of_getElem? hi))
  | slc0 full a0 => exact .slc0 full a0
  | slc full es b o cap k vals hcap hfull hk hc _ ih =>
    have hes : solidL es = true := by simp only [Ab.solid, Bool.and_eq_true] at hs; exact hs.2
    exact .slc full es b o cap k vals hcap hfull hk (fun i j e c he hj => ⟨(hc i j e c he hj).1, fun ho => (hc i j e c he hj).2.1 (hO _ ho), (hc i j e c he hj).2.2⟩)
      fun i j e c he hj => ih i j e c he hj (solid_cells (solidL_mem hes e (List.mem_of_getElem? he)) hj)
  | _ => simp [Ab.solid] at hs
theorem flat_V {a : AV} {v : Value} (hv : V w O γ a v) (hs : flat a = true) : V w' O' γ' a v := by
  have one : ∀ {c : AV} {u : Value}, flat1 c = true → V w O γ c u → V w' O' γ' c u := by
    intro c u hc hu
    cases c <;> first | (simp [flat1] at hc; done) | skip
    rw [hu.val_inv]; exact .val _
  cases hv with
  | val v => exact .val v
  | agg cs vs hl hc hv => exact .agg cs vs hl hc fun i c v hi hu => one (List.all_eq_true.1 hs c (List.mem_of_getElem? hi)) (hv i c v hi hu)
  | tup cs vs hl hv => exact .tup cs vs hl fun i c v hi hu => one (List.all_eq_true.1 hs c (List.mem_of_getElem? hi)) (hv i c v hi hu)
  | _ => simp [flat] at hs

/-! ### Quiet steps, and arrays that are handed away -/
theorem quiet_goes (r : R X h γ w) (s : Step w w' (fun _ => False)) : Goes X h γ w h γ w' := by
  have hsees : Sees w (Ow X h γ) γ w' (Ow X h γ) γ := ⟨fun _ _ _ e => e, fun b off v hO hv => ⟨hO, by rw [cell?_of_heap (s.keep b (lt_of_cell hv) id)]; exact hv⟩, s.row⟩
  exact ⟨⟨r.dom, r.gens, fun id => (r.obj id).keep hsees fun g b p e1 e2 => s.keep b (r.own_lt ⟨id, g, p, e2, e1⟩) (fun e => e), r.inj, r.apart, fun b hb => Nat.lt_of_lt_of_le (r.xin b hb) s.size, r.dd⟩,
    fun _ _ _ e => e, ⟨s.os, s.tape, s.output, s.size, fun b hb _ => s.keep b hb (fun e => e), s.row⟩, fun _ _ e => e⟩
theorem own_frz1 {id b : Nat} (ho : Own (frz1 h id) γ b) : Own h γ b := by
  unfold frz1 at ho
  split at ho
  · rename_i k es g hid
    obtain ⟨i, g', p, e1, e2⟩ := ho
    by_cases hi : id = i
    · subst hi
      have hl : id < h.length := hget_lt hid (by simp)
      rw [hget_set_eq hl] at e1; cases e1
    · rw [hget_set_ne hi] at e1
      exact ⟨i, g', p, e1, e2⟩
  · exact ho
theorem own_frzAll {b : Nat} : ∀ (ids : List Nat) {h : AHeap}, Own (frzAll h ids) γ b → Own h γ b
  | [], _, ho => ho
  | id :: r, _, ho => own_frz1 (own_frzAll r ho)
theorem frz1_R {id : Nat} (r : R X h γ w) : R X (frz1 h id) γ w := by
  unfold frz1
  split
  · rename_i k es g hid
    have hl : id < h.length := hget_lt hid (by simp)
    have hsub : ∀ b, Own (h.set id (.frz k es g)) γ b → Own h γ b := by
      rintro b ⟨i, g', p, e1, e2⟩
      by_cases hi : id = i
      · subst hi; rw [hget_set_eq hl] at e1; cases e1
      · rw [hget_set_ne hi] at e1; exact ⟨i, g', p, e1, e2⟩
    have hsees : Sees w (Ow X h γ) γ w (Ow X (h.set id (.frz k es g)) γ) γ :=
      ⟨fun _ _ _ e => e, fun b off v hO hv => ⟨fun ho => hO (ho.imp (fun e => e) (hsub b)), hv⟩, fun _ c _ z hh => ⟨c, z, hh, rfl⟩⟩
    have hobj := r.obj id
    rw [hid] at hobj
    obtain ⟨b, o, hg, hf, hr⟩ := hobj
    refine ⟨fun i g' p e => by simpa using r.dom i g' p e, fun i k' es' g1 g' p e1 e2 => ?_, fun i => ?_, fun i i' g1 g2 b' p p' e1 e2 e3 e4 => ?_, fun b' ho => r.apart b' (hsub b' ho), r.xin, fun i g' p e => ?_⟩
    · by_cases hi : id = i
      · subst hi; rw [hget_set_eq hl] at e1; cases e1
      · rw [hget_set_ne hi] at e1; exact r.gens i k' es' g1 g' p e1 e2
    · by_cases hi : id = i
      · subst hi
        rw [hget_set_eq hl]
        refine ⟨b, o, hg, hr.mono hsees fun _ => rfl, fun _ _ _ _ _ _ ho => ?_⟩
        rcases ho with hx | ⟨i, g', p, e1, e2⟩
        · exact r.apart b ⟨id, g, o, by rw [hid]; rfl, hg⟩ hx
        · by_cases hi : id = i
          · subst hi; rw [hget_set_eq hl] at e1; cases e1
          · rw [hget_set_ne hi] at e1
            exact hi (r.inj _ _ _ _ _ _ _ (by rw [hid]; rfl) hg e1 e2)
      · rw [hget_set_ne hi]
        exact (r.obj i).keep hsees fun _ _ _ _ _ => rfl
    · by_cases hi : id = i
      · subst hi; rw [hget_set_eq hl] at e1; cases e1
      · by_cases hi' : id = i'
        · subst hi'; rw [hget_set_eq hl] at e3; cases e3
        · rw [hget_set_ne hi] at e1; rw [hget_set_ne hi'] at e3
          exact r.inj _ _ _ _ _ _ _ e1 e2 e3 e4
    · by_cases hi : id = i
      · subst hi; rw [hget_set_eq hl]; simp
      · rw [hget_set_ne hi]; exact r.dd i g' p e
  · exact r
theorem frzAll_R : ∀ (ids : List Nat) {h : AHeap}, R X h γ w → R X (frzAll h ids) γ w
  | [], _, r => r
  | _ :: l, _, r => frzAll_R l (frz1_R r)
theorem frzAll_goes (r : R X h γ w) (ids : List Nat) : Goes X h γ w (frzAll h ids) γ w :=
  ⟨frzAll_R ids r, fun _ _ _ e => e, Step.refl _ _, fun _ _ ho => own_frzAll ids ho⟩
theorem hget_frz1_self {id : Nat} {k g : Nat} {es : List AV} (hid : hget h id = .arr k es g) : hget (frz1 h id) id = .frz k es g := by
  unfold frz1; rw [hid]; exact hget_set_eq (hget_lt hid (by simp))
theorem hget_frz1_frz {id i : Nat} {k g : Nat} {es : List AV} (hid : hget h i = .frz k es g) : hget (frz1 h id) i = .frz k es g := by
  unfold frz1
  split
  · rename_i k' es' g' h1
    by_cases hi : id = i
    · subst hi; rw [h1] at hid; cases hid
    · rw [hget_set_ne hi]; exact hid
  · exact hid
theorem hget_frzAll_frz {i : Nat} {k g : Nat} {es : List AV} : ∀ (ids : List Nat) {h : AHeap}, hget h i = .frz k es g → hget (frzAll h ids) i = .frz k es g
  | [], _, e => e
  | _ :: r, _, e => hget_frzAll_frz r (hget_frz1_frz e)
theorem hget_frz1_ne {id i : Nat} (hi : id ≠ i) : hget (frz1 h id) i = hget h i := by
  unfold frz1; split
  · exact hget_set_ne hi
  · rfl
theorem hget_frzAll_mem {i : Nat} {k g : Nat} {es : List AV} : ∀ (ids : List Nat) {h : AHeap}, i ∈ ids → hget h i = .arr k es g → hget (frzAll h ids) i = .frz k es g
  | [], _, hi, _ => by cases hi
  | id :: r, h, hi, e => by
    by_cases he : id = i
    · subst he; exact hget_frzAll_frz r (hget_frz1_self e)
    · rcases List.mem_cons.1 hi with rfl | hi
      · exact absurd rfl he
      · exact hget_frzAll_mem r hi (by rw [hget_frz1_ne he]; exact e)
theorem frz_not_own (r : R X h γ w) {ids : List Nat} {i k g b o : Nat} {es : List AV} (hi : i ∈ ids) (hid : hget h i = .arr k es g) (hg : γ i g = some (b, o)) : ¬ Ow X (frzAll h ids) γ b := by
  rintro (hx | ho)
  · exact r.apart b ⟨i, g, o, by rw [hid]; rfl, hg⟩ hx
  · have r' := frzAll_R ids r
    obtain ⟨i', g', p, e1, e2⟩ := ho
    have e3 := hget_frzAll_mem ids hi hid
    -- in the old memory both own the block
    have ho' : Own h γ b := own_frzAll ids ⟨i', g', p, e1, e2⟩
    have back : ∀ (ids : List Nat) {h : AHeap}, ogen (hget (frzAll h ids) i') = some g' → ogen (hget h i') = some g' := by
      intro ids
      induction ids with
      | nil => intro h e; exact e
      | cons id r ih =>
        intro h e
        have e := ih e
        unfold frz1 at e
        split at e
        · rename_i k' es' g2 h1
          by_cases hne : id = i'
          · subst hne; rw [hget_set_eq (hget_lt h1 (by simp))] at e; cases e
          · rw [hget_set_ne hne] at e; exact e
        · exact e
    have e1' := back ids e1
    have : i' = i := r.inj _ _ _ _ _ _ _ e1' e2 (by rw [hid]; rfl) hg
    subst this
    rw [e3] at e1; cases e1

/-! ### Values as ones that nobody writes any more -/
theorem exp1_okVal {d : Nat} {a a' : AV} {ids : List Nat} (e : exp1 h d a = some (a', ids)) (hk : okVal a = true) : okVal a' = true := by
  cases d with
  | zero =>
    simp only [exp1] at e
    split at e
    · cases e; exact hk
    · cases e
  | succ d =>
    simp only [exp1] at e
    split at e
    · cases e; exact hk
    · split at e
      · cases hx : expL (exp1 h d) _ <;> rw [hx] at e <;> cases e; rfl
      · simp [okVal] at hk
      · cases hx : expL (exp1 h d) _ <;> rw [hx] at e <;> cases e; rfl
      · split at e
        · cases hx : expL (exp1 h d) _ <;> rw [hx] at e <;> cases e; rfl
        · cases e
      · cases e; rfl
      · cases e
theorem exp1_isCell {d : Nat} {a a' : AV} {ids : List Nat} (e : exp1 h d a = some (a', ids)) (hk : isCell a = true) : isCell a' = true := by
  cases d with
  | zero =>
    simp only [exp1] at e
    split at e
    · cases e; exact hk
    · cases e
  | succ d =>
    simp only [exp1] at e
    split at e
    · cases e; exact hk
    · split at e
      · simp [isCell] at hk
      · simp [isCell] at hk
      · cases hx : expL (exp1 h d) _ <;> rw [hx] at e <;> cases e; rfl
      · split at e
        · cases hx : expL (exp1 h d) _ <;> rw [hx] at e <;> cases e; rfl
        · cases e
      · cases e; rfl
      · cases e
theorem expL_inv {f : AV → Option (AV × List Nat)} : ∀ {l l' : List AV} {ids : List Nat}, expL f l = some (l', ids) →
    l'.length = l.length ∧ (∀ (i : Nat) (x : AV), l[i]? = some x → ∃ y js, f x = some (y, js) ∧ l'[i]? = some y ∧ ∀ j ∈ js, j ∈ ids)
  | [], l', ids, e => by cases e; exact ⟨rfl, fun i x hx => by simp at hx⟩
  | x :: r, l', ids, e => by
    unfold expL at e
    split at e
    · rename_i y i0 l1 j0 h1 h2
      cases e
      obtain ⟨a1, a2⟩ := expL_inv h2
      refine ⟨by simp [a1], fun i z hz => ?_⟩
      cases i with
      | zero => cases hz; exact ⟨y, i0, h1, rfl, fun j hj => List.mem_append_left _ hj⟩
      | succ n =>
        obtain ⟨y', js, b1, b2, b3⟩ := a2 n z (by simpa using hz)
        exact ⟨y', js, b1, by simpa using b2, fun j hj => List.mem_append_right _ (b3 j hj)⟩
    · cases e
theorem elem_value {e : AV} {k : Nat} {vals : Nat → Value} (hk : okVal e = true) (hl : e.cells.length = k) (hc : ∀ (j : Nat) (c : AV), e.cells[j]? = some c → isCell c = true ∧ V w O γ c (vals j)) :
    ∃ u, V w O γ e u ∧ ∀ j, j < k → u.cells[j]? = some (vals j) := by
  cases e with
  | agg cs =>
    refine ⟨.agg ((List.range k).map vals).toArray, .agg cs _ (by have : cs.length = k := hl; simpa using this) (fun i c hi => (hc i c hi).1) (fun i c v hi hu => ?_), fun j hj => by simp [Value.cells, hj]⟩
    have hi' : i < k := by have := (List.getElem?_eq_some_iff.1 hi).1; have hl' : cs.length = k := hl; omega
    simp [hi'] at hu; subst hu
    exact (hc i c hi).2
  | tup _ => simp [okVal] at hk
  | _ =>
    have hk1 : k = 1 := by rw [← hl]; rfl
    subst hk1
    have h0 := hc 0 _ rfl
    refine ⟨vals 0, h0.2, fun j hj => ?_⟩
    obtain rfl : j = 0 := by omega
    rw [(h0.2.cell_one h0.1).2.1]; rfl
theorem slc_exp {f : AV → Option (AV × List Nat)} {es es' : List AV} {ids : List Nat} {b o cap k : Nat} {vals : Nat → Nat → Value} (he : expL f es = some (es', ids)) (hcap : es.length ≤ cap)
    (hk : ∀ (i : Nat) (e : AV), es[i]? = some e → okVal e = true ∧ e.cells.length = k)
    (hc : ∀ (i j : Nat) (e c : AV), es[i]? = some e → e.cells[j]? = some c → isCell c = true ∧ ¬ O' b ∧ w.cell? ⟨b, o + i * k + j, none⟩ = some (vals i j))
    (hv : ∀ (i j : Nat) (e c : AV), es[i]? = some e → e.cells[j]? = some c → V w O γ c (vals i j))
    (hf : ∀ (i : Nat) (e e' : AV) (js : List Nat) (u : Value), es[i]? = some e → f e = some (e', js) → (∀ j ∈ js, j ∈ ids) → V w O γ e u → V w O' γ' e' u)
    (hok : ∀ (e e' : AV) (js : List Nat), f e = some (e', js) → okVal e = true → okVal e' = true) :
    V w O' γ' (.slc false es') (.slice (some ⟨b, o, none⟩) es.length cap) := by
  obtain ⟨hl, hmap⟩ := expL_inv he
  have key : ∀ (i : Nat) (e' : AV), es'[i]? = some e' → ∃ e u, es[i]? = some e ∧ V w O' γ' e' u ∧ okVal e' = true ∧ ∀ j, j < k → u.cells[j]? = some (vals i j) := by
    intro i e' hi
    have hlt : i < es.length := by have := (List.getElem?_eq_some_iff.1 hi).1; omega
    have hei : es[i]? = some es[i] := List.getElem?_eq_getElem hlt
    obtain ⟨y, js, h1, h2, h3⟩ := hmap i _ hei
    rw [hi] at h2; cases h2
    obtain ⟨hk1, hk2⟩ := hk i _ hei
    obtain ⟨u, hu, hcu⟩ := elem_value (vals := vals i) hk1 hk2 fun j c hj => ⟨(hc i j _ c hei hj).1, hv i j _ c hei hj⟩
    exact ⟨_, u, hei, hf i _ _ js u hei h1 h3 hu, hok _ _ _ h1 hk1, hcu⟩
  rw [← hl]
  have cells : ∀ (i j : Nat) (e' c : AV), es'[i]? = some e' → e'.cells[j]? = some c → j < k ∧ isCell c = true ∧ V w O' γ' c (vals i j) ∧ ∃ e c0, es[i]? = some e ∧ e.cells[j]? = some c0 := by
    intro i j e' c hi hj
    obtain ⟨e, u, h1, h2, h3, h4⟩ := key i e' hi
    have hcv := h2.cv h3
    have hek := (hk i e h1).2
    have hul : u.cells.size = k ∨ j < u.cells.size := .inr (by rw [← hcv.1]; exact (List.getElem?_eq_some_iff.1 hj).1)
    have hjs : j < u.cells.size := by rw [← hcv.1]; exact (List.getElem?_eq_some_iff.1 hj).1
    have hjk : j < k := by
      -- the value has as many cells as the element
      have : e'.cells.length = e.cells.length := by
        obtain ⟨u0, hu0, hcu0⟩ := elem_value (vals := vals i) (hk i e h1).1 hek fun j c hj => ⟨(hc i j _ c h1 hj).1, hv i j _ c h1 hj⟩
        obtain ⟨y, js, f1, f2, f3⟩ := hmap i _ h1
        rw [hi] at f2; cases f2
        have v1 := hf i _ _ js u0 h1 f1 f3 hu0
        rw [(v1.cv h3).1, ← (hu0.cv (hk i e h1).1).1]
      rw [← hek, ← this]; exact (List.getElem?_eq_some_iff.1 hj).1
    have hje : j < e.cells.length := by omega
    exact ⟨hjk, hcv.2.1 j c hj, hcv.2.2 j c _ hj (h4 j hjk), e, e.cells[j], h1, List.getElem?_eq_getElem hje⟩
  refine .slc false es' b o cap k vals (by omega) (fun hf => by cases hf) (fun i e' hi => ?_) (fun i j e' c hi hj => ?_) (fun i j e' c hi hj => (cells i j e' c hi hj).2.2.1)
  · obtain ⟨e, u, h1, h2, h3, h4⟩ := key i e' hi
    refine ⟨h3, ?_⟩
    obtain ⟨u0, hu0, hcu0⟩ := elem_value (vals := vals i) (hk i e h1).1 (hk i e h1).2 fun j c hj => ⟨(hc i j _ c h1 hj).1, hv i j _ c h1 hj⟩
    obtain ⟨y, js, f1, f2, f3⟩ := hmap i _ h1
    rw [hi] at f2; cases f2
    have v1 := hf i _ _ js u0 h1 f1 f3 hu0
    rw [(v1.cv h3).1, ← (hu0.cv (hk i e h1).1).1]; exact (hk i e h1).2
  · obtain ⟨_, h1, _, e, c0, h2, h3⟩ := cells i j e' c hi hj
    exact ⟨h1, (hc i j e c0 h2 h3).2⟩
theorem exp1_sound (r : R X h γ w) {IDS : List Nat} (hcan : canFrz h IDS = true) : ∀ (d : Nat) {a a' : AV} {ids : List Nat} {u : Value}, exp1 h d a = some (a', ids) → (∀ j ∈ ids, j ∈ IDS) →
    V w (Ow X h γ) γ a u → V w (Ow X (frzAll h IDS) γ) γ' a' u := by
  have hO : ∀ b, Ow X (frzAll h IDS) γ b → Ow X h γ b := fun b ho => ho.imp (fun e => e) (own_frzAll IDS)
  intro d
  induction d with
  | zero =>
    intro a a' ids u e _ hv
    simp only [exp1] at e
    split at e
    · rename_i hs; cases e; exact hv.solid hs hO
    · cases e
  | succ d ih =>
    intro a a' ids u e hids hv
    simp only [exp1] at e
    split at e
    · rename_i hs; cases e; exact hv.solid hs hO
    · split at e
      · -- agg
        rename_i cs _
        cases hx : expL (exp1 h d) cs with
        | none => rw [hx] at e; cases e
        | some p =>
          rw [hx] at e; cases e
          obtain ⟨hl, hmap⟩ := expL_inv hx
          cases hv with
          | agg cs vs hl' hc hv =>
            have key : ∀ (i : Nat) (c' : AV), p.1[i]? = some c' → ∃ c js, cs[i]? = some c ∧ exp1 h d c = some (c', js) ∧ ∀ j ∈ js, j ∈ p.2 := by
              intro i c' hi
              have hlt : i < cs.length := by have := (List.getElem?_eq_some_iff.1 hi).1; omega
              obtain ⟨y, js, h1, h2, h3⟩ := hmap i _ (List.getElem?_eq_getElem hlt)
              rw [hi] at h2; cases h2
              exact ⟨_, js, List.getElem?_eq_getElem hlt, h1, h3⟩
            refine .agg _ vs (by omega) (fun i c' hi => ?_) (fun i c' v hi hu => ?_)
            · obtain ⟨c, js, h1, h2, _⟩ := key i c' hi
              exact exp1_isCell h2 (hc i c h1)
            · obtain ⟨c, js, h1, h2, h3⟩ := key i c' hi
              exact ih h2 (fun j hj => hids j (h3 j hj)) (hv i c v h1 hu)
      · -- tup
        rename_i cs _
        cases hx : expL (exp1 h d) cs with
        | none => rw [hx] at e; cases e
        | some p =>
          rw [hx] at e; cases e
          obtain ⟨hl, hmap⟩ := expL_inv hx
          cases hv with
          | tup cs vs hl' hv =>
            refine .tup _ vs (by omega) (fun i c' v hi hu => ?_)
            have hlt : i < cs.length := by have := (List.getElem?_eq_some_iff.1 hi).1; omega
            obtain ⟨y, js, h1, h2, h3⟩ := hmap i _ (List.getElem?_eq_getElem hlt)
            rw [hi] at h2; cases h2
            exact ih h1 (fun j hj => hids j (h3 j hj)) (hv i _ v (List.getElem?_eq_getElem hlt) hu)
      · -- slc
        rename_i full es _
        cases hx : expL (exp1 h d) es with
        | none => rw [hx] at e; cases e
        | some p =>
          rw [hx] at e; cases e
          cases hv with
          | slc0 full a0 => cases hx; exact .slc0 false a0
          | slc full es b o cap k vals hcap hfull hk hc hv =>
            exact slc_exp hx hcap hk (fun i j e c he hj => ⟨(hc i j e c he hj).1, fun ho => (hc i j e c he hj).2.1 (hO _ ho), (hc i j e c he hj).2.2⟩) hv
              (fun i e e' js u _ he hjs hu => ih he (fun j hj => hids j (hjs j hj)) hu) (fun e e' js he hk => exp1_okVal he hk)
      · -- arr
        rename_i id off len g k _
        split at e
        · rename_i es hview
          cases hx : expL (exp1 h d) es with
          | none => rw [hx] at e; cases e
          | some p =>
            rw [hx] at e; cases e
            have hidm : id ∈ IDS := hids id (by simp)
            have hids' : ∀ j ∈ p.2, j ∈ IDS := fun j hj => hids j (by simp [hj])
            obtain ⟨a0, cap, rfl, hcap, hh⟩ := sview_sound r hv hview
            rcases hh with rfl | ⟨b, o, k', rfl, hr⟩
            · cases hx
              cases hv with
              | arr _ _ _ _ _ b o cap o' _ _ _ _ => exact .slc false [] b o' cap 0 (fun _ _ => undef) (Nat.zero_le _) (fun h => by cases h) (fun i e hi => by simp at hi) (fun i j e c hi => by simp at hi) (fun i j e c hi => by simp at hi)
            · -- the block is nobody's
              have hnot : ∀ (i j : Nat) (e c : AV), es[i]? = some e → e.cells[j]? = some c → ¬ Ow X (frzAll h IDS) γ b := by
                intro i j e c he hj
                cases hv with
                | arr _ _ _ _ _ b o1 cap o' hg hcap' ho hrow =>
                  have hcan1 := List.all_eq_true.1 hcan id hidm
                  cases hid : hget h id with
                  | arr k1 es1 g1 =>
                    simp only [sview, hid] at hview
                    split at hview
                    · rename_i hc; obtain ⟨_, rfl, _⟩ := hc
                      exact frz_not_own r hidm hid hg
                    · cases hview
                  | frz k1 es1 g1 =>
                    simp only [sview, hid] at hview
                    split at hview
                    · rename_i hc; obtain ⟨_, rfl, _⟩ := hc
                      have hview := Option.some.inj hview
                      obtain ⟨_, hn⟩ := r.frz hid hg
                      rw [← hview] at he
                      exact fun ho => hn _ _ _ _ (take_drop_get he).2 hj (hO _ ho)
                    · cases hview
                  | vars _ => rw [hid] at hcan1; cases hcan1
                  | dead => rw [hid] at hcan1; cases hcan1
                  | map _ _ => rw [hid] at hcan1; cases hcan1
                  | iter _ _ _ _ => rw [hid] at hcan1; cases hcan1
              refine slc_exp (vals := fun i j => (w.cell? ⟨b, o + i * k' + j, none⟩).getD undef) hx hcap hr.1 (fun i j e c he hj => ?_) (fun i j e c he hj => ?_)
                (fun i e e' js u _ he hjs hu => ih he (fun j hj => hids' j (hjs j hj)) hu) (fun e e' js he hk => exp1_okVal he hk)
              · obtain ⟨h1, v, h2, h3⟩ := hr.2 i j e c he hj
                exact ⟨h1, hnot i j e c he hj, by rw [h2]; rfl⟩
              · obtain ⟨h1, v, h2, h3⟩ := hr.2 i j e c he hj
                rw [h2]; exact h3
        · cases e
      · rename_i f _
        cases e
        cases hv with
        | clo f first caps fs cs hf hc hvf hvc => exact .clo f [] [] fs cs hf hc (fun i c v hi => by simp at hi) (fun i c v hi => by simp at hi)
      · cases e
end
end Go.Ab
