/- Parts of the proof, each with its own heading: Regions in drawn order with an order of their own: allocations that hang on nothing come first, what reads may stand in no order with what turns. From what comes in, read as data, to abstract values; a law's row out of what the abstract machine answers. -/
import Derived.Test.YtncjbccjpneoiaaDoorPart5
import Derived.ProofKit
import Derived.OpenShut
import Derived.ShutString
import Derived.ChangeOld
import Derived.Below
import Derived.Carry
set_option linter.unusedSimpArgs false
set_option linter.unusedVariables false
namespace Go.Ab
set_option linter.unusedSimpArgs false
set_option linter.unusedVariables false
section
variable {P : Program} {md : FuncId → Nat} {X : Nat → Prop} {γ : Ghost} {w : World}

/-! ### Objects that are not made yet -/
theorem killAt_length (n0 : Nat) : ∀ (T : List Nat) (h : AHeap), (killAt n0 h T).length = h.length
  | [], _ => rfl
  | k :: r, h => by rw [killAt, killAt_length n0 r, List.length_set]
theorem killAt_get (n0 : Nat) : ∀ (T : List Nat) (h : AHeap) (j : Nat), (killAt n0 h T)[j]? = if j < h.length ∧ ∃ k ∈ T, j = n0 + k then some .dead else h[j]?
  | [], h, j => by simp [killAt]
  | k :: r, h, j => by
    rw [killAt, killAt_get n0 r, List.length_set]
    by_cases hj : j < h.length
    · by_cases h1 : ∃ x ∈ r, j = n0 + x
      · rw [if_pos ⟨hj, h1⟩, if_pos]
        obtain ⟨x, hx, e⟩ := h1
        exact ⟨hj, x, List.mem_cons_of_mem _ hx, e⟩
      · rw [if_neg fun c => h1 c.2]
        by_cases h2 : n0 + k = j
        · subst h2
          rw [List.getElem?_set_self hj, if_pos ⟨hj, k, List.mem_cons_self .., rfl⟩]
        · rw [List.getElem?_set_ne h2, if_neg]
          rintro ⟨_, x, hx, e⟩
          rcases List.mem_cons.1 hx with rfl | hx
          · exact h2 e.symm
          · exact h1 ⟨x, hx, e⟩
    · rw [if_neg fun c => hj c.1, if_neg fun c => hj c.1]
      rw [List.getElem?_eq_none (by simp; omega), List.getElem?_eq_none (by omega)]
theorem killAt_congr {n0 : Nat} {T T' : List Nat} (h : AHeap) (e : ∀ k, k ∈ T ↔ k ∈ T') : killAt n0 h T = killAt n0 h T' := by
  apply List.ext_getElem?
  intro j
  rw [killAt_get, killAt_get]
  have : (∃ k ∈ T, j = n0 + k) ↔ ∃ k ∈ T', j = n0 + k := ⟨fun ⟨k, a, b⟩ => ⟨k, (e k).1 a, b⟩, fun ⟨k, a, b⟩ => ⟨k, (e k).2 a, b⟩⟩
  simp only [this]
theorem filter_subs (p : Nat → Bool) : ∀ l : List Nat, l.filter p ∈ subs l
  | [] => by simp [subs]
  | k :: r => by
    have := filter_subs p r
    simp only [subs, List.mem_append, List.mem_map]
    by_cases hk : p k = true
    · rw [List.filter_cons_of_pos hk]; exact .inr ⟨_, this, rfl⟩
    · rw [List.filter_cons_of_neg hk]; exact .inl this
theorem hget_fun {h h' : AHeap} (e : ∀ i, hget h' i = hget h i) : hget h' = hget h := funext e
theorem own_ext {h h' : AHeap} (e : ∀ i, hget h' i = hget h i) : Own h' γ = Own h γ := by
  unfold Own; rw [hget_fun e]
theorem R_ext {h h' : AHeap} (e : ∀ i, hget h' i = hget h i) (hl : h.length ≤ h'.length) (r : R X h γ w) : R X h' γ w := by
  have ho := own_ext (γ := γ) e
  refine ⟨fun id g p k => Nat.lt_of_lt_of_le (r.dom id g p k) hl, ?_, ?_, ?_, ?_, r.xin, ?_⟩
  · rw [hget_fun e]; exact r.gens
  · rw [hget_fun e, ho]; exact r.obj
  · rw [hget_fun e]; exact r.inj
  · rw [ho]; exact r.apart
  · rw [hget_fun e]; exact r.dd
theorem Ow_ext {h h' : AHeap} (e : ∀ i, hget h' i = hget h i) : Ow X h' γ = Ow X h γ := by
  unfold Ow; rw [own_ext e]
theorem goes_ext {h h' : AHeap} (e : ∀ i, hget h' i = hget h i) (hl : h.length ≤ h'.length) (r : R X h γ w) : Goes X h γ w h' γ w :=
  ⟨R_ext e hl r, fun _ _ _ k => k, Step.refl _ _, fun b _ ho => by rw [own_ext e] at ho; exact ho⟩
/-! ### What stands ahead -/
theorem afterBits_mem {acc : List Nat} {Y : Nat → Prop} : ∀ (es : List Edge) (s : Nat), (∀ e ∈ es, Region.binds .any e = true → Y e.on) → (∀ e ∈ es, Region.binds .any e = true → ∀ i, (acc.getD e.on 0).testBit i = true → Y i) → (∀ i, s.testBit i = true → Y i) → ∀ i, (afterBits acc es s).testBit i = true → Y i
  | [], s, _, _, hs, i, h => hs i h
  | e :: es, s, h1, h2, hs, i, h => by
    refine afterBits_mem es (if Region.binds .any e then s ||| 2 ^ e.on ||| acc.getD e.on 0 else s) (fun x hx => h1 x (List.mem_cons_of_mem _ hx)) (fun x hx => h2 x (List.mem_cons_of_mem _ hx)) ?_ i h
    intro j hj
    split at hj
    · rename_i hbd
      simp only [Nat.testBit_or, Bool.or_eq_true, Nat.testBit_two_pow, decide_eq_true_eq] at hj
      rcases hj with (hj | hj) | hj
      · exact hs j hj
      · rw [← hj]; exact h1 e (List.mem_cons_self ..) hbd
      · exact h2 e (List.mem_cons_self ..) hbd j hj
    · exact hs j hj
theorem beforeS_closed {ops : Array Oper} {Y : Nat → Prop} (hc : Closed ops Y) : ∀ (l : List Nat) (acc : List Nat), (∀ j i, (acc.getD j 0).testBit i = true → Y j → Y i) → ∀ j i, ((beforeS ops l acc).getD j 0).testBit i = true → Y j → Y i
  | [], _, h => h
  | k :: l, acc, h => by
    refine beforeS_closed hc l _ ?_
    cases ho : ops[k]? with
    | none => exact h
    | some o =>
      intro j i hb hj
      dsimp only at hb
      rw [List.getD_eq_getElem?_getD] at hb
      by_cases hjk : k = j
      · subst hjk
        by_cases hlt : k < acc.length
        · rw [List.getElem?_set_self hlt, Option.getD_some] at hb
          exact afterBits_mem o.after.toList 0 (fun e he hbd => hc k o ho hj e (Array.mem_toList_iff.1 he) hbd) (fun e he hbd i hi => h e.on i hi (hc k o ho hj e (Array.mem_toList_iff.1 he) hbd)) (fun i hi => by simp at hi) i hb
        · rw [List.getElem?_eq_none (by rw [List.length_set]; omega)] at hb
          simp at hb
      · rw [List.getElem?_set_ne hjk, ← List.getD_eq_getElem?_getD] at hb
        exact h j i hb hj
theorem befS_closed {ops : Array Oper} {sq : List Nat} {Y : Nat → Prop} (hc : Closed ops Y) {i j : Nat} (hb : ((befS ops sq).getD j 0).testBit i = true) (hj : Y j) : Y i := by
  refine beforeS_closed hc sq _ ?_ j i hb hj
  intro j i h
  rw [List.getD_eq_getElem?_getD, List.getElem?_replicate] at h
  split at h <;> simp at h
/-! ### The order's own run -/
def opAt (ops : Array Oper) (sq : List Nat) (p : Nat) : Option Oper := (sq[p]?).bind (ops[·]?)
def BarAt (ops : Array Oper) (U : Nat → List Nat) (sq : List Nat) (r : Nat) : Prop := (U 999).isEmpty = false ∧ ∃ i o, sq[r]? = some i ∧ ops[i]? = some o ∧ isStore o = true
theorem pdB_sub {α : Type} {l : List Nat} {b : Bool} {pd : List α} {p : α} (h : p ∈ pdB l b pd) : p ∈ pd := by
  unfold pdB at h
  split at h
  · cases h
  · exact h
theorem pdB_keep {α : Type} {l : List Nat} {b : Bool} {pd : List α} (h : ¬ (l.isEmpty = false ∧ b = true)) : pdB l b pd = pd := by
  unfold pdB
  split
  · exact absurd ⟨rfl, rfl⟩ h
  · rfl
structure TraceG (P : Program) (md : FuncId → Nat) (call : CallF) (ops : Array Oper) (n0 : Nat) (U : Nat → List Nat) (sq : List Nat) (m n : Nat) (E : Nat → Env) (H : Nat → AHeap) (v : Nat → AV) : Prop where
  step : ∀ p i o, m ≤ p → p < n → sq[p]? = some i → ops[i]? = some o → E (p + 1) = aput (E p) o.dst (v p) ∧
    ((aguard ops (E p) o = some true ∧ astep P md call (E p) (H p) o = some (v p, H (p + 1)) ∧ (effOp P md o = true ∨ H (p + 1) = H p) ∧
      ((effOp P md o || readOp P o) = true → ∀ T ∈ subs (U i), astep P md call (E p) (killAt n0 (H p) T) o = some (v p, killAt n0 (H (p + 1)) T)) ∧
      (effOp P md o = true → ∀ k ∈ U i, hget (H (p + 1)) (n0 + k) = hget (H p) (n0 + k)) ∧
      (isLoad o = true → ∀ q, m ≤ q → q ≤ n → (∀ r, p < r → r < q → ¬ BarAt ops U sq r) → ∀ T ∈ subs (U i), aop P (E p) (killAt n0 (H q) T) o = some (.value (v p) (killAt n0 (H q) T)))) ∨
     (aguard ops (E p) o = some false ∧ v p = .und ∧ H (p + 1) = H p))
theorem isLoad_eff {o : Oper} (h : isLoad o = true) : effOp P md o = false := by
  unfold isLoad at h
  split at h <;> first | (rename_i e; simp [effOp, e]; done) | cases h
def TrG (P : Program) (md : FuncId → Nat) (call : CallF) (ops : Array Oper) (n0 : Nat) (U : Nat → List Nat) (sq : List Nat) (k n : Nat) (env env' : Env) (h h' : AHeap) (hs : List AHeap) (pd : Pend) : Prop :=
    ∃ (E : Nat → Env) (H : Nat → AHeap) (v : Nat → AV), E k = env ∧ H k = h ∧ E (k + n) = env' ∧ H (k + n) = h' ∧
      (∀ p i o, k ≤ p → p < k + n → sq[p]? = some i → ops[i]? = some o → E (p + 1) = aput (E p) o.dst (v p) ∧
        ((aguard ops (E p) o = some true ∧ astep P md call (E p) (H p) o = some (v p, H (p + 1)) ∧ (effOp P md o = true ∨ H (p + 1) = H p) ∧
          ((effOp P md o || readOp P o) = true → ∀ T ∈ subs (U i), astep P md call (E p) (killAt n0 (H p) T) o = some (v p, killAt n0 (H (p + 1)) T)) ∧
          (effOp P md o = true → ∀ k ∈ U i, hget (H (p + 1)) (n0 + k) = hget (H p) (n0 + k))) ∨
         (aguard ops (E p) o = some false ∧ v p = .und ∧ H (p + 1) = H p))) ∧
      (∀ p ∈ pd, ∀ q, k ≤ q → q ≤ k + n → (∀ r, k ≤ r → r < q → ¬ BarAt ops U sq r) → ∀ T ∈ subs p.2.2.2, aop P p.1 (killAt n0 (H q) T) p.2.1 = some (.value p.2.2.1 (killAt n0 (H q) T))) ∧
      (∀ p i o, k ≤ p → p < k + n → sq[p]? = some i → ops[i]? = some o → isLoad o = true → aguard ops (E p) o = some true →
        (∀ g ∈ hs, ∀ T ∈ subs (U i), aop P (E p) (killAt n0 g T) o = some (.value (v p) (killAt n0 g T))) ∧ ∀ q, k ≤ q → q ≤ k + n → (∀ r, p < r → r < q → ¬ BarAt ops U sq r) → ∀ T ∈ subs (U i), aop P (E p) (killAt n0 (H q) T) o = some (.value (v p) (killAt n0 (H q) T)))
theorem traceG_of {call : CallF} {ops : Array Oper} {n0 : Nat} {U : Nat → List Nat} {sq : List Nat} : ∀ (l : List Nat) (k : Nat) {env env' : Env} {h h' : AHeap} {hs : List AHeap} {pd : Pend}, (∀ j, l[j]? = sq[k + j]?) → h ∈ hs →
    (∀ p ∈ pd, ∀ T ∈ subs p.2.2.2, aop P p.1 (killAt n0 h T) p.2.1 = some (.value p.2.2.1 (killAt n0 h T))) → runG P md call ops n0 U l env h hs pd = some (env', h') →
    TrG P md call ops n0 U sq k l.length env env' h h' hs pd := by
  intro l
  induction l with
  | nil =>
    intro k env env' h h' hs pd _ _ hpd e
    cases e
    exact ⟨fun _ => env, fun _ => h, fun _ => .und, rfl, rfl, rfl, rfl, fun p i o h1 h2 => by simp at h2; omega, fun p hp q _ _ _ => hpd p hp, fun p i o h1 h2 => by simp at h2; omega⟩
  | cons i l ih =>
    intro k env env' h h' hs pd hl hh hpd e
    have h0 : sq[k]? = some i := by simpa using (hl 0).symm
    have hl' : ∀ j, l[j]? = sq[k + 1 + j]? := fun j => by have := hl (j + 1); simpa [Nat.add_assoc, Nat.add_comm 1 j] using this
    simp only [runG] at e
    cases ho : ops[i]? with
    | none => rw [ho] at e; cases e
    | some o =>
    rw [ho] at e
    dsimp only at e
    have go : ∀ (v0 : AV) (h1 : AHeap) (hs1 : List AHeap) (pd1 : Pend), runG P md call ops n0 U l (aput env o.dst v0) h1 hs1 pd1 = some (env', h') → (∀ g ∈ hs, g ∈ hs1) → h1 ∈ hs1 → (∀ p ∈ pdB (U 999) (isStore o) pd, p ∈ pd1) →
        (∀ p ∈ pd1, ∀ T ∈ subs p.2.2.2, aop P p.1 (killAt n0 h1 T) p.2.1 = some (.value p.2.2.1 (killAt n0 h1 T))) →
        (isLoad o = true → aguard ops env o = some true → (env, o, v0, U i) ∈ pd1 ∧ ∀ g ∈ hs, ∀ T ∈ subs (U i), aop P env (killAt n0 g T) o = some (.value v0 (killAt n0 g T))) →
        ((aguard ops env o = some true ∧ astep P md call env h o = some (v0, h1) ∧ (effOp P md o = true ∨ h1 = h) ∧
          ((effOp P md o || readOp P o) = true → ∀ T ∈ subs (U i), astep P md call env (killAt n0 h T) o = some (v0, killAt n0 h1 T)) ∧
          (effOp P md o = true → ∀ k ∈ U i, hget h1 (n0 + k) = hget h (n0 + k))) ∨
         (aguard ops env o = some false ∧ v0 = .und ∧ h1 = h)) → TrG P md call ops n0 U sq k (i :: l).length env env' h h' hs pd := by
      intro v0 h1 hs1 pd1 hrun hs12 hh1 hpd12 hpd1 hld hst
      obtain ⟨E, H, v, e1, e2, e3, e4, e5, e6, e7⟩ := ih (k + 1) hl' hh1 hpd1 hrun
      have later : ∀ p ∈ pd1, ∀ q, k + 1 ≤ q → q ≤ k + (i :: l).length → (∀ r, k + 1 ≤ r → r < q → ¬ BarAt ops U sq r) → ∀ T ∈ subs p.2.2.2, aop P p.1 (killAt n0 (H q) T) p.2.1 = some (.value p.2.2.1 (killAt n0 (H q) T)) := fun p hp q a b => e6 p hp q a (by simp only [List.length_cons] at b; omega)
      refine ⟨fun p => if p = k then env else E p, fun p => if p = k then h else H p, fun p => if p = k then v0 else v p, by simp, by simp, ?_, ?_, ?_, ?_, ?_⟩
      · simp only [List.length_cons]
        rw [if_neg (by omega), ← e3]; congr 1; omega
      · simp only [List.length_cons]
        rw [if_neg (by omega), ← e4]; congr 1; omega
      · intro p j o' h2 h3 h4 h5
        simp only [List.length_cons] at h3
        by_cases hpk : p = k
        · subst hpk
          rw [h0] at h4; cases h4
          rw [ho] at h5; cases h5
          simp only [if_true]
          rw [if_neg (by omega), if_neg (by omega), e1, e2]
          exact ⟨rfl, hst⟩
        · simp only [if_neg hpk]
          rw [if_neg (by omega), if_neg (by omega)]
          exact e5 p j o' (by omega) (by omega) h4 h5
      · intro p hp q a b hnb T hT
        by_cases hqk : q = k
        · subst hqk; simp only [if_true]; exact hpd p hp T hT
        · have hk := hnb k (Nat.le_refl _) (by omega)
          have hkeep : pdB (U 999) (isStore o) pd = pd := pdB_keep fun hb => hk ⟨hb.1, i, o, h0, ho, hb.2⟩
          simp only [if_neg hqk]; exact later p (hpd12 p (by rw [hkeep]; exact hp)) q (by omega) b (fun r h1 h2 => hnb r (by omega) h2) T hT
      · intro p j o' h2 h3 h4 h5 hlo hg
        by_cases hpk : p = k
        · subst hpk
          rw [h0] at h4; cases h4
          rw [ho] at h5; cases h5
          simp only [if_true] at hg ⊢
          obtain ⟨m1, m2⟩ := hld hlo hg
          refine ⟨m2, fun q a b hnb => ?_⟩
          by_cases hqk : q = p
          · subst hqk; simp only [if_true]; exact m2 h hh
          · simp only [if_neg hqk]; exact later _ m1 q (by omega) b (fun r h1 h2 => hnb r (by omega) h2)
        · simp only [if_neg hpk] at hg ⊢
          obtain ⟨m1, m2⟩ := e7 p j o' (by omega) (by simp only [List.length_cons] at h3; omega) h4 h5 hlo hg
          refine ⟨fun g hg2 => m1 g (hs12 g hg2), fun q a b hnb => ?_⟩
          by_cases hqk : q = k
          · subst hqk; simp only [if_true]; exact m1 h (hs12 h hh)
          · simp only [if_neg hqk]; exact m2 q (by omega) (by simp only [List.length_cons] at b; omega) hnb
    split at e
    · rename_i hw
      split at e
      · rename_i v0 h1 hst
        split at e
        · rename_i hq
          obtain ⟨q1, q2, q3, q4, q5⟩ := hq
          refine go v0 h1 _ _ e ?_ ?_ ?_ ?_ ?_ (.inl ⟨hw, hst, q1, q2, q5⟩)
          · intro g hg; split
            · exact List.mem_cons_of_mem _ hg
            · exact hg
          · split
            · exact List.mem_cons_self ..
            · rename_i hne2
              rcases q1 with q1 | q1
              · exact absurd q1 hne2
              · rw [q1]; exact hh
          · intro p hp; split
            · exact List.mem_cons_of_mem _ hp
            · exact hp
          · intro p hp
            have old : ∀ p ∈ pdB (U 999) (isStore o) pd, ∀ T ∈ subs p.2.2.2, aop P p.1 (killAt n0 h1 T) p.2.1 = some (.value p.2.2.1 (killAt n0 h1 T)) := by
              intro p hp T hT
              by_cases he : effOp P md o = true
              · exact q3 he p hp T hT
              · rcases q1 with q1 | q1
                · exact absurd q1 he
                · rw [q1]; exact hpd p (pdB_sub hp) T hT
            split at hp
            · rename_i hlo
              rcases List.mem_cons.1 hp with rfl | hp
              · have hfe := isLoad_eff (P := P) (md := md) hlo
                have : h1 = h := by rcases q1 with q1 | q1
                                    · rw [hfe] at q1; cases q1
                                    · exact q1
                rw [this]; exact q4 hlo h hh
              · exact old p hp
            · exact old p hp
          · intro hlo _
            rw [if_pos hlo]
            exact ⟨List.mem_cons_self .., q4 hlo⟩
        · cases e
      · cases e
    · rename_i hw
      exact go .und h hs _ e (fun _ x => x) hh (fun _ x => x) (fun p hp => hpd p (pdB_sub hp)) (fun _ hg => by rw [hw] at hg; cases hg) (.inr ⟨hw, rfl, rfl⟩)
    · cases e
theorem traceA_of {ops : Array Oper} {sq : List Nat} : ∀ (l : List Nat) (k : Nat) {env env' : Env} {h h' : AHeap}, (∀ j, j < l.length → l[j]? = sq[k + j]?) → (∀ i ∈ l, ∃ o, ops[i]? = some o ∧ isFreeAlloc o = true) → runA P ops l env h = some (env', h') →
    ∃ (E : Nat → Env) (v : Nat → AV) (zs : List AObj), E k = env ∧ E (k + l.length) = env' ∧ h' = h ++ zs ∧ zs.length = l.length ∧
      (∀ p i o, k ≤ p → p < k + l.length → sq[p]? = some i → ops[i]? = some o → E (p + 1) = aput (E p) o.dst (v p) ∧ v p = .ptr (h.length + (p - k)) 0 ∧ ∃ t z, o.op = .alloc t ∧ tzero P t = some z ∧ zs[p - k]? = some (.vars z.cells)) := by
  intro l
  induction l with
  | nil =>
    intro k env env' h h' _ _ e
    cases e
    exact ⟨fun _ => env, fun _ => .und, [], rfl, rfl, by simp, rfl, fun p i o h1 h2 => by simp at h2; omega⟩
  | cons i l ih =>
    intro k env env' h h' hl hfa e
    have h0 : sq[k]? = some i := by simpa using (hl 0 (by simp)).symm
    obtain ⟨o, ho, hf⟩ := hfa i (List.mem_cons_self ..)
    simp only [runA, ho] at e
    obtain ⟨t, hop⟩ : ∃ t, o.op = .alloc t := by
      unfold isFreeAlloc at hf
      split at hf
      · exact ⟨_, by assumption⟩
      · cases hf
    have hao : aop P env h o = (match tzero P t with | some z => some (.value (.ptr h.length 0) (h ++ [.vars z.cells])) | none => none) := by
      unfold aop; simp only [hop]; cases tzero P t <;> rfl
    rw [hao] at e
    cases hz : tzero P t with
    | none => rw [hz] at e; cases e
    | some z =>
      rw [hz] at e
      dsimp only at e
      obtain ⟨E, v, zs, e1, e2, e3, e4, e5⟩ := ih (k + 1) (h := h ++ [.vars z.cells]) (fun j hj => by have := hl (j + 1) (by simpa using hj); simpa [Nat.add_assoc, Nat.add_comm 1 j] using this) (fun i hi => hfa i (List.mem_cons_of_mem _ hi)) e
      refine ⟨fun p => if p = k then env else E p, fun p => if p = k then .ptr h.length 0 else v p, .vars z.cells :: zs, by simp, ?_, by simp [e3], by simp [e4], ?_⟩
      · simp only [List.length_cons]
        rw [if_neg (by omega), ← e2]; congr 1; omega
      · intro p j o' h2 h3 h4 h5
        simp only [List.length_cons] at h3
        by_cases hpk : p = k
        · subst hpk
          rw [h0] at h4; cases h4
          rw [ho] at h5; cases h5
          simp only [if_true]
          rw [if_neg (by omega), e1]
          exact ⟨rfl, by simp, t, z, hop, hz, by simp⟩
        · simp only [if_neg hpk]
          rw [if_neg (by omega)]
          obtain ⟨k1, k2, t', z', k3, k4, k5⟩ := e5 p j o' (by omega) (by omega) h4 h5
          refine ⟨k1, ?_, t', z', k3, k4, ?_⟩
          · rw [k2]; simp only [List.length_append, List.length_cons, List.length_nil]; congr 1; omega
          · rw [show p - k = (p - (k + 1)) + 1 by omega, List.getElem?_cons_succ]; exact k5
/-! ### What the order's data tell -/
structure DataG (P : Program) (md : FuncId → Nat) (ops : Array Oper) (sq : List Nat) (m : Nat) (U : Nat → List Nat) : Prop where
  len : sq.length = ops.size
  mle : m ≤ sq.length
  all : ∀ i : Nat, i < ops.size → ∃ p : Nat, sq[p]? = some i
  lt : ∀ p i : Nat, sq[p]? = some i → i < ops.size
  inj : ∀ p q i : Nat, sq[p]? = some i → sq[q]? = some i → p = q
  back : ∀ (p i : Nat) (o : Oper), sq[p]? = some i → ops[i]? = some o → ∀ e ∈ o.after, Region.binds .any e = true → ∃ q : Nat, sq[q]? = some e.on ∧ q < p
  free : ∀ (p i : Nat) (o : Oper), sq[p]? = some i → ops[i]? = some o → p < m → isFreeAlloc o = true
  slot : ∀ (p i : Nat) (o : Oper) (q j : Nat) (o' : Oper) (t : Tmp), sq[p]? = some i → ops[i]? = some o → sq[q]? = some j → ops[j]? = some o' → t ∈ tmpsOf ops o → o'.dst = some t → p = q ∨ ordT (befS ops sq) i p j q = true
  mem : ∀ (p i : Nat) (o : Oper) (q j : Nat) (o' : Oper), sq[p]? = some i → ops[i]? = some o → sq[q]? = some j → ops[j]? = some o' → m ≤ p → m ≤ q → effOp P md o = true → (effOp P md o' = true ∨ (readOp P o' = true ∧ isLoad o' = false)) → p = q ∨ ordT (befS ops sq) i p j q = true
  late : ∀ (p i : Nat) (o : Oper) (k a : Nat), sq[p]? = some i → ops[i]? = some o → m ≤ p → (effOp P md o || readOp P o) = true → k < m → sq[k]? = some a → k ∈ U i ∨ ((befS ops sq).getD i 0).testBit a = true
  bar : (U 999).isEmpty = false → ∀ (p i : Nat) (o : Oper), sq[p]? = some i → ops[i]? = some o → isStore o = true → m ≤ p → ∀ (j : Nat) (o' : Oper), ops[j]? = some o' → isLoad o' = true → ∃ e ∈ o.after, Region.binds .any e = true ∧ e.on = j
theorem dataG_of {ops : Array Oper} {sq : List Nat} {m : Nat} {U : Nat → List Nat} (h : drawOkG P md ops sq m U = true) : DataG P md ops sq m U := by
  have mem : ∀ {p i : Nat}, sq[p]? = some i → (i, p) ∈ sq.zipIdx := by
    intro p i h
    rw [List.mem_zipIdx_iff_getElem?]; exact h
  have mem' : ∀ {p i : Nat}, (i, p) ∈ sq.zipIdx → sq[p]? = some i := by
    intro p i h
    rw [List.mem_zipIdx_iff_getElem?] at h; exact h
  unfold drawOkG at h
  simp only [Bool.and_eq_true, Bool.not_eq_true', beq_iff_eq, decide_eq_true_eq] at h
  obtain ⟨⟨⟨⟨⟨h2, h3⟩, h4⟩, h5⟩, h7⟩, h6⟩ := h
  have h5' : ∀ p i : Nat, sq[p]? = some i → i < ops.size ∧ ∀ q j : Nat, sq[q]? = some j → i = j → p = q := by
    intro p i hp
    have := List.all_eq_true.1 h5 _ (mem hp)
    simp only [Bool.and_eq_true, decide_eq_true_eq] at this
    refine ⟨this.1, fun q j hq e => ?_⟩
    have k := List.all_eq_true.1 this.2 _ (mem hq)
    simp only [Bool.or_eq_true, bne_iff_ne, beq_iff_eq] at k
    rcases k with k | k
    · exact absurd e k
    · exact k
  refine ⟨h2, h3, fun i hi => ?_, fun p i hp => (h5' p i hp).1, fun p q i hp hq => (h5' p i hp).2 q i hq rfl, ?_, ?_, ?_, ?_, ?_, ?_⟩
  · have := List.all_eq_true.1 h4 i (by simpa using hi)
    have := List.contains_iff_mem.1 this
    exact List.mem_iff_getElem?.1 this
  · intro p i o hp ho e he hbd
    have k := List.all_eq_true.1 h6 _ (mem hp)
    simp only [ho] at k
    simp only [Bool.and_eq_true] at k
    have := Array.all_eq_true_iff_forall_mem.1 k.1.1.1.1 e he
    rw [hbd] at this
    simp only [Bool.not_true, Bool.false_or] at this
    rw [List.any_eq_true] at this
    obtain ⟨⟨j, q⟩, hm, hc⟩ := this
    simp only [Bool.and_eq_true, beq_iff_eq, decide_eq_true_eq] at hc
    exact ⟨q, by rw [← hc.1]; exact mem' hm, hc.2⟩
  · intro p i o hp ho hm
    have k := List.all_eq_true.1 h6 _ (mem hp)
    simp only [ho] at k
    simp only [Bool.and_eq_true, Bool.or_eq_true, decide_eq_true_eq] at k
    rcases k.1.1.1.2 with k | k
    · omega
    · exact k
  · intro p i o q j o' t hp ho hq ho' ht hd
    have k := List.all_eq_true.1 h6 _ (mem hp)
    simp only [ho] at k
    simp only [Bool.and_eq_true] at k
    have := List.all_eq_true.1 (List.all_eq_true.1 k.1.1.2 t ht) _ (mem hq)
    simp only [Bool.or_eq_true, beq_iff_eq, bne_iff_ne, ho', Option.bind_some, hd] at this
    rcases this with (h | h) | h
    · exact .inl h
    · exact absurd rfl h
    · exact .inr h
  · intro p i o q j o' hp ho hq ho' hpm hqm he hr
    have k := List.all_eq_true.1 h6 _ (mem hp)
    simp only [ho] at k
    simp only [Bool.and_eq_true] at k
    have k := k.1.2
    simp only [Bool.or_eq_true, decide_eq_true_eq, Bool.not_eq_true'] at k
    rcases k with (k | k) | k
    · omega
    · rw [he] at k; cases k
    · have := List.all_eq_true.1 k _ (mem hq)
      simp only [Bool.or_eq_true, beq_iff_eq, decide_eq_true_eq, ho', Bool.not_eq_true', Bool.or_eq_false_iff, Bool.and_eq_false_iff, Bool.not_eq_false'] at this
      rcases this with ((h | h) | h) | h
      · exact .inl h
      · omega
      · exact .inr h
      · exfalso
        rcases hr with hr | ⟨hr, hl⟩
        · rw [hr] at h; cases h.1
        · rcases h.2 with h | h
          · rw [hr] at h; cases h
          · rw [hl] at h; cases h
  · intro p i o k a hp ho hpm her hk ha
    have c := List.all_eq_true.1 h6 _ (mem hp)
    simp only [ho] at c
    simp only [Bool.and_eq_true] at c
    have c := c.2
    simp only [Bool.or_eq_true, decide_eq_true_eq, Bool.not_eq_true'] at c
    rcases c with (c | c) | c
    · omega
    · rw [her] at c; cases c
    · have := List.all_eq_true.1 c k (by simpa using hk)
      simp only [Bool.or_eq_true, ha] at this
      rcases this with h | h
      · exact .inl (List.contains_iff_mem.1 h)
      · exact .inr h
  · intro hu p i o hp ho hst hpm j o' ho' hlo
    rw [hu, Bool.false_or] at h7
    have c := List.all_eq_true.1 h7 _ (mem hp)
    simp only [ho, hst, Bool.not_true, Bool.false_or, Bool.or_eq_true, decide_eq_true_eq] at c
    rcases c with c | c
    · omega
    · have hjl : j < ops.size := (Array.getElem?_eq_some_iff.1 ho').1
      have := List.all_eq_true.1 c j (by simpa using hjl)
      simp only [ho', hlo, Bool.not_true, Bool.false_or] at this
      obtain ⟨e, he, hb⟩ := List.any_eq_true.1 this
      simp only [Bool.and_eq_true, beq_iff_eq] at hb
      exact ⟨e, Array.mem_toList_iff.1 he, hb.2, hb.1⟩
def onP (sq : List Nat) (listed : Array Bool) (p : Nat) : Bool := match sq[p]? with | some i => on listed i | none => false
theorem onP_at {sq : List Nat} {listed : Array Bool} {p i : Nat} (h : sq[p]? = some i) : onP sq listed p = on listed i := by unfold onP; rw [h]
theorem ordered_onT {ops : Array Oper} {sq : List Nat} {listed : Array Bool} (hcl : Closed ops fun j => on listed j = true) {i p j q : Nat} {o : Oper} (ho : ops[i]? = some o) (hi : on listed i = false) (hdeps : ∀ e ∈ o.after, Region.binds .any e = true → on listed e.on = true) (hne : i ≠ j)
    (hb : ordT (befS ops sq) i p j q = true) : on listed j = true ↔ q < p := by
  unfold ordT at hb
  simp only [Bool.or_eq_true, Bool.and_eq_true, decide_eq_true_eq] at hb
  rcases hb with ⟨hb, hlt⟩ | ⟨hb, hlt⟩
  · constructor
    · intro hj
      have := befS_closed hcl hb hj
      rw [hi] at this; cases this
    · intro h; omega
  · refine ⟨fun _ => hlt, fun _ => ?_⟩
    have hc : Closed ops fun k => on listed k = true ∨ k = i := by
      intro k o' ho' hk e he hbd
      rcases hk with hk | rfl
      · exact .inl (hcl k o' ho' hk e he hbd)
      · rw [ho] at ho'; cases ho'; exact .inl (hdeps e he hbd)
    rcases befS_closed hc hb (.inr rfl) with h | h
    · exact h
    · exact absurd h.symm hne
def seqOps (ops : Array Oper) (sq : List Nat) : Array Oper := (sq.map fun i => (ops[i]?).getD default).toArray
theorem seqOps_get {ops : Array Oper} {sq : List Nat} {p i : Nat} {o : Oper} (hp : sq[p]? = some i) (ho : ops[i]? = some o) : (seqOps ops sq)[p]? = some o := by
  simp [seqOps, hp, ho]
/-! ### One operation, whenever it comes -/
def effP (P : Program) (md : FuncId → Nat) (B : Array Oper) (m q : Nat) : Bool := decide (m ≤ q) && isEff P md B q
def lastN (H : Nat → AHeap) (m : Nat) (l : List Nat) : AHeap := lastH (fun t => if t = 0 then H m else H t) l
structure FullG (P : Program) (md : FuncId → Nat) (call : CallF) (ops : Array Oper) (n0 : Nat) (U : Nat → List Nat) (sq : List Nat) (m : Nat) (zs : List AObj) (E : Nat → Env) (H : Nat → AHeap) (v : Nat → AV) : Prop where
  data : DataG P md ops sq m U
  env : ∀ (p i : Nat) (o : Oper), p < sq.length → sq[p]? = some i → ops[i]? = some o → E (p + 1) = aput (E p) o.dst (v p)
  tr : TraceG P md call ops n0 U sq m sq.length E H v
  base : (H m).length = n0 + m
  new : ∀ (p i : Nat) (o : Oper), p < m → sq[p]? = some i → ops[i]? = some o → v p = .ptr (n0 + p) 0 ∧ ∃ t z, o.op = .alloc t ∧ tzero P t = some z ∧ hget (H m) (n0 + p) = .vars z.cells
variable {call : CallF} {ops : Array Oper} {n0 m : Nat} {U : Nat → List Nat} {sq : List Nat} {zs : List AObj} {E : Nat → Env} {H : Nat → AHeap} {v : Nat → AV}
theorem FullG.op (f : FullG P md call ops n0 U sq m zs E H v) {p : Nat} (hp : p < sq.length) : ∃ i o, sq[p]? = some i ∧ ops[i]? = some o ∧ (seqOps ops sq)[p]? = some o := by
  have h1 : sq[p]? = some sq[p] := List.getElem?_eq_getElem hp
  have h2 := f.data.lt p _ h1
  have h3 : ops[sq[p]]? = some ops[sq[p]] := by simp [h2]
  exact ⟨_, _, h1, h3, seqOps_get h1 h3⟩
theorem FullG.E_eq (f : FullG P md call ops n0 U sq m zs E H v) : ∀ p, p ≤ sq.length → E p = puts (seqOps ops sq) v (List.range p) (E 0) := by
  intro p
  induction p with
  | zero => intro _; rfl
  | succ p ih =>
    intro hp
    obtain ⟨i, o, h1, h2, h3⟩ := f.op (p := p) (by omega)
    rw [f.env p i o (by omega) h1 h2, ih (by omega), List.range_succ]
    simp [puts, List.foldl_append, h3]
theorem FullG.H_eq (f : FullG P md call ops n0 U sq m zs E H v) : ∀ p, m ≤ p → p ≤ sq.length → H p = lastN H m ((List.range p).filter (effP P md (seqOps ops sq) m)) := by
  intro p
  induction p with
  | zero =>
    intro hm _
    obtain rfl : m = 0 := by omega
    rfl
  | succ p ih =>
    intro hm hp
    by_cases hpm : m = p + 1
    · subst hpm
      have : (List.range (p + 1)).filter (effP P md (seqOps ops sq) (p + 1)) = [] := by
        rw [List.filter_eq_nil_iff]
        intro q hq
        have : q < p + 1 := by simpa using hq
        simp only [effP, Bool.and_eq_true, decide_eq_true_eq]
        omega
      rw [this]; rfl
    · obtain ⟨i, o, h1, h2, h3⟩ := f.op (p := p) (by omega)
      rw [List.range_succ, List.filter_append]
      cases he : effP P md (seqOps ops sq) m p with
      | true =>
        rw [List.filter_cons_of_pos he, List.filter_nil]
        unfold lastN
        rw [lastH_snoc]
        simp
      | false =>
        rw [List.filter_cons_of_neg (by rw [he]; simp), List.filter_nil, List.append_nil, ← ih (by omega) (by omega)]
        have hne : effP P md (seqOps ops sq) m p = (effP P md (seqOps ops sq) m p) := rfl
        have hoe : effOp P md o = false := by
          simp only [effP, isEff, h3, Bool.and_eq_false_iff, decide_eq_false_iff_not] at he
          rcases he with he | he
          · omega
          · exact he
        obtain ⟨_, hst⟩ := f.tr.step p i o (by omega) (by omega) h1 h2
        rcases hst with ⟨_, _, k3, _⟩ | ⟨_, _, k3⟩
        · rcases k3 with k3 | k3
          · rw [hoe] at k3; cases k3
          · exact k3
        · exact k3
def envG (ops : Array Oper) (sq : List Nat) (v : Nat → AV) (e0 : Env) (listed : Array Bool) : Env := puts (seqOps ops sq) v ((List.range sq.length).filter (onP sq listed)) e0
def baseG (P : Program) (md : FuncId → Nat) (ops : Array Oper) (sq : List Nat) (m : Nat) (H : Nat → AHeap) (listed : Array Bool) : AHeap := lastN H m (((List.range sq.length).filter (onP sq listed)).filter (effP P md (seqOps ops sq) m))
def unmade (sq : List Nat) (m : Nat) (listed : Array Bool) : List Nat := (List.range m).filter fun k => !onP sq listed k
def heapG (P : Program) (md : FuncId → Nat) (ops : Array Oper) (sq : List Nat) (m n0 : Nat) (H : Nat → AHeap) (listed : Array Bool) : AHeap := killAt n0 (baseG P md ops sq m H listed) (unmade sq m listed)
theorem onP_set {listed : Array Bool} {p i : Nat} (hinj : ∀ p q i : Nat, sq[p]? = some i → sq[q]? = some i → p = q) (hp : sq[p]? = some i) (hil : i < listed.size) (q : Nat) : onP sq (listed.setIfInBounds i true) q = if q = p then true else onP sq listed q := by
  by_cases hq : q = p
  · subst hq; rw [if_pos rfl, onP_at hp, on_set hil, if_pos rfl]
  · rw [if_neg hq]
    unfold onP
    cases hj : sq[q]? with
    | none => rfl
    | some j =>
      dsimp only
      rw [on_set hil, if_neg]
      rintro rfl
      exact hq (hinj _ _ _ hj hp)
section step
variable {listed : Array Bool} {p i : Nat} {o : Oper}
theorem FullG.slots (f : FullG P md call ops n0 U sq m zs E H v) (hcl : Closed ops fun j => on listed j = true) (hp : sq[p]? = some i) (ho : ops[i]? = some o) (hi : on listed i = false) (hdeps : ∀ e ∈ o.after, Region.binds .any e = true → on listed e.on = true) :
    ∀ t, t ∈ tmpsOf ops o → ∀ q, q < sq.length → writes (seqOps ops sq) t q = true → (onP sq listed q = true ↔ q < p) := by
  intro t ht q hq hwr
  by_cases hpq : p = q
  · subst hpq; rw [onP_at hp, hi]; simp
  · obtain ⟨j, o', h1, h2, h3⟩ := f.op hq
    have hd : o'.dst = some t := by simpa [writes, h3] using hwr
    rcases f.data.slot p i o q j o' t hp ho h1 h2 ht hd with h | h
    · exact absurd h hpq
    · rw [onP_at h1]
      exact ordered_onT hcl ho hi hdeps (fun e => hpq (by subst e; exact f.data.inj _ _ _ hp h1)) h
theorem FullG.get (f : FullG P md call ops n0 U sq m zs E H v) (hcl : Closed ops fun j => on listed j = true) (hp : sq[p]? = some i) (ho : ops[i]? = some o) (hi : on listed i = false) (hdeps : ∀ e ∈ o.after, Region.binds .any e = true → on listed e.on = true) :
    ∀ t, t ∈ tmpsOf ops o → (envG ops sq v (E 0) listed)[t]? = (E p)[t]? := by
  intro t ht
  have hlt : p < sq.length := (List.getElem?_eq_some_iff.1 hp).1
  unfold envG
  rw [puts_get, filter_upto (by omega) (f.slots hcl hp ho hi hdeps t ht), ← puts_get, ← f.E_eq p (by omega)]
theorem FullG.envs (f : FullG P md call ops n0 U sq m zs E H v) (hsz : listed.size = ops.size) (hcl : Closed ops fun j => on listed j = true) (hp : sq[p]? = some i) (ho : ops[i]? = some o) (hi : on listed i = false) (hdeps : ∀ e ∈ o.after, Region.binds .any e = true → on listed e.on = true) :
    (∀ x ∈ o.op.operands, oval (envG ops sq v (E 0) listed) x = oval (E p) x) ∧ aguard ops (envG ops sq v (E 0) listed) o = aguard ops (E p) o ∧
    aput (envG ops sq v (E 0) listed) o.dst (v p) = envG ops sq v (E 0) (listed.setIfInBounds i true) := by
  have hlt : p < sq.length := (List.getElem?_eq_some_iff.1 hp).1
  have hil : i < listed.size := by rw [hsz]; exact f.data.lt p i hp
  have hw := f.slots hcl hp ho hi hdeps
  have hget := f.get hcl hp ho hi hdeps
  refine ⟨?_, ?_, ?_⟩
  · intro x hx
    cases x with
    | tmp t =>
      refine getD_of_get (hget t ?_)
      unfold tmpsOf Oper.looksAt
      refine List.mem_append_left _ (List.mem_append_left _ ?_)
      rw [List.mem_filterMap]
      exact ⟨.tmp t, by simpa using hx, rfl⟩
    | _ => rfl
  · unfold aguard
    cases hg : o.guard with
    | none => rfl
    | some q =>
      obtain ⟨g, wn⟩ := q
      dsimp only
      cases hd : (ops[g]?).bind (·.dst) with
      | none => rfl
      | some d =>
        dsimp only
        rw [getD_of_get (hget d ?_)]
        unfold tmpsOf Oper.looksAt
        refine List.mem_append_left _ (List.mem_append_right _ ?_)
        simp [hg, hd]
  · apply List.ext_getElem?
    intro t
    rw [aput_get]
    have hset := onP_set (listed := listed) f.data.inj hp hil
    have hB : (seqOps ops sq)[p]? = some o := seqOps_get hp ho
    split
    · rename_i hd
      unfold envG
      rw [puts_get (seqOps ops sq) v t (List.filter (onP sq (listed.setIfInBounds i true)) (List.range sq.length)), filter_upto (i := p + 1) (by omega) (q := onP sq (listed.setIfInBounds i true)), ← puts_get, ← f.E_eq (p + 1) (by omega), f.env p i o hlt hp ho, aput_get, if_pos hd]
      · rw [puts_length, f.E_eq p (by omega), puts_length]
      · intro q hq hwr
        rw [hset]
        by_cases hqp : q = p
        · subst hqp; simp
        · rw [if_neg hqp, hw t (by unfold tmpsOf; exact List.mem_append_right _ (by simp [hd])) q hq hwr]; omega
    · rename_i hd
      unfold envG
      rw [puts_get (seqOps ops sq) v t, puts_get (seqOps ops sq) v t (List.filter (onP sq (listed.setIfInBounds i true)) (List.range sq.length))]
      congr 2
      rw [List.filter_filter, List.filter_filter]
      apply List.filter_congr
      intro q hq
      rw [hset]
      by_cases hqp : q = p
      · subst hqp
        have : writes (seqOps ops sq) t q = false := by
          cases hwr : writes (seqOps ops sq) t q with
          | false => rfl
          | true => exact absurd (by simpa [writes, hB] using hwr) hd
        rw [this]; rfl
      · rw [if_neg hqp]
theorem FullG.pend (f : FullG P md call ops n0 U sq m zs E H v) (hcl : Closed ops fun j => on listed j = true) (hp : sq[p]? = some i) (ho : ops[i]? = some o) (hdeps : ∀ e ∈ o.after, Region.binds .any e = true → on listed e.on = true) (hpm : m ≤ p) (her : (effOp P md o || readOp P o) = true) :
    ∀ k ∈ unmade sq m listed, k ∈ U i := by
  intro k hk
  unfold unmade at hk
  rw [List.mem_filter, List.mem_range] at hk
  obtain ⟨hkm, hoff⟩ := hk
  obtain ⟨a, oa, h1, h2, _⟩ := f.op (p := k) (by have := f.data.mle; omega)
  rcases f.data.late p i o k a hp ho hpm her hkm h1 with h | h
  · exact h
  · exfalso
    have hc : Closed ops fun j => on listed j = true ∨ j = i := by
      intro j o' ho' hj e he hbd
      rcases hj with hj | rfl
      · exact .inl (hcl j o' ho' hj e he hbd)
      · rw [ho] at ho'; cases ho'; exact .inl (hdeps e he hbd)
    rcases befS_closed hc h (.inr rfl) with h | h
    · rw [onP_at h1, h] at hoff; cases hoff
    · subst h
      have := f.data.inj _ _ _ h1 hp
      omega
theorem FullG.kill (f : FullG P md call ops n0 U sq m zs E H v) (g : AHeap) (hU : ∀ k ∈ unmade sq m listed, k ∈ U i) : ∃ T ∈ subs (U i), ∀ g : AHeap, killAt n0 g (unmade sq m listed) = killAt n0 g T := by
  refine ⟨(U i).filter fun k => decide (k ∈ unmade sq m listed), filter_subs _ _, fun g => killAt_congr g fun k => ?_⟩
  rw [List.mem_filter, decide_eq_true_eq]
  exact ⟨fun h => ⟨hU k h, h⟩, fun h => h.2⟩
end step
section step2
variable {listed : Array Bool} {p i : Nat} {o : Oper}
theorem ordT_comm {b : List Nat} {i p j q : Nat} : ordT b i p j q = ordT b j q i p := by
  unfold ordT; rw [Bool.or_comm]
theorem unmade_set (f : FullG P md call ops n0 U sq m zs E H v) (hp : sq[p]? = some i) (hil : i < listed.size) (hpm : m ≤ p) : unmade sq m (listed.setIfInBounds i true) = unmade sq m listed := by
  unfold unmade
  apply List.filter_congr
  intro k hk
  have : k < m := by simpa using hk
  rw [onP_set f.data.inj hp hil, if_neg (by omega)]
theorem FullG.late_step (f : FullG P md call ops n0 U sq m zs E H v) (hsz : listed.size = ops.size) (hcl : Closed ops fun j => on listed j = true) (hp : sq[p]? = some i) (ho : ops[i]? = some o) (hi : on listed i = false) (hdeps : ∀ e ∈ o.after, Region.binds .any e = true → on listed e.on = true) (hpm : m ≤ p) :
    (aguard ops (E p) o = some true → astep P md call (envG ops sq v (E 0) listed) (heapG P md ops sq m n0 H listed) o = some (v p, heapG P md ops sq m n0 H (listed.setIfInBounds i true))) ∧
    (aguard ops (E p) o = some false → v p = .und ∧ heapG P md ops sq m n0 H (listed.setIfInBounds i true) = heapG P md ops sq m n0 H listed) := by
  have hlt : p < sq.length := (List.getElem?_eq_some_iff.1 hp).1
  have hil : i < listed.size := by rw [hsz]; exact f.data.lt p i hp
  obtain ⟨hopd, _, _⟩ := f.envs hsz hcl hp ho hi hdeps
  have hB : (seqOps ops sq)[p]? = some o := seqOps_get hp ho
  have hset := onP_set (listed := listed) f.data.inj hp hil
  have hun := unmade_set f hp hil hpm
  have hmem : (effOp P md o = true ∨ (readOp P o = true ∧ isLoad o = false)) → baseG P md ops sq m H listed = H p ∧ baseG P md ops sq m H (listed.setIfInBounds i true) = H (p + 1) := by
    intro her
    have heff : ∀ q, q < sq.length → effP P md (seqOps ops sq) m q = true → q ≠ p → (onP sq listed q = true ↔ q < p) := by
      intro q hq he hqp
      obtain ⟨j, o', h1, h2, h3⟩ := f.op hq
      simp only [effP, isEff, h3, Bool.and_eq_true, decide_eq_true_eq] at he
      rcases f.data.mem q j o' p i o h1 h2 hp ho he.1 hpm he.2 her with h | h
      · exact absurd h hqp
      · rw [onP_at h1]
        exact ordered_onT hcl ho hi hdeps (fun e => hqp (by subst e; exact f.data.inj _ _ _ h1 hp)) (by rw [ordT_comm]; exact h)
    constructor
    · unfold baseG
      rw [filter_upto (i := p) (by omega), ← f.H_eq p hpm (by omega)]
      intro q hq he
      by_cases hqp : q = p
      · subst hqp; rw [onP_at hp, hi]; simp
      · exact heff q hq he hqp
    · unfold baseG
      rw [filter_upto (i := p + 1) (by omega), ← f.H_eq (p + 1) (by omega) (by omega)]
      intro q hq he
      rw [hset]
      by_cases hqp : q = p
      · subst hqp; simp
      · rw [if_neg hqp, heff q hq he hqp]; omega
  have hsame : effOp P md o = false → baseG P md ops sq m H (listed.setIfInBounds i true) = baseG P md ops sq m H listed := by
    intro he
    unfold baseG
    congr 1
    rw [List.filter_filter, List.filter_filter]
    apply List.filter_congr
    intro q hq
    rw [hset]
    by_cases hqp : q = p
    · subst hqp
      have : effP P md (seqOps ops sq) m q = false := by simp [effP, isEff, hB, he]
      rw [this]; rfl
    · rw [if_neg hqp]
  obtain ⟨_, hst⟩ := f.tr.step p i o hpm hlt hp ho
  refine ⟨fun hwn => ?_, fun hwn => ?_⟩
  · rcases hst with ⟨_, h2, h3, h4, h5, h6⟩ | ⟨h1, _⟩
    · have hcong : astep P md call (envG ops sq v (E 0) listed) (heapG P md ops sq m n0 H listed) o = astep P md call (E p) (heapG P md ops sq m n0 H listed) o := by
        unfold astep; rw [aop_congr hopd]
      rw [hcong]
      unfold heapG
      rw [hun]
      by_cases her : (effOp P md o || readOp P o) = true
      · obtain ⟨T, hT, hk⟩ := f.kill (n0 := n0) (H p) (f.pend hcl hp ho hdeps hpm her)
        rw [hk, hk]
        by_cases hll : isLoad o = true
        · have he := isLoad_eff (P := P) (md := md) hll
          rw [hsame he]
          have key : ∃ q, m ≤ q ∧ q ≤ sq.length ∧ baseG P md ops sq m H listed = H q ∧ ∀ r, p < r → r < q → ¬ BarAt ops U sq r := by
            unfold baseG lastN
            rcases lastH_mem (fun t => if t = 0 then H m else H t) (((List.range sq.length).filter (onP sq listed)).filter (effP P md (seqOps ops sq) m)) with h | ⟨j, hj, h⟩
            · exact ⟨m, Nat.le_refl _, f.data.mle, by rw [h]; rfl, fun r h1 h2 => by omega⟩
            · rw [List.mem_filter, List.mem_filter] at hj
              have hj1 := List.mem_range.1 hj.1.1
              have hj2 : m ≤ j := by
                have := hj.2
                simp only [effP, Bool.and_eq_true, decide_eq_true_eq] at this
                exact this.1
              refine ⟨j + 1, by omega, by omega, by rw [h]; simp, fun r h1 h2 hbar => ?_⟩
              obtain ⟨hu, ir, orr, k1, k2, k3⟩ := hbar
              have ker : effOp P md orr = true := by
                unfold isStore at k3
                split at k3
                · rename_i e; simp [effOp, e]
                · cases k3
              obtain ⟨ij, oj, l1, l2, l3⟩ := f.op hj1
              have lon : on listed ij = true := by
                have := hj.1.2
                rw [onP_at l1] at this; exact this
              have lef : effOp P md oj = true := by
                have := hj.2
                simp only [effP, isEff, l3, Bool.and_eq_true] at this
                exact this.2
              have ron : on listed ir = true := by
                by_cases hrj : r = j
                · subst hrj; rw [k1] at l1; cases l1; exact lon
                · rcases f.data.mem r ir orr j ij oj k1 k2 l1 l2 (by omega) hj2 ker (.inl lef) with hh | hh
                  · exact absurd hh hrj
                  · unfold ordT at hh
                    simp only [Bool.or_eq_true, Bool.and_eq_true, decide_eq_true_eq] at hh
                    rcases hh with ⟨hh, _⟩ | ⟨_, hh⟩
                    · exact befS_closed hcl hh lon
                    · omega
              obtain ⟨e, he, hbd, hon⟩ := f.data.bar hu r ir orr k1 k2 k3 (by omega) i o ho hll
              have := hcl ir orr k2 ron e he hbd
              rw [hon, hi] at this
              cases this
          obtain ⟨q, hq1, hq2, hh, hnb⟩ := key
          rw [hh]
          have := h6 hll q hq1 hq2 hnb T hT
          unfold astep; rw [this]
        · have hll : isLoad o = false := by simpa using hll
          have her' : effOp P md o = true ∨ (readOp P o = true ∧ isLoad o = false) := by
            simp only [Bool.or_eq_true] at her
            exact her.imp (fun e => e) fun e => ⟨e, hll⟩
          obtain ⟨k1, k2⟩ := hmem her'
          rw [k1, k2]
          exact h4 her T hT
      · simp only [Bool.or_eq_true, not_or, Bool.not_eq_true] at her
        rw [hsame her.1]
        unfold astep at h2 ⊢
        split at h2
        · rename_i v' h' hop
          cases h2
          obtain ⟨_, h5⟩ := (aop_pure her.1 her.2).1 hop
          rw [h5]
        · rename_i g as h' hop
          exact absurd hop ((aop_pure (v := .und) her.1 her.2).2 g as)
        · cases h2
    · rw [hwn] at h1; cases h1
  · rcases hst with ⟨h1, _⟩ | ⟨_, h2, h3⟩
    · rw [hwn] at h1; cases h1
    · refine ⟨h2, ?_⟩
      unfold heapG
      rw [hun]
      by_cases he : effOp P md o = true
      · obtain ⟨k1, k2⟩ := hmem (.inl he)
        rw [k1, k2, h3]
      · rw [hsame (by simpa using he)]
theorem FullG.stay (f : FullG P md call ops n0 U sq m zs E H v) (hcl : Closed ops fun j => on listed j = true) (hp : sq[p]? = some i) (hi : on listed i = false) (hpm : p < m) :
    ∀ r, m ≤ r → r ≤ sq.length → (∀ q, q < r → effP P md (seqOps ops sq) m q = true → onP sq listed q = true) → hget (H r) (n0 + p) = hget (H m) (n0 + p) := by
  intro r
  induction r with
  | zero => intro h1 _ _; rw [show m = 0 by omega]
  | succ r ih =>
    intro h1 h2 h3
    by_cases hrm : m = r + 1
    · rw [hrm]
    · rw [← ih (by omega) (by omega) fun q hq => h3 q (by omega)]
      obtain ⟨j, o', k1, k2, k3⟩ := f.op (p := r) (by omega)
      obtain ⟨_, hst⟩ := f.tr.step r j o' (by omega) (by omega) k1 k2
      rcases hst with ⟨_, _, c3, _, c5, _⟩ | ⟨_, _, c3⟩
      · by_cases he : effOp P md o' = true
        · refine c5 he p ?_
          have hon := h3 r (by omega) (by simp only [effP, isEff, k3, he, Bool.and_true, decide_eq_true_eq]; omega)
          rcases f.data.late r j o' p i k1 k2 (by omega) (by rw [he]; rfl) hpm hp with h | h
          · exact h
          · exfalso
            rw [onP_at k1] at hon
            have := befS_closed hcl h hon
            rw [hi] at this; cases this
        · rcases c3 with c3 | c3
          · exact absurd c3 he
          · rw [c3]
      · rw [c3]
theorem FullG.base_stay (f : FullG P md call ops n0 U sq m zs E H v) (hcl : Closed ops fun j => on listed j = true) (hp : sq[p]? = some i) (hi : on listed i = false) (hpm : p < m) :
    hget (baseG P md ops sq m H listed) (n0 + p) = hget (H m) (n0 + p) := by
  unfold baseG lastN
  rcases lastH_mem (fun t => if t = 0 then H m else H t) (((List.range sq.length).filter (onP sq listed)).filter (effP P md (seqOps ops sq) m)) with h | ⟨j, hj, h⟩
  · rw [h]; rfl
  · rw [List.mem_filter, List.mem_filter] at hj
    obtain ⟨⟨hj1, hj2⟩, hj3⟩ := hj
    have hj1 := List.mem_range.1 hj1
    obtain ⟨a, oa, a1, a2, a3⟩ := f.op hj1
    have hj3' := hj3
    simp only [effP, isEff, a3, Bool.and_eq_true, decide_eq_true_eq] at hj3'
    rw [h]
    show hget (if j + 1 = 0 then H m else H (j + 1)) _ = _
    rw [if_neg (by omega)]
    refine f.stay hcl hp hi hpm (j + 1) (by omega) (by omega) fun q hq he => ?_
    by_cases hqj : q = j
    · subst hqj; exact hj2
    · obtain ⟨b, ob, b1, b2, b3⟩ := f.op (p := q) (by omega)
      simp only [effP, isEff, b3, Bool.and_eq_true, decide_eq_true_eq] at he
      rcases f.data.mem j a oa q b ob a1 a2 b1 b2 hj3'.1 he.1 hj3'.2 (.inl he.2) with e | e
      · exact absurd e.symm hqj
      · unfold ordT at e
        simp only [Bool.or_eq_true, Bool.and_eq_true, decide_eq_true_eq] at e
        rcases e with ⟨_, e⟩ | ⟨e, _⟩
        · omega
        · rw [onP_at a1] at hj2
          rw [onP_at b1]
          exact befS_closed hcl e hj2
theorem FullG.alloc_heap (f : FullG P md call ops n0 U sq m zs E H v) (hsz : listed.size = ops.size) (hcl : Closed ops fun j => on listed j = true) (hp : sq[p]? = some i) (hi : on listed i = false) (hpm : p < m) {cs : List AV} (hz : hget (H m) (n0 + p) = .vars cs) :
    heapG P md ops sq m n0 H (listed.setIfInBounds i true) = (heapG P md ops sq m n0 H listed).set (n0 + p) (.vars cs) ∧ hget (heapG P md ops sq m n0 H listed) (n0 + p) = .dead ∧ n0 + p < (heapG P md ops sq m n0 H listed).length := by
  have hil : i < listed.size := by rw [hsz]; exact f.data.lt p i hp
  have hset := onP_set (listed := listed) f.data.inj hp hil
  have hb := f.base_stay hcl hp hi hpm
  rw [hz] at hb
  have hbl : n0 + p < (baseG P md ops sq m H listed).length := hget_lt hb (by simp)
  have hsame : baseG P md ops sq m H (listed.setIfInBounds i true) = baseG P md ops sq m H listed := by
    unfold baseG
    congr 1
    rw [List.filter_filter, List.filter_filter]
    apply List.filter_congr
    intro q hq
    rw [hset]
    by_cases hqp : q = p
    · subst hqp
      have : effP P md (seqOps ops sq) m q = false := by
        simp only [effP, Bool.and_eq_false_iff, decide_eq_false_iff_not]; left; omega
      rw [this]; rfl
    · rw [if_neg hqp]
  have hpu : p ∈ unmade sq m listed := by
    unfold unmade
    rw [List.mem_filter, List.mem_range]
    exact ⟨hpm, by rw [onP_at hp, hi]; rfl⟩
  have hun : ∀ k, k ∈ unmade sq m (listed.setIfInBounds i true) ↔ k ∈ unmade sq m listed ∧ k ≠ p := by
    intro k
    unfold unmade
    rw [List.mem_filter, List.mem_filter, hset]
    by_cases hk : k = p
    · subst hk; simp
    · rw [if_neg hk]; simp [hk]
  have hlen : (heapG P md ops sq m n0 H listed).length = (baseG P md ops sq m H listed).length := killAt_length _ _ _
  have hbase : (baseG P md ops sq m H listed)[n0 + p]? = some (.vars cs) := by
    unfold hget at hb
    rw [List.getD_eq_getElem?_getD, List.getElem?_eq_getElem hbl] at hb
    rw [List.getElem?_eq_getElem hbl]
    exact congrArg some hb
  refine ⟨?_, ?_, by rw [hlen]; exact hbl⟩
  · apply List.ext_getElem?
    intro j
    by_cases hj : n0 + p = j
    · subst hj
      rw [List.getElem?_set_self (by rw [hlen]; exact hbl)]
      unfold heapG
      rw [hsame, killAt_get, if_neg, hbase]
      rintro ⟨_, k, hk, e⟩
      exact ((hun k).1 hk).2 (by omega)
    · rw [List.getElem?_set_ne hj]
      unfold heapG
      rw [hsame, killAt_get, killAt_get]
      have : (∃ k ∈ unmade sq m (listed.setIfInBounds i true), j = n0 + k) ↔ ∃ k ∈ unmade sq m listed, j = n0 + k :=
        ⟨fun ⟨k, a, b⟩ => ⟨k, ((hun k).1 a).1, b⟩, fun ⟨k, a, b⟩ => ⟨k, (hun k).2 ⟨a, fun e => hj (by omega)⟩, b⟩⟩
      simp only [this]
  · unfold hget heapG
    rw [List.getD_eq_getElem?_getD, killAt_get, if_pos ⟨hbl, p, hpu, rfl⟩]; rfl
theorem alloc_wp {h : AHeap} {id : Nat} (r : R X h γ w) {a : Act} {t : TypeId} {z : AV} (hop : o.op = .alloc t) (hz : tzero P t = some z) (hdead : hget h id = .dead) (hl : id < h.length) {K : Act → World → Prop} {Q : Exit → Act → World → Prop}
    (hK : ∀ u w' γ', Goes X h γ w (h.set id (.vars z.cells)) γ' w' → V w' (Ow X (h.set id (.vars z.cells)) γ') γ' (.ptr id 0) u → K (a.put o.dst u) w') : o.wp P a w K Q := by
  obtain ⟨ii, zv, hi, hzero, rfl, hok, hcells⟩ := tzero_all hz
  have ha : V w (Ow X h γ) γ (ofVal zv) zv := ofVal_V zv hcells
  have hcv := ha.cv hok
  have g : Goes X h γ w (h.set id (.vars (ofVal zv).cells)) (γ.put id 0 (w.heap.size, 0)) (w.alloc (.cells zv.cells t)) := by
    refine revive_goes r hdead hl (ob := .cells zv.cells t) rfl rfl rfl rfl rfl fun hn hg s => ⟨w.heap.size, 0, hg, ⟨zv.cells, t, (0, 0), hn, fun off ho => ?_⟩, fun j c hj => ?_⟩
    · simp only [World.frozen?, hn]
      simp
    · have hlt : j < zv.cells.size := by have := (List.getElem?_eq_some_iff.1 hj).1; rw [← hcv.1]; exact this
      refine ⟨hcv.2.1 _ _ hj, zv.cells[j], ?_, (hcv.2.2 _ _ _ hj (by simp [hlt])).mono s⟩
      rw [cell_iff hn, Nat.zero_add]; simp [hlt]
  unfold Oper.wp
  have hrun : (execOp a.eval o).run P w = .ok (.value (.pointer (some ⟨w.heap.size, 0, none⟩))) (w.alloc (.cells zv.cells t)) := by
    have : (execOp a.eval o) = (do pure (.value (← Instr.alloc t true (.tuple #[])))) := by simp [execOp, hop]
    rw [this]
    have h1 : (newVar t zv).run P w = .ok ⟨w.heap.size, 0, none⟩ (w.alloc (.cells zv.cells t)) := rfl
    simp [Instr.alloc, run_zeroValue hi hzero, h1]
  rw [hrun, Oper.upon_value]
  exact hK _ _ _ g (.ptr id 0 w.heap.size 0 (by simp [Ghost.put]))
end step2
theorem all_onT (d : DataG P md ops sq m U) {listed : Array Bool} (hr : Region.ready .any ops listed = []) (hsz : listed.size = ops.size) : ∀ p i : Nat, sq[p]? = some i → on listed i = true := by
  intro p
  induction p using Nat.strongRecOn with
  | _ p ih =>
    intro i hp
    have hi := d.lt p i hp
    cases hon : on listed i with
    | true => rfl
    | false =>
      exfalso
      have ho : ops[i]? = some ops[i] := by simp [hi]
      have : i ∈ Region.ready .any ops listed := by
        unfold Region.ready
        rw [List.mem_filter]
        refine ⟨by simpa using hi, ?_⟩
        simp only [Bool.and_eq_true, Bool.not_eq_eq_eq_not, Bool.not_true]
        constructor
        · unfold on at hon; simp only [Array.getD_eq_getD_getElem?] at hon ⊢
          have hl : i < listed.size := by omega
          simp [hl] at hon ⊢; exact hon
        · rw [ho]
          simp only [Option.map_some, Option.getD_some, Array.all_eq_true_iff_forall_mem, Bool.or_eq_true]
          intro e he
          cases hbd : Region.binds .any e with
          | false => exact .inl rfl
          | true =>
            obtain ⟨q, hq, hlt⟩ := d.back p i _ hp ho e he hbd
            exact .inr (ih q hlt e.on hq)
      rw [hr] at this; cases this
theorem drawGen_holds (hmix : P.follows .mixedOrders = true) (call : CallF) (hc : CallOk P call) (ops : Array Oper) (sq : List Nat) (m : Nat) (U : Nat → List Nat) (hok : drawOkG P md ops sq m U = true) {env env' : Env} {h h' : AHeap} {γ : Ghost} {w : World} {a : Act} {X : Nat → Prop} {Q : Exit → Act → World → Prop} (id : Nat)
    (e : runGA P md call ops sq m U env h = some (env', h')) (r : R X h γ w) (he : VA w (Ow X h γ) γ env a.tmps)
    (hQ : ∀ a' w' γ', VA w' (Ow X h' γ') γ' env' a'.tmps → Goes X h γ w h' γ' w' → a'.defers = a.defers → Q .normal a' w') : (Code.region id ops true).wp P Q a w := by
  have d := dataG_of hok
  -- the run, cut in two
  unfold runGA at e
  cases hA : runA P ops (sq.take m) env h with
  | none => rw [hA] at e; cases e
  | some q =>
  obtain ⟨envA, hA1⟩ := q
  rw [hA] at e
  dsimp only at e
  have htake : (sq.take m).length = m := by rw [List.length_take]; have := d.mle; omega
  obtain ⟨EA, vA, zs, a1, a2, a3, a4, a5⟩ := traceA_of (sq := sq) (sq.take m) 0 (fun j hj => by rw [List.getElem?_take_of_lt (by omega), Nat.zero_add]) (fun i hi => by
    obtain ⟨p, hp⟩ := List.mem_iff_getElem?.1 hi
    have hpm : p < m := by have := (List.getElem?_eq_some_iff.1 hp).1; omega
    rw [List.getElem?_take_of_lt hpm] at hp
    have h1 := d.lt p i hp
    exact ⟨ops[i], by simp [h1], d.free p i ops[i] hp (by simp [h1]) hpm⟩) hA
  subst a3
  obtain ⟨E1, H, v1, b1, b2, b3, b4, b5, _, b7⟩ := traceG_of (n0 := h.length) (sq := sq) (sq.drop m) m (fun j => by rw [List.getElem?_drop]) (List.mem_singleton.2 rfl) (fun p hp => by cases hp) e
  have hdrop : m + (sq.drop m).length = sq.length := by rw [List.length_drop]; have := d.mle; omega
  rw [hdrop] at b3 b4 b5 b7
  rw [htake] at a4
  simp only [Nat.zero_add, htake] at a2 a5
  -- both together
  have f : FullG P md call ops h.length U sq m zs (fun p => if p < m then EA p else E1 p) H (fun p => if p < m then vA p else v1 p) := by
    refine ⟨d, ?_, ⟨?_⟩, ?_, ?_⟩
    · intro p i o hp h1 h2
      by_cases hpm : p < m
      · obtain ⟨k1, _⟩ := a5 p i o (Nat.zero_le _) hpm h1 h2
        simp only [if_pos hpm]
        by_cases hp1 : p + 1 < m
        · rw [if_pos hp1]; exact k1
        · rw [if_neg hp1]
          have : p + 1 = m := by omega
          rw [this, b1, ← a2, ← this]; exact k1
      · simp only [if_neg hpm]
        rw [if_neg (by omega)]
        exact (b5 p i o (by omega) hp h1 h2).1
    · intro p i o hpm hp h1 h2
      rw [if_neg (by omega), if_neg (by omega), if_neg (by omega)]
      obtain ⟨k1, k2⟩ := b5 p i o hpm hp h1 h2
      refine ⟨k1, ?_⟩
      rcases k2 with ⟨c1, c2, c3, c4, c5⟩ | k2
      · exact .inl ⟨c1, c2, c3, c4, c5, fun hl q hq1 hq2 T hT => (b7 p i o hpm hp h1 h2 hl c1).2 q hq1 hq2 T hT⟩
      · exact .inr k2
    · rw [b2, List.length_append, a4]
    · intro p i o hpm h1 h2
      obtain ⟨_, k2, t, z, k3, k4, k5⟩ := a5 p i o (Nat.zero_le _) hpm h1 h2
      refine ⟨by simp only [if_pos hpm]; rw [k2, Nat.sub_zero], t, z, k3, k4, ?_⟩
      rw [b2]
      unfold hget
      rw [List.getD_eq_getElem?_getD, List.getElem?_append_right (by omega), show h.length + p - h.length = p - 0 by omega, k5]; rfl
  have hE0 : (fun p => if p < m then EA p else E1 p) 0 = env := by
    by_cases h0 : 0 < m
    · simp only [if_pos h0]; exact a1
    · simp only [if_neg h0]
      have : m = 0 := by omega
      rw [this] at b1 a2; rw [b1, ← a2, a1]
  have hEn : (fun p => if p < m then EA p else E1 p) sq.length = env' := by
    have := d.mle
    simp only [if_neg (show ¬ sq.length < m by omega)]; exact b3
  generalize (fun p => if p < m then EA p else E1 p) = E at f hE0 hEn
  generalize (fun p => if p < m then vA p else v1 p) = v at f
  have hHn : H sq.length = h' := b4
  -- the drawn run
  refine wp_region_any hmix ?_
  have hr0 : Goes X h γ w h γ w.drew := drew_goes r
  have fin : ∀ (listed : Array Bool) (a' : Act) (w' : World) (γ' : Ghost), (∀ p i : Nat, sq[p]? = some i → on listed i = true) → VA w' (Ow X (heapG P md ops sq m h.length H listed) γ') γ' (envG ops sq v (E 0) listed) a'.tmps →
      Goes X h γ w (heapG P md ops sq m h.length H listed) γ' w' → a'.defers = a.defers → Q .normal a' w' := by
    intro listed a' w' γ' hall hva hg hdf
    have hon : ∀ p, p < sq.length → onP sq listed p = true := fun p hp => by
      have h1 : sq[p]? = some sq[p] := List.getElem?_eq_getElem hp
      rw [onP_at h1]; exact hall p _ h1
    have h1 : envG ops sq v (E 0) listed = env' := by unfold envG; rw [filter_all hon, ← f.E_eq _ (Nat.le_refl _), hEn]
    have h2 : heapG P md ops sq m h.length H listed = h' := by
      unfold heapG baseG
      rw [filter_all hon, ← f.H_eq _ d.mle (Nat.le_refl _), hHn]
      have : unmade sq m listed = [] := by
        unfold unmade
        rw [List.filter_eq_nil_iff]
        intro k hk
        have hk : k < m := by simpa using hk
        rw [hon k (by have := d.mle; omega)]; simp
      rw [this]; rfl
    rw [h1, h2] at hva; rw [h2] at hg
    exact hQ a' w' γ' hva hg hdf
  have main : ∀ (fuel : Nat) (listed : Array Bool) (a' : Act) (w' : World) (γ' : Ghost), listed.size = ops.size → Closed ops (fun j => on listed j = true) → ((List.range ops.size).filter (fun j => !on listed j)).length ≤ fuel →
      VA w' (Ow X (heapG P md ops sq m h.length H listed) γ') γ' (envG ops sq v (E 0) listed) a'.tmps → Goes X h γ w (heapG P md ops sq m h.length H listed) γ' w' → a'.defers = a.defers → wpAny P .any ops Q fuel listed a' w' := by
    intro fuel
    induction fuel with
    | zero =>
      intro listed a' w' γ' hsz hcl hcnt hva hg hdf
      have hall : ∀ i, i < ops.size → on listed i = true := by
        intro i hi
        have hnil : (List.range ops.size).filter (fun j => !on listed j) = [] := List.eq_nil_of_length_eq_zero (by omega)
        rw [List.filter_eq_nil_iff] at hnil
        have := hnil i (by simpa using hi)
        simpa using this
      refine ⟨?_, fin listed a' w' γ' (fun p i hp => hall i (d.lt p i hp)) hva hg hdf⟩
      unfold Region.ready
      rw [List.filter_eq_nil_iff]
      intro i hi
      have := hall i (by simpa using hi)
      have hl : i < listed.size := by have : i < ops.size := by simpa using hi
                                      omega
      unfold on at this
      simp only [Array.getD_eq_getD_getElem?] at this ⊢
      simp [hl] at this ⊢
      intro h; rw [this] at h; cases h
    | succ fuel ih =>
      intro listed a' w' γ' hsz hcl hcnt hva hg hdf
      refine ⟨fun hrdy => fin listed a' w' γ' (all_onT d hrdy hsz) hva hg hdf, fun i hi => ?_⟩
      obtain ⟨o, ho, hoff, hdeps⟩ := ready_mem hi hsz
      have hlt : i < ops.size := (Array.getElem?_eq_some_iff.1 ho).1
      obtain ⟨p, hp⟩ := d.all i hlt
      have hpl : p < sq.length := (List.getElem?_eq_some_iff.1 hp).1
      obtain ⟨hopd, k1, k2⟩ := f.envs hsz hcl hp ho hoff hdeps
      have hcl' : Closed ops (fun j => on (listed.setIfInBounds i true) j = true) := by
        intro j o' ho' hj e he hbd
        rw [on_set (by omega)] at hj ⊢
        by_cases hji : j = i
        · subst hji; rw [ho] at ho'; cases ho'
          split
          · rfl
          · exact hdeps e he hbd
        · rw [if_neg hji] at hj
          split
          · rfl
          · exact hcl j o' ho' hj e he hbd
      have hcnt' : ((List.range ops.size).filter (fun j => !on (listed.setIfInBounds i true) j)).length ≤ fuel := by
        have hsub : (List.range ops.size).filter (fun j => !on (listed.setIfInBounds i true) j) = ((List.range ops.size).filter (fun j => !on listed j)).filter (fun j => decide (j ≠ i)) := by
          rw [List.filter_filter]
          apply List.filter_congr
          intro j _
          rw [on_set (by omega)]
          by_cases hji : j = i
          · subst hji; simp
          · simp [hji]
        rw [hsub]
        have hmem : i ∈ (List.range ops.size).filter (fun j => !on listed j) := by
          rw [List.mem_filter]; exact ⟨by simpa using hlt, by simp [hoff]⟩
        have hlen : (((List.range ops.size).filter (fun j => !on listed j)).filter (fun j => decide (j ≠ i))).length < ((List.range ops.size).filter (fun j => !on listed j)).length := by
          apply List.length_filter_lt_length_iff_exists.2
          exact ⟨i, hmem, by simp⟩
        omega
      unfold wpOp
      rw [ho]
      dsimp only
      by_cases hpm : p < m
      · -- an allocation
        have hfree := d.free p i o hp ho hpm
        obtain ⟨hv, t, z, hop, hz, hzm⟩ := f.new p i o hpm hp ho
        have hgn : o.guard = none := by
          unfold isFreeAlloc at hfree
          split at hfree
          · simp only [Bool.and_eq_true] at hfree
            exact Option.isNone_iff_eq_none.1 hfree.2
          · cases hfree
        have hwg : Region.wanted o (yielded ops a'.tmps) = true := by
          have : aguard ops (envG ops sq v (E 0) listed) o = some true := by unfold aguard; rw [hgn]
          exact guard_eq hva this
        rw [if_pos hwg]
        obtain ⟨q1, q2, q3⟩ := f.alloc_heap hsz hcl hp hoff hpm hzm
        refine .inl (alloc_wp hg.rel hop hz q2 q3 fun u w2 γ2 hg2 hv2 => ?_)
        rw [← q1] at hg2 hv2
        refine ih _ _ _ γ2 (by simpa using hsz) hcl' hcnt' ?_ (hg.trans hg2) (by rw [put_defers, hdf])
        rw [← k2, hv]
        exact (hva.goes hg2).put hv2 o.dst
      · obtain ⟨s1, s2⟩ := f.late_step hsz hcl hp ho hoff hdeps (by omega)
        obtain ⟨wb, hwn⟩ : ∃ b, aguard ops (E p) o = some b := by
          obtain ⟨_, hst⟩ := f.tr.step p i o (by omega) hpl hp ho
          rcases hst with ⟨h1, _⟩ | ⟨h1, _⟩ <;> exact ⟨_, h1⟩
        have hwg := guard_eq hva (k1.trans hwn)
        cases wb with
        | true =>
          rw [if_pos hwg]
          refine .inl (step_sound hc hg.rel hva (s1 hwn) fun u w2 γ2 hg2 hv2 => ?_)
          refine ih _ _ _ γ2 (by simpa using hsz) hcl' hcnt' ?_ (hg.trans hg2) (by rw [put_defers, hdf])
          rw [← k2]
          exact (hva.goes hg2).put hv2 o.dst
        | false =>
          rw [if_neg (by rw [hwg]; simp)]
          obtain ⟨k5, k6⟩ := s2 hwn
          refine ih _ _ _ γ' (by simpa using hsz) hcl' hcnt' ?_ (by rw [k6]; exact hg) (by rw [put_defers, hdf])
          rw [← k2, k6]
          exact hva.put (by rw [k5]; exact .val _) o.dst
  have hoff : ∀ p, onP sq (Array.replicate ops.size false) p = false := by
    intro p
    unfold onP
    split
    · rw [on_replicate]
    · rfl
  have h0 : envG ops sq v (E 0) (Array.replicate ops.size false) = env := by
    unfold envG
    have : (List.range sq.length).filter (onP sq (Array.replicate ops.size false)) = [] := by
      rw [List.filter_eq_nil_iff]; intro p _; rw [hoff]; simp
    rw [this, ← hE0]; rfl
  have h1 : ∀ j, hget (heapG P md ops sq m h.length H (Array.replicate ops.size false)) j = hget h j := by
    intro j
    unfold heapG baseG
    have : (List.range sq.length).filter (onP sq (Array.replicate ops.size false)) = [] := by
      rw [List.filter_eq_nil_iff]; intro p _; rw [hoff]; simp
    rw [this]
    have hb : lastN H m (List.filter (effP P md (seqOps ops sq) m) []) = h ++ zs := by show H m = _; rw [b2]
    rw [hb]
    unfold hget
    rw [List.getD_eq_getElem?_getD, List.getD_eq_getElem?_getD, killAt_get]
    by_cases hj : j < h.length
    · rw [if_neg, List.getElem?_append_left hj]
      rintro ⟨_, k, _, e⟩; omega
    · rw [List.getElem?_eq_none (show h.length ≤ j by omega)]
      by_cases hjm : j < h.length + m
      · rw [if_pos]
        · rfl
        · refine ⟨by rw [List.length_append, a4]; omega, j - h.length, ?_, by omega⟩
          unfold unmade
          rw [List.mem_filter, List.mem_range]
          exact ⟨by omega, by rw [hoff]; rfl⟩
      · rw [if_neg]
        · rw [List.getElem?_eq_none (by rw [List.length_append, a4]; omega)]
        · rintro ⟨hlt, _⟩
          rw [List.length_append, a4] at hlt; omega
  have hlen : h.length ≤ (heapG P md ops sq m h.length H (Array.replicate ops.size false)).length := by
    unfold heapG
    rw [killAt_length]
    unfold baseG
    have : (List.range sq.length).filter (onP sq (Array.replicate ops.size false)) = [] := by
      rw [List.filter_eq_nil_iff]; intro p _; rw [hoff]; simp
    rw [this]
    show h.length ≤ (H m).length
    rw [b2, List.length_append]; omega
  refine main ops.size _ a w.drew γ (by simp) (fun j o ho hj => by dsimp only at hj; rw [on_replicate] at hj; cases hj) (Nat.le_trans (List.length_filter_le _ _) (by simp)) ?_ (hr0.trans (goes_ext h1 hlen hr0.rel)) rfl
  rw [h0, Ow_ext h1]
  exact he.goes hr0
theorem drawOk_holds (hmix : P.follows .mixedOrders = true) : DrawOk P md := by
  intro call hc ops L sq m U hok env env' h h' γ w a X Q id e r he hQ
  cases L with
  | true =>
    simp only [if_true] at hok e
    exact drawGen_holds hmix call hc ops sq m U hok id e r he hQ
  | false =>
    simp only [Bool.false_eq_true, if_false] at hok e
    exact drawText_holds hmix call hc ops hok id e r he hQ
theorem aval_sound {fg : FuncId → Nat → List Bool} (hmix : P.follows .mixedOrders = true) {f : FuncId} {args : List AV} {h h' : AHeap} {r : AV} (e : aval P md fg f args h = some (r, h')) {X : Nat → Prop} {γ : Ghost} {w : World} {vs : Array Value}
    (hr : R X h γ w) (hv : VA w (Ow X h γ) γ args vs) : Answers P X h γ w f vs r h' := by
  obtain ⟨n, hn⟩ := of_lim e
  exact acall_ok (drawOk_holds hmix) n f args h r h' X γ w vs (hn n (Nat.le_refl n)) hr hv
end
end Go.Ab
namespace Go.Ab
open Go.RowKit Go.ChangeShapes
section
variable {P : Program}

def ofCells (P : Program) (t : TypeId) (cs : List AV) : AV := match tagg P t with | some true => .agg cs | _ => cs.headD .und
def WT (P : Program) : Nat → TypeId → AV → Prop
  | 0, _, _ => False
  | n + 1, t, a => match P.underlying t with
    | some .bool => ∃ b, a = .val (.bool b)
    | some (.int k) => ∃ x, a = .val (.int k x) ∧ (Lit.int k x).wf = true
    | some .string => ∃ s : ByteArray, a = .val (.string s) ∧ s.size ≤ maxLen
    | some (.slice e) => ∃ es, a = .slc false es ∧ es.length ≤ maxLen ∧ ∀ x ∈ es, WT P n e x
    | some (.struct fs) => ∃ cs, a = .agg cs ∧ cs.length = P.cellsOf t ∧ ∀ f ∈ fs, WT P n f.type (ofCells P f.type ((cs.drop f.offset).take (P.cellsOf f.type)))
    | some (.array len e) => ∃ cs, a = .agg cs ∧ cs.length = P.cellsOf t ∧ ∀ i, i < len → WT P n e (ofCells P e ((cs.drop (i * P.cellsOf e)).take (P.cellsOf e)))
    | _ => False
def tiles (P : Program) : List Field → Nat → Nat → Bool
  | [], o, n => o == n
  | f :: r, o, n => f.offset == o && tiles P r (o + P.cellsOf f.type) n
def plainTypes (P : Program) (ts : List TypeId) : Bool :=
  ts.all fun t => match P.underlying t with
    | some .bool | some (.int _) | some .string => true
    | some (.slice e) => ts.contains e && decide (0 < P.cellsOf e)
    | some (.struct fs) => fs.toList.all (fun f => ts.contains f.type) && tiles P fs.toList 0 (P.cellsOf t)
    | some (.array len e) => ts.contains e && len * P.cellsOf e == P.cellsOf t
    | _ => false
theorem mapM_range {α : Type} {f : Nat → Option α} {n : Nat} {l : List α} (e : (List.range n).mapM f = some l) : ∀ i, i < n → ∃ x, f i = some x := by
  have key : ∀ (l0 : List Nat) (l : List α), l0.mapM f = some l → ∀ i ∈ l0, ∃ x, f i = some x := by
    intro l0
    induction l0 with
    | nil => intro l _ i hi; cases hi
    | cons a r ih =>
      intro l e i hi
      rw [List.mapM_cons] at e
      cases ha : f a with
      | none => rw [ha] at e; cases e
      | some x =>
        rw [ha] at e
        cases hr : r.mapM f with
        | none => rw [hr] at e; cases e
        | some l' =>
          rcases List.mem_cons.1 hi with rfl | hi
          · exact ⟨x, ha⟩
          · exact ih l' hr i hi
  intro i hi
  exact key _ l e i (by simpa using hi)
theorem mapM_mem {α β : Type} {f : α → Option β} : ∀ {l0 : List α} {l : List β}, l0.mapM f = some l → ∀ a ∈ l0, ∃ x, f a = some x
  | [], _, _, a, ha => by cases ha
  | b :: r, l, e, a, ha => by
    rw [List.mapM_cons] at e
    cases hb : f b with
    | none => rw [hb] at e; cases e
    | some x =>
      rw [hb] at e
      cases hr : r.mapM f with
      | none => rw [hr] at e; cases e
      | some l' =>
        rcases List.mem_cons.1 ha with rfl | ha
        · exact ⟨x, hb⟩
        · exact mapM_mem hr a ha
theorem mapM_get {α β : Type} {f : α → Option β} : ∀ {l0 : List α} {l : List β}, l0.mapM f = some l → ∀ (i : Nat) (x : β), l[i]? = some x → ∃ a, l0[i]? = some a ∧ f a = some x
  | [], l, e, i, x, hi => by cases e; simp at hi
  | b :: r, l, e, i, x, hi => by
    rw [List.mapM_cons] at e
    cases hb : f b with
    | none => rw [hb] at e; cases e
    | some y =>
      rw [hb] at e
      cases hr : r.mapM f with
      | none => rw [hr] at e; cases e
      | some l' =>
        rw [hr] at e; cases e
        cases i with
        | zero => simp at hi; subst hi; exact ⟨b, rfl, hb⟩
        | succ n => exact mapM_get hr n x (by simpa using hi)
theorem mapM_length {α β : Type} {f : α → Option β} : ∀ {l0 : List α} {l : List β}, l0.mapM f = some l → l.length = l0.length
  | [], l, e => by cases e; rfl
  | b :: r, l, e => by
    rw [List.mapM_cons] at e
    cases hb : f b with
    | none => rw [hb] at e; cases e
    | some y =>
      rw [hb] at e
      cases hr : r.mapM f with
      | none => rw [hr] at e; cases e
      | some l' => rw [hr] at e; cases e; simp [mapM_length hr]
theorem choice_list {α : Type} {Q : Nat → α → Prop} : ∀ (n : Nat), (∀ i, i < n → ∃ x, Q i x) → ∃ l : List α, l.length = n ∧ ∀ i x, l[i]? = some x → Q i x
  | 0, _ => ⟨[], rfl, fun i x h => by simp at h⟩
  | n + 1, h => by
    obtain ⟨l, hl, hq⟩ := choice_list n fun i hi => h i (by omega)
    obtain ⟨x, hx⟩ := h n (by omega)
    refine ⟨l ++ [x], by simp [hl], fun i y hy => ?_⟩
    by_cases hi : i < n
    · rw [List.getElem?_append_left (by omega)] at hy; exact hq i y hy
    · rw [List.getElem?_append_right (by omega)] at hy
      have : i = n := by
        have := (List.getElem?_eq_some_iff.1 hy).1; simp at this; omega
      subst this
      simp [hl] at hy; subst hy; exact hx
def Is (w : World) (O : Nat → Prop) (γ : Ghost) (a : AV) (cs : List Value) : Prop :=
  okVal a = true ∧ a.cells.length = cs.length ∧ ∀ (i : Nat) (c : AV) (v : Value), a.cells[i]? = some c → cs[i]? = some v → isCell c = true ∧ V w O γ c v
theorem WT.agg {n : Nat} {t : TypeId} {a : AV} (h : WT P n t a) {O : Nat → Prop} {γ : Ghost} {w : World} {cs : List Value} (hi : Is w O γ a cs) : ofCells P t a.cells = a := by
  cases n with
  | zero => exact h.elim
  | succ n =>
    unfold WT at h
    unfold ofCells tagg
    split at h
    · rename_i hu; obtain ⟨b, rfl⟩ := h; rw [hu]; rfl
    · rename_i hu; obtain ⟨b, rfl, _⟩ := h; rw [hu]; rfl
    · rename_i hu; obtain ⟨b, rfl, _⟩ := h; rw [hu]; rfl
    · rename_i hu; obtain ⟨b, rfl, _⟩ := h; rw [hu]; rfl
    · rename_i hu; obtain ⟨b, rfl, _⟩ := h; rw [hu]; rfl
    · rename_i hu; obtain ⟨b, rfl, _⟩ := h; rw [hu]; rfl
    · exact h.elim
theorem tile_parts {w : World} {O : Nat → Prop} {γ : Ghost} {cs : List Value} {n : Nat} : ∀ (fs : List Field) (o : Nat), tiles P fs o cs.length = true →
    (∀ f ∈ fs, ∃ a, WT P n f.type a ∧ Is w O γ a ((cs.drop f.offset).take (P.cellsOf f.type))) →
    ∃ as : List AV, as.length = cs.length - o ∧ o ≤ cs.length ∧ (∀ f ∈ fs, o ≤ f.offset ∧ WT P n f.type (ofCells P f.type ((as.drop (f.offset - o)).take (P.cellsOf f.type)))) ∧
      ∀ (i : Nat) (c : AV) (v : Value), as[i]? = some c → cs[o + i]? = some v → isCell c = true ∧ V w O γ c v
  | [], o, ht, _ => by
    simp only [tiles, beq_iff_eq] at ht
    exact ⟨[], by simp [ht], by omega, fun f hf => (by cases hf), fun i c v hi => by simp at hi⟩
  | f :: r, o, ht, h => by
    simp only [tiles, Bool.and_eq_true, beq_iff_eq] at ht
    obtain ⟨hfo, ht⟩ := ht
    obtain ⟨as, h1, h2, h3, h4⟩ := tile_parts r (o + P.cellsOf f.type) ht fun g hg => h g (by simp [hg])
    obtain ⟨a, hwt, ha⟩ := h f (by simp)
    have hal : a.cells.length = P.cellsOf f.type := by rw [ha.2.1, hfo]; simp; omega
    refine ⟨a.cells ++ as, by simp [hal, h1]; omega, by omega, fun g hg => ?_, fun i c v hi hv => ?_⟩
    · rcases List.mem_cons.1 hg with rfl | hg
      · refine ⟨by omega, ?_⟩
        rw [hfo, Nat.sub_self, List.drop_zero, List.take_append_of_le_length (by omega), List.take_of_length_le (by omega), hwt.agg ha]
        exact hwt
      · obtain ⟨k1, k2⟩ := h3 g hg
        refine ⟨by omega, ?_⟩
        rw [show g.offset - o = a.cells.length + (g.offset - (o + P.cellsOf f.type)) by omega, List.drop_append]
        have : List.drop (a.cells.length + (g.offset - (o + P.cellsOf f.type))) a.cells = [] := List.drop_eq_nil_of_le (by omega)
        rw [this, List.nil_append, Nat.add_sub_cancel_left]
        exact k2
    · by_cases hlt : i < a.cells.length
      · rw [List.getElem?_append_left hlt] at hi
        refine ha.2.2 i c v hi ?_
        rw [List.getElem?_take_of_lt (by omega), List.getElem?_drop, hfo]; exact hv
      · rw [List.getElem?_append_right (by omega)] at hi
        refine h4 _ c v hi ?_
        rw [show o + P.cellsOf f.type + (i - a.cells.length) = o + i by omega]; exact hv
theorem array_parts {w : World} {O : Nat → Prop} {γ : Ghost} {cs : List Value} {n k : Nat} {e : TypeId} (hk : P.cellsOf e = k) : ∀ (len : Nat), len * k ≤ cs.length →
    (∀ i, i < len → ∃ a, WT P n e a ∧ Is w O γ a ((cs.drop (i * k)).take k)) →
    ∃ as : List AV, as.length = len * k ∧ (∀ i, i < len → WT P n e (ofCells P e ((as.drop (i * k)).take k))) ∧
      ∀ (i : Nat) (c : AV) (v : Value), as[i]? = some c → cs[i]? = some v → isCell c = true ∧ V w O γ c v
  | 0, _, _ => ⟨[], by simp, fun i hi => by omega, fun i c v hi => by simp at hi⟩
  | len + 1, hl, h => by
    rw [Nat.add_mul, Nat.one_mul] at hl
    obtain ⟨as, h1, h2, h3⟩ := array_parts hk len (by omega) fun i hi => h i (by omega)
    obtain ⟨a, hwt, ha⟩ := h len (by omega)
    have hal : a.cells.length = k := by rw [ha.2.1]; simp; omega
    refine ⟨as ++ a.cells, by simp [h1, hal, Nat.add_mul], fun i hi => ?_, fun i c v hi hv => ?_⟩
    · by_cases hlt : i < len
      · have hfit : i * k + k ≤ len * k := by
          have := Nat.mul_le_mul_right k hlt; rw [Nat.succ_mul] at this; exact this
        rw [List.drop_append_of_le_length (by omega), List.take_append_of_le_length (by simp; omega)]
        exact h2 i hlt
      · obtain rfl : i = len := by omega
        rw [← h1, List.drop_left, List.take_of_length_le (by omega), hwt.agg ha]
        exact hwt
    · by_cases hlt : i < as.length
      · rw [List.getElem?_append_left hlt] at hi; exact h3 i c v hi hv
      · rw [List.getElem?_append_right (by omega)] at hi
        refine ha.2.2 _ c v hi ?_
        have hlt2 : i - as.length < k := by have := (List.getElem?_eq_some_iff.1 hi).1; omega
        rw [List.getElem?_take_of_lt hlt2, List.getElem?_drop, ← h1, show as.length + (i - as.length) = i by omega]; exact hv
theorem cell_spot {w : World} {a : Addr} {v : Value} (h : w.cell? a = some v) : a.spot = none := by
  unfold World.cell? at h
  split at h
  · split at h
    · cases h
    · rename_i hs; cases hsp : a.spot with
      | none => rfl
      | some x => rw [hsp] at hs; simp at hs
  · cases h
theorem trod_AV {H : Type} {enc : TypeId × Value → H} {W : World} {O : Nat → Prop} (hO : ∀ b, ¬ O b) {γ : Ghost} {ts : List TypeId} (hts : plainTypes P ts = true) : ∀ (fuel : Nat) {t : TypeId} {cs : List Value} {x : DataW H × List MemPlace}, t ∈ ts →
    DataW.trod enc P W 0 (fun _ => true) true fuel t cs = some x → ∃ a, WT P fuel t a ∧ Is W O γ a cs := by
  intro fuel
  induction fuel with
  | zero => intro t cs x _ e; cases e
  | succ fuel ih =>
    intro t cs x ht e
    have hpl := List.all_eq_true.1 hts t ht
    unfold DataW.trod at e
    unfold WT
    split at e
    · -- bool
      rename_i b hu; rw [hu]
      exact ⟨.val (.bool b), ⟨b, rfl⟩, rfl, rfl, fun i c v hi hv => by cases i <;> simp [AV.cells] at hi hv; subst hi; subst hv; exact ⟨rfl, .val _⟩⟩
    · rename_i k k' n hu
      split at e
      · rename_i hc; obtain ⟨rfl, hwf⟩ := hc
        rw [hu]
        exact ⟨.val (.int k' n), ⟨n, rfl, hwf⟩, rfl, rfl, fun i c v hi hv => by cases i <;> simp [AV.cells] at hi hv; subst hi; subst hv; exact ⟨rfl, .val _⟩⟩
      · cases e
    · rename_i k k' n hu; rw [hu] at hpl; cases hpl
    · rename_i s hu
      split at e
      · rename_i hs
        rw [hu]
        exact ⟨.val (.string s), ⟨s, rfl, hs⟩, rfl, rfl, fun i c v hi hv => by cases i <;> simp [AV.cells] at hi hv; subst hi; subst hv; exact ⟨rfl, .val _⟩⟩
      · cases e
    · rename_i hu; rw [hu] at hpl; cases hpl
    · rename_i hu; rw [hu] at hpl; cases hpl
    · -- nil slice
      rename_i el hu; rw [hu]
      refine ⟨.slc false [], ⟨[], rfl, by simp, fun x hx => by cases hx⟩, rfl, rfl, fun i c v hi hv => ?_⟩
      cases i <;> simp [AV.cells] at hi hv
      subst hi; subst hv; exact ⟨rfl, .slc0 false none⟩
    · -- slice
      rename_i el a len cap hu
      rw [hu] at hpl ⊢
      simp only [Bool.and_eq_true, List.contains_iff_mem, decide_eq_true_eq] at hpl
      obtain ⟨hel, hk⟩ := hpl
      dsimp only at e
      split at e
      · rename_i hc; obtain ⟨_, hlc, hcap⟩ := hc
        cases hm : (List.range len).mapM fun i => (W.cells? 0 (a.add (i * P.cellsOf el)) (P.cellsOf el)).bind (DataW.trod enc P W 0 (fun _ => true) true fuel el) with
        | none => rw [hm] at e; cases e
        | some elems =>
          rw [hm] at e
          simp only [Option.bind_some, if_true] at e
          cases hm2 : (List.range (cap - len)).mapM fun j => (W.cells? 0 (a.add ((len + j) * P.cellsOf el)) (P.cellsOf el)).bind (DataW.trod enc P W 0 (fun _ => true) true fuel el) with
          | none => rw [hm2] at e; cases e
          | some rest =>
            -- an element that is there
            have elem : ∀ i, i < cap → ∃ csi x, W.cells? 0 (a.add (i * P.cellsOf el)) (P.cellsOf el) = some csi ∧ DataW.trod enc P W 0 (fun _ => true) true fuel el csi = some x := by
              intro i hi
              by_cases hl : i < len
              · obtain ⟨x, hx⟩ := mapM_range hm i hl
                cases hcs : W.cells? 0 (a.add (i * P.cellsOf el)) (P.cellsOf el) with
                | none => rw [hcs] at hx; cases hx
                | some csi => rw [hcs] at hx; exact ⟨csi, x, rfl, hx⟩
              · obtain ⟨x, hx⟩ := mapM_range hm2 (i - len) (by omega)
                rw [show len + (i - len) = i by omega] at hx
                cases hcs : W.cells? 0 (a.add (i * P.cellsOf el)) (P.cellsOf el) with
                | none => rw [hcs] at hx; cases hx
                | some csi => rw [hcs] at hx; exact ⟨csi, x, rfl, hx⟩
            have cells : ∀ {i : Nat} {csi : List Value}, W.cells? 0 (a.add (i * P.cellsOf el)) (P.cellsOf el) = some csi → csi.length = P.cellsOf el ∧ ∀ (j : Nat) (v : Value), csi[j]? = some v → W.cell? ((a.add (i * P.cellsOf el)).add j) = some v := by
              intro i csi hcs
              unfold World.cells? at hcs
              rw [if_pos (Nat.zero_le _)] at hcs
              refine ⟨by simpa using mapM_length hcs, fun j v hj => ?_⟩
              obtain ⟨m, h1, h2⟩ := mapM_get hcs j v hj
              have hjl : j < P.cellsOf el := by have := (List.getElem?_eq_some_iff.1 h1).1; simpa using this
              rw [List.getElem?_range hjl] at h1
              cases h1; exact h2
            by_cases h0 : cap = 0
            · subst h0
              obtain rfl : len = 0 := by omega
              refine ⟨.slc false [], ⟨[], rfl, by simp, fun x hx => by cases hx⟩, rfl, rfl, fun i c v hi hv => ?_⟩
              cases i <;> simp [AV.cells] at hi hv
              subst hi; subst hv; exact ⟨rfl, .slc0 false (some a)⟩
            · have hspot : a.spot = none := by
                obtain ⟨csi, x, h1, _⟩ := elem 0 (by omega)
                obtain ⟨h2, h3⟩ := cells h1
                have : 0 < csi.length := by omega
                have h4 := h3 0 csi[0] (by simp)
                simp [Addr.add] at h4
                exact cell_spot h4
              obtain ⟨b, o, sp⟩ := a
              subst hspot
              obtain ⟨as, hal, has⟩ := choice_list (Q := fun i y => ∃ csi, csi.length = P.cellsOf el ∧ (∀ (j : Nat) (v : Value), csi[j]? = some v → W.cell? ⟨b, o + i * P.cellsOf el + j, none⟩ = some v) ∧ WT P fuel el y ∧ Is W O γ y csi) len fun i hi => by
                obtain ⟨csi, x, h1, h2⟩ := elem i (by omega)
                obtain ⟨h3, h4⟩ := cells h1
                obtain ⟨y, h5, h6⟩ := ih hel h2
                exact ⟨y, csi, h3, fun j v hj => by have := h4 j v hj; rw [addr_add, addr_add] at this; exact this, h5, h6⟩
              refine ⟨.slc false as, ⟨as, rfl, by rw [hal]; omega, fun x hx => ?_⟩, rfl, rfl, fun i c v hi hv => ?_⟩
              · obtain ⟨i, hi⟩ := List.getElem?_of_mem hx
                obtain ⟨_, _, _, h, _⟩ := has i x hi
                exact h
              · cases i <;> simp [AV.cells] at hi hv
                subst hi; subst hv
                refine ⟨rfl, ?_⟩
                have := V.slc (w := W) (O := O) (γ := γ) false as b o cap (P.cellsOf el) (fun i j => (W.cell? ⟨b, o + i * P.cellsOf el + j, none⟩).getD undef) (by omega) (fun h => by cases h)
                  (fun i e he => by obtain ⟨csi, h1, _, _, h3, h4, _⟩ := has i e he; exact ⟨h3, by rw [h4, h1]⟩)
                  (fun i j e c he hj => by
                    obtain ⟨csi, h1, h2, _, h3, h4, h5⟩ := has i e he
                    have hjl : j < csi.length := by rw [← h4]; exact (List.getElem?_eq_some_iff.1 hj).1
                    have hcell := h2 j csi[j] (List.getElem?_eq_getElem hjl)
                    exact ⟨(h5 j c csi[j] hj (List.getElem?_eq_getElem hjl)).1, hO b, by rw [hcell]; rfl⟩)
                  (fun i j e c he hj => by
                    obtain ⟨csi, h1, h2, _, h3, h4, h5⟩ := has i e he
                    have hjl : j < csi.length := by rw [← h4]; exact (List.getElem?_eq_some_iff.1 hj).1
                    have hcell := h2 j csi[j] (List.getElem?_eq_getElem hjl)
                    rw [hcell]
                    exact (h5 j c csi[j] hj (List.getElem?_eq_getElem hjl)).2)
                rw [hal] at this
                exact this
      · cases e
    · -- struct
      rename_i cs _ _ fs hu
      rw [hu] at hpl ⊢
      simp only [Bool.and_eq_true, List.all_eq_true, List.contains_iff_mem] at hpl
      obtain ⟨hfs, htile⟩ := hpl
      split at e
      · rename_i hl
        cases hm : fs.toList.mapM fun f => DataW.trod enc P W 0 (fun _ => true) true fuel f.type ((cs.drop f.offset).take (P.cellsOf f.type)) with
        | none => rw [hm] at e; cases e
        | some xs =>
          obtain ⟨as, h1, _, h3, h4⟩ := tile_parts (n := fuel) (w := W) (O := O) (γ := γ) (cs := cs) fs.toList 0 (by rw [hl]; exact htile) fun f hf => by
            obtain ⟨y, hy⟩ := mapM_mem hm f hf
            exact ih (hfs f hf) hy
          refine ⟨.agg as, ⟨as, rfl, by rw [h1]; omega, fun f hf => ?_⟩, rfl, by rw [show (AV.agg as).cells = as from rfl, h1]; omega, fun i c v hi hv => h4 i c v hi (by rw [Nat.zero_add]; exact hv)⟩
          have := (h3 f (by simpa using hf)).2
          simpa using this
      · cases e
    · -- array
      rename_i cs _ _ len el hu
      rw [hu] at hpl ⊢
      simp only [Bool.and_eq_true, List.contains_iff_mem, beq_iff_eq] at hpl
      obtain ⟨hel, hsz⟩ := hpl
      split at e
      · rename_i hl
        cases hm : (List.range len).mapM fun i => DataW.trod enc P W 0 (fun _ => true) true fuel el ((cs.drop (i * P.cellsOf el)).take (P.cellsOf el)) with
        | none => rw [hm] at e; cases e
        | some xs =>
          obtain ⟨as, h1, h2, h3⟩ := array_parts (P := P) (n := fuel) (w := W) (O := O) (γ := γ) (cs := cs) (e := el) rfl len (by omega) fun i hi => by
            obtain ⟨y, hy⟩ := mapM_range hm i hi
            exact ih hel hy
          exact ⟨.agg as, ⟨as, rfl, by rw [h1, hsz], h2⟩, rfl, by rw [show (AV.agg as).cells = as from rfl, h1, hl, hsz], h3⟩
      · cases e
    all_goals (first | (rename_i hu; rw [hu] at hpl; cases hpl; done) | (cases e; done) | skip)

/-! ### A law's row -/
def WTAll (P : Program) : List TypeId → List AV → Prop
  | [], [] => True
  | t :: ts, a :: as => (∃ n, WT P n t a) ∧ WTAll P ts as
  | _, _ => False
theorem Is.value {W : World} {O : Nat → Prop} {γ : Ghost} {a : AV} {v : Value} {n base : Nat} {t : TypeId} (hi : Is W O γ a v.cells.toList) (hw : WT P n t a) (hv : Value.okWide P W .any base t v) : V W O γ a v := by
  have single : (∀ cs, v ≠ .agg cs) → a.cells = [a] → V W O γ a v := by
    intro hne ha
    have hc : v.cells = #[v] := by cases v <;> first | rfl | exact absurd rfl (hne _)
    have := hi.2.2 0 a v (by rw [ha]; rfl) (by rw [hc]; rfl)
    exact this.2
  cases n with
  | zero => exact hw.elim
  | succ n =>
    unfold WT at hw
    unfold Value.okWide at hv
    split at hw
    · rename_i hu; rw [hu] at hv; obtain ⟨b, rfl⟩ := hw
      exact single (fun cs e => by subst e; simp [Cell.okWide, hu, Cell.ok] at hv) rfl
    · rename_i hu; rw [hu] at hv; obtain ⟨b, rfl, _⟩ := hw
      exact single (fun cs e => by subst e; simp [Cell.okWide, hu, Cell.ok] at hv) rfl
    · rename_i hu; rw [hu] at hv; obtain ⟨b, rfl, _⟩ := hw
      exact single (fun cs e => by subst e; simp [Cell.okWide, hu, Cell.ok] at hv) rfl
    · rename_i hu; rw [hu] at hv; obtain ⟨b, rfl, _⟩ := hw
      exact single (fun cs e => by subst e; simp [Cell.okWide, hu, Cell.ok] at hv) rfl
    · rename_i hu; rw [hu] at hv; obtain ⟨as, rfl, _⟩ := hw
      obtain ⟨cs, rfl, _⟩ := hv
      exact .agg as cs (by simpa [AV.cells, Value.cells] using hi.2.1) (fun i c hc => by
        have hlt : i < cs.size := by have := hi.2.1; have h2 := (List.getElem?_eq_some_iff.1 hc).1; simp [AV.cells, Value.cells] at this; omega
        exact (hi.2.2 i c cs[i] hc (by simp [Value.cells, hlt])).1) (fun i c u hc hu => (hi.2.2 i c u hc (by simpa [Value.cells] using hu)).2)
    · rename_i hu; rw [hu] at hv; obtain ⟨as, rfl, _⟩ := hw
      obtain ⟨cs, rfl, _⟩ := hv
      exact .agg as cs (by simpa [AV.cells, Value.cells] using hi.2.1) (fun i c hc => by
        have hlt : i < cs.size := by have := hi.2.1; have h2 := (List.getElem?_eq_some_iff.1 hc).1; simp [AV.cells, Value.cells] at this; omega
        exact (hi.2.2 i c cs[i] hc (by simp [Value.cells, hlt])).1) (fun i c u hc hu => (hi.2.2 i c u hc (by simpa [Value.cells] using hu)).2)
    · exact hw.elim
theorem args_AV {H : Type} {enc : TypeId × Value → H} {W : World} {O : Nat → Prop} (hO : ∀ b, ¬ O b) {γ : Ghost} {ts : List TypeId} (hts : plainTypes P ts = true) {base : Nat} : ∀ {params : List TypeId} {args : List Value} {ds : List (DataW H)} {ps : List MemPlace},
    (∀ t ∈ params, t ∈ ts) → DataW.TrodAll enc P W 0 (fun _ => true) true params args ds ps → (∀ (j : Nat) t v, params[j]? = some t → args[j]? = some v → Value.okWide P W .any base t v) →
    ∃ avs, WTAll P params avs ∧ VA W O γ avs args.toArray
  | [], args, ds, ps, _, h, _ => by
    obtain ⟨rfl, _, _⟩ := trodAll_nil h
    exact ⟨[], trivial, VA.nil⟩
  | t :: params, args, ds, ps, hp, h, hv => by
    obtain ⟨v, vs, d, ds', p, q, rfl, rfl, rfl, h0, h1⟩ := trodAll_cons h
    obtain ⟨fuel, hf⟩ := h0
    obtain ⟨a, hwt, hi⟩ := trod_AV (P := P) hO (γ := γ) hts fuel (hp t (by simp)) hf
    have hva := hi.value hwt (hv 0 t v rfl rfl)
    obtain ⟨avs, k1, k2⟩ := args_AV hO hts (fun t ht => hp t (by simp [ht])) h1 fun j t v ht hvj => hv (j + 1) t v (by simpa using ht) (by simpa using hvj)
    refine ⟨a :: avs, ⟨⟨fuel, hwt⟩, k1⟩, by simpa using k2.1, fun i x u hx hu => ?_⟩
    cases i with
    | zero => simp at hx hu; subst hx; subst hu; exact hva
    | succ n => exact k2.2 n x u (by simpa using hx) (by simpa using hu)
theorem exp1_true {h : AHeap} {d : Nat} {v : AV} {ids : List Nat} {b : Bool} (e : exp1 h d v = some (.val (.bool b), ids)) : v = .val (.bool b) := by
  cases d with
  | zero =>
    simp only [exp1] at e
    split at e
    · cases e; rfl
    · cases e
  | succ d =>
    simp only [exp1] at e
    split at e
    · cases e; rfl
    · split at e
      · cases hx : expL (exp1 h d) _ <;> rw [hx] at e <;> cases e
      · cases hx : expL (exp1 h d) _ <;> rw [hx] at e <;> cases e
      · cases hx : expL (exp1 h d) _ <;> rw [hx] at e <;> cases e
      · split at e
        · cases hx : expL (exp1 h d) _ <;> rw [hx] at e <;> cases e
        · cases e
      · cases e
      · cases e
theorem law_calls {md : FuncId → Nat} {fg : FuncId → Nat → List Bool} {H : Type} {enc : TypeId × Value → H} (hmix : P.follows .mixedOrders = true) {ts : List TypeId} (hts : plainTypes P ts = true) {f : FuncId} {params : List TypeId} (hp : ∀ t ∈ params, t ∈ ts)
    (hall : ∀ avs, WTAll P params avs → pcall P md fg f avs = some (.val (.bool true))) {W : World} {base : Nat} {args : Array Value} {ds : List (DataW H)} {ps : List MemPlace}
    (hA : DataW.TrodAll enc P W 0 (fun _ => true) true params args.toList ds ps) (hval : ∀ (j : Nat) t v, params[j]? = some t → args[j]? = some v → Value.okWide P W .any base t v) :
    Calls P f args W fun e W' => e = .returned (.bool true) ∧ Below W.heap.size W W' := by
  have hr : R (fun _ => False) [] (fun _ _ => none) W := empty_R fun b hb => hb.elim
  obtain ⟨avs, hwt, hva⟩ := args_AV (P := P) (O := Ow (fun _ => False) [] (fun _ _ => none)) (γ := fun _ _ => none) (fun b hb => hb.elim (fun h => h) own_nil) hts hp hA (fun j t v ht hv => hval j t v ht (by simpa using hv))
  have he := hall avs hwt
  unfold pcall pureRes at he
  split at he
  · rename_i v h1 hav
    split at he
    · rename_i v' ids hexp
      split at he
      · cases he
        have hv := exp1_true hexp
        subst hv
        refine (aval_sound hmix hav hr (by simpa using hva)).mono ?_
        rintro e w' ⟨u, γ', rfl, hg, hu⟩
        refine ⟨by rw [hu.val_inv], hg.step.os, hg.step.tape, hg.step.output, hg.step.size, fun k hk => hg.step.keep k hk own_nil⟩
      · cases he
    · cases he
  · cases he
theorem trodAll_stays {H : Type} {enc : TypeId × Value → H} (hl : laidOutB P = true) {W W' : World} (hb : Below W.heap.size W W') : ∀ {params : List TypeId} {args : List Value} {ds : List (DataW H)} {ps : List MemPlace},
    (∀ t ∈ params, P.readableRec t = true ∧ t < P.types.size) → DataW.TrodAll enc P W 0 (fun _ => true) true params args ds ps → DataW.TrodAll enc P W' 0 (fun b => decide (b < W.heap.size)) true params args ds ps
  | [], args, ds, ps, _, h => by
    obtain ⟨rfl, rfl, rfl⟩ := trodAll_nil h
    exact trodAll_mk0
  | t :: params, args, ds, ps, hp, h => by
    obtain ⟨v, vs, d, ds', p, q, rfl, rfl, rfl, h0, h1⟩ := trodAll_cons h
    have hlt : ∀ x ∈ p, x.block < W.heap.size := by obtain ⟨m, hm⟩ := h0; exact DataW.trod_lt m _ _ _ hm
    exact trodAll_cons_mk (Below.trod hl (hp t (by simp)).1 (hp t (by simp)).2 h0 hb hlt) (trodAll_stays hl hb (fun t ht => hp t (by simp [ht])) h1)
theorem trodAll_len {H : Type} {enc : TypeId × Value → H} {W : World} {base : Nat} {spare : Nat → Bool} {held : Bool} : ∀ {params : List TypeId} {args : List Value} {ds : List (DataW H)} {ps : List MemPlace},
    DataW.TrodAll enc P W base spare held params args ds ps → ds.length = params.length
  | [], args, ds, ps, h => by obtain ⟨_, rfl, _⟩ := trodAll_nil h; rfl
  | t :: params, args, ds, ps, h => by
    obtain ⟨v, vs, d, ds', p, q, rfl, rfl, rfl, h0, h1⟩ := trodAll_cons h
    simp [trodAll_len h1]
end
end Go.Ab
