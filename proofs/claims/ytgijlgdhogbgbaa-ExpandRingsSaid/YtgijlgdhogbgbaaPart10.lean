/- Parts of the proof, each with its own heading: A graph of names: the walk that looks for a ring, and the order that takes the first name whose needs are there. Terms as abstract values; memories, and some of one's own behind them. How much a term is; names. The document's names: In, Texts; aliases; first. The document's find and names. The document's Order: its loops. -/
import Derived.Test.YtgijlgdhogbgbaaPart9
set_option linter.unusedSimpArgs false
set_option linter.unusedVariables false
namespace Go.Proofs.Ytgijlgdhogbgbaa
abbrev Nm := List UInt8
section
variable {α : Type}
/-- What a map holds: keys, values, when they were put in. -/
abbrev MapS (α : Type) := List (Nm × α × Nat) × Nat
def mf (k : Nm) : List (Nm × α × Nat) → Nat → Option (Nat × α)
  | [], _ => none
  | e :: r, i => if k = e.1 then some (i, e.2.1) else mf k r (i + 1)
def mset (P : MapS α) (k : Nm) (t : α) : MapS α :=
  match mf k P.1 0 with
  | some (i, _) => (P.1.modify i fun e => (e.1, t, e.2.2), P.2)
  | none => (P.1 ++ [(k, t, P.2)], P.2 + 1)
def mg (P : MapS α) (k : Nm) : Option α := (mf k P.1 0).map Prod.snd
theorem mf_shift (k : Nm) : ∀ (es : List (Nm × α × Nat)) (i : Nat), mf k es i = (mf k es 0).map fun p => (p.1 + i, p.2)
  | [], i => rfl
  | e :: r, i => by
    unfold mf
    by_cases h : k = e.1
    · rw [if_pos h, if_pos h]; simp
    · rw [if_neg h, if_neg h, mf_shift k r (i + 1), mf_shift k r (0 + 1)]
      cases mf k r 0 with
      | none => rfl
      | some p => simp only [Option.map_some, Option.some.injEq, Prod.mk.injEq, and_true]; omega
theorem mf_snd (k : Nm) (es : List (Nm × α × Nat)) (i j : Nat) : (mf k es i).map Prod.snd = (mf k es j).map Prod.snd := by
  rw [mf_shift k es i, mf_shift k es j]; cases mf k es 0 <;> rfl
theorem mg_cons (e : Nm × α × Nat) (r : List (Nm × α × Nat)) (c : Nat) (k : Nm) : mg (e :: r, c) k = if k = e.1 then some e.2.1 else mg (r, c) k := by
  unfold mg
  show (if k = e.1 then some (0, e.2.1) else mf k r (0 + 1)).map _ = _
  by_cases h : k = e.1
  · rw [if_pos h, if_pos h]; rfl
  · rw [if_neg h, if_neg h]; exact mf_snd k r _ _
theorem mg_cnt (r : List (Nm × α × Nat)) (c d : Nat) (k : Nm) : mg (r, c) k = mg (r, d) k := rfl
theorem mf_app (k : Nm) (e : Nm × α × Nat) : ∀ (es : List (Nm × α × Nat)) (i : Nat), mf k (es ++ [e]) i = match mf k es i with | some p => some p | none => if k = e.1 then some (i + es.length, e.2.1) else none
  | [], i => by simp [mf]
  | a :: r, i => by
    rw [List.cons_append]
    unfold mf
    by_cases h : k = a.1
    · rw [if_pos h, if_pos h]
    · rw [if_neg h, if_neg h, mf_app k e r (i + 1)]
      cases mf k r (i + 1) with
      | some p => rfl
      | none => simp only [List.length_cons, show i + 1 + r.length = i + (r.length + 1) by omega]
theorem mf_modify (k k' : Nm) (t : α) : ∀ (es : List (Nm × α × Nat)) (i j : Nat) (u : α), mf k es i = some (i + j, u) → (mf k' (es.modify j fun e => (e.1, t, e.2.2)) i).map Prod.snd = if k' = k then some t else (mf k' es i).map Prod.snd
  | [], i, j, u, h => by cases h
  | a :: r, i, j, u, h => by
    unfold mf at h
    by_cases hk : k = a.1
    · rw [if_pos hk] at h
      have : j = 0 := by have := congrArg (Option.map Prod.fst) h; simp at this; omega
      subst this
      rw [List.modify_zero_cons]
      unfold mf
      dsimp only
      by_cases h' : k' = a.1
      · rw [if_pos h', if_pos (h'.trans hk.symm)]; rfl
      · rw [if_neg h', if_neg h', if_neg (fun e => h' (e.trans hk))]
    · rw [if_neg hk] at h
      rw [mf_shift] at h
      obtain ⟨⟨q, w⟩, hq, e⟩ := Option.map_eq_some_iff.1 h
      simp only [Prod.mk.injEq] at e
      obtain ⟨j, rfl⟩ : ∃ j', j = j' + 1 := ⟨j - 1, by omega⟩
      rw [List.modify_succ_cons]
      unfold mf
      by_cases h' : k' = a.1
      · rw [if_pos h', if_pos h', if_neg (fun e => hk (e.symm.trans h'))]
      · rw [if_neg h', if_neg h']
        refine mf_modify k k' t r (i + 1) j u ?_
        rw [mf_shift, hq]; simp only [Option.map_some, Option.some.injEq, Prod.mk.injEq]; exact ⟨by omega, e.2⟩
theorem mg_mset (P : MapS α) (k k' : Nm) (t : α) : mg (mset P k t) k' = if k' = k then some t else mg P k' := by
  unfold mset
  cases h : mf k P.1 0 with
  | some p =>
    obtain ⟨i, u⟩ := p
    exact mf_modify k k' t P.1 0 i u (by rw [h, Nat.zero_add])
  | none =>
    unfold mg
    show (mf k' (P.1 ++ [(k, t, P.2)]) 0).map _ = _
    rw [mf_app]
    by_cases hk : k' = k
    · subst hk; rw [h, if_pos rfl, if_pos rfl]; rfl
    · rw [if_neg hk, if_neg hk]
      cases mf k' P.1 0 <;> rfl
end
/-- How a name stands: 0, 1 (begun), 2 (done). -/
def st (s : MapS Int) (n : Nm) : Int := (mg s n).getD 0
theorem st_set (s : MapS Int) (k k' : Nm) (t : Int) : st (mset s k t) k' = if k' = k then t else st s k' := by
  unfold st; rw [mg_mset]; split <;> rfl
def dfsL (w : Nm → MapS Int → Option (Bool × MapS Int)) : List Nm → MapS Int → Option (Bool × MapS Int)
  | [], s => some (false, s)
  | n :: r, s =>
    match w n s with
    | some (false, s') => dfsL w r s'
    | x => x
/-- Does a name lead to itself? -/
def dfs (dep : Nm → List Nm) : Nat → Nm → MapS Int → Option (Bool × MapS Int)
  | 0, _, _ => none
  | f + 1, n, s =>
    if st s n = 1 then some (true, s)
    else if st s n = 2 then some (false, s)
    else match dfsL (dfs dep f) (dep n) (mset s n 1) with
      | some (false, s') => some (false, mset s' n 2)
      | x => x
/-- Each name's needs stand behind it. -/
def Topo (dep : Nm → List Nm) : List Nm → Prop
  | [] => True
  | n :: r => (∀ k ∈ dep n, k ∈ r) ∧ Topo dep r
def Chain (dep : Nm → List Nm) : List Nm → Prop
  | [] => True
  | [_] => True
  | a :: b :: r => a ∈ dep b ∧ Chain dep (b :: r)
/-- Names each of which needs one of them. -/
def Ring (N : List Nm) (dep : Nm → List Nm) : Prop := ∃ C : List Nm, C ≠ [] ∧ ∀ c ∈ C, c ∈ N ∧ ∃ d ∈ dep c, d ∈ C
structure Inv (N : List Nm) (dep : Nm → List Nm) (s : MapS Int) (B ord : List Nm) : Prop where
  one : ∀ n, st s n = 1 ↔ n ∈ B
  two : ∀ n, st s n = 2 ↔ n ∈ ord
  all : ∀ n, st s n = 0 ∨ st s n = 1 ∨ st s n = 2
  topo : Topo dep ord
  chain : Chain dep B
  inB : ∀ n ∈ B, n ∈ N
  inO : ∀ n ∈ ord, n ∈ N
def fresh (N : List Nm) (s : MapS Int) : Nat := (N.filter fun n => decide (st s n = 0)).length
theorem chain_tail {dep : Nm → List Nm} {a : Nm} {r : List Nm} (h : Chain dep (a :: r)) : Chain dep r := by
  cases r with
  | nil => trivial
  | cons b r => exact h.2
/-- Each of a chain's first part has its own before it. -/
theorem chain_ring {N : List Nm} {dep : Nm → List Nm} {n : Nm} : ∀ (B : List Nm) (a : Nm), Chain dep (a :: B) → (∀ x ∈ a :: B, x ∈ N) → n ∈ a :: B → ∃ C : List Nm, a ∈ C ∧ n ∈ C ∧ (∀ c ∈ C, c ∈ N) ∧ ∀ c ∈ C, c ≠ a → ∃ d ∈ dep c, d ∈ C
  | B, a, hc, hN, hn => by
    by_cases h : n = a
    · subst h
      exact ⟨[n], by simp, by simp, by intro c hc; rw [List.mem_singleton] at hc; rw [hc]; exact hN n (by simp), by intro c hc hne; exact absurd (List.mem_singleton.1 hc) hne⟩
    · cases B with
      | nil => simp at hn; exact absurd hn h
      | cons b r =>
        obtain ⟨C, h1, h2, h3, h4⟩ := chain_ring r b hc.2 (fun x hx => hN x (List.mem_cons_of_mem _ hx)) (by rcases List.mem_cons.1 hn with h' | h'; exact absurd h' h; exact h')
        refine ⟨a :: C, by simp, by simp [h2], ?_, ?_⟩
        · intro c hc
          rcases List.mem_cons.1 hc with rfl | hc
          · exact hN _ (by simp)
          · exact h3 c hc
        · intro c hc' hne
          rcases List.mem_cons.1 hc' with rfl | hcC
          · exact absurd rfl hne
          · by_cases hb : c = b
            · subst hb; exact ⟨a, hc.1, by simp⟩
            · obtain ⟨d, hd, hdC⟩ := h4 c hcC hb
              exact ⟨d, hd, by simp [hdC]⟩
theorem ring_of {N : List Nm} {dep : Nm → List Nm} {n a : Nm} {B : List Nm} (hc : Chain dep (a :: B)) (hN : ∀ x ∈ a :: B, x ∈ N) (hn : n ∈ a :: B) (hd : n ∈ dep a) : Ring N dep := by
  obtain ⟨C, h1, h2, h3, h4⟩ := chain_ring B a hc hN hn
  refine ⟨C, (by rintro rfl; cases h1), fun c hc => ⟨h3 c hc, ?_⟩⟩
  by_cases h : c = a
  · subst h; exact ⟨n, hd, h2⟩
  · exact h4 c hc h
theorem filt_lt {p q : Nm → Bool} (hpq : ∀ x, q x = true → p x = true) : ∀ (N : List Nm), (N.filter q).length ≤ (N.filter p).length
  | [] => by simp
  | a :: r => by
    have := filt_lt hpq r
    rw [List.filter_cons, List.filter_cons]
    by_cases h : q a = true
    · rw [if_pos h, if_pos (hpq a h)]; simpa using this
    · rw [if_neg h]; split
      · simp; omega
      · exact this
theorem filt_strict {p q : Nm → Bool} (hpq : ∀ x, q x = true → p x = true) {n : Nm} : ∀ (N : List Nm), n ∈ N → p n = true → q n = false → (N.filter q).length < (N.filter p).length
  | [], h, _, _ => by cases h
  | a :: r, h, hp, hq => by
    rw [List.filter_cons, List.filter_cons]
    rcases List.mem_cons.1 h with rfl | h
    · rw [if_pos hp, if_neg (by rw [hq]; decide)]
      have := filt_lt hpq r
      simp; omega
    · have := filt_strict hpq r h hp hq
      by_cases h' : q a = true
      · rw [if_pos h', if_pos (hpq a h')]; simpa using this
      · rw [if_neg h']; split
        · simp; omega
        · exact this
/-- What the walk of one name brings. -/
def DfsOk (N : List Nm) (dep : Nm → List Nm) (w : Nm → MapS Int → Option (Bool × MapS Int)) (f : Nat) : Prop :=
  ∀ (n : Nm) (s : MapS Int) (B ord : List Nm), Inv N dep s B ord → n ∈ N → (∀ a r, B = a :: r → n ∈ dep a) → fresh N s < f →
    (∃ s', w n s = some (true, s') ∧ Ring N dep) ∨ (∃ s' o', w n s = some (false, s') ∧ Inv N dep s' B (o' ++ ord) ∧ n ∈ o' ++ ord ∧ fresh N s' ≤ fresh N s)
theorem dfsL_ok {N : List Nm} {dep : Nm → List Nm} {w : Nm → MapS Int → Option (Bool × MapS Int)} {f : Nat} (hw : DfsOk N dep w f) : ∀ (l : List Nm) (s : MapS Int) (B ord : List Nm), Inv N dep s B ord → (∀ n ∈ l, n ∈ N) → (∀ n ∈ l, ∀ a r, B = a :: r → n ∈ dep a) → fresh N s < f →
    (∃ s', dfsL w l s = some (true, s') ∧ Ring N dep) ∨ (∃ s' o', dfsL w l s = some (false, s') ∧ Inv N dep s' B (o' ++ ord) ∧ (∀ n ∈ l, n ∈ o' ++ ord) ∧ fresh N s' ≤ fresh N s)
  | [], s, B, ord, hi, _, _, _ => .inr ⟨s, [], rfl, hi, (by intro n h; cases h), Nat.le_refl _⟩
  | n :: r, s, B, ord, hi, hN, hd, hf => by
    unfold dfsL
    rcases hw n s B ord hi (hN n (by simp)) (hd n (by simp)) hf with ⟨s', e, hr⟩ | ⟨s', o', e, i', hm, hl⟩
    · rw [e]; exact .inl ⟨s', rfl, hr⟩
    · rw [e]
      rcases dfsL_ok hw r s' B (o' ++ ord) i' (fun x hx => hN x (by simp [hx])) (fun x hx => hd x (by simp [hx])) (by omega) with ⟨s2, e2, hr⟩ | ⟨s2, o2, e2, i2, hm2, hl2⟩
      · exact .inl ⟨s2, e2, hr⟩
      · refine .inr ⟨s2, o2 ++ o', e2, by rw [List.append_assoc]; exact i2, ?_, by omega⟩
        intro x hx
        rw [List.append_assoc]
        rcases List.mem_cons.1 hx with rfl | hx
        · exact List.mem_append_right _ hm
        · exact hm2 x hx
theorem dfs_ok {N : List Nm} {dep : Nm → List Nm} (hdep : ∀ n ∈ N, ∀ k ∈ dep n, k ∈ N) : ∀ f : Nat, DfsOk N dep (dfs dep f) f
  | 0 => fun n s B ord hi hn hd hf => by omega
  | f + 1 => fun n s B ord hi hn hd hf => by
    rw [dfs]
    by_cases h1 : st s n = 1
    · rw [if_pos h1]
      refine .inl ⟨s, rfl, ?_⟩
      have hB := (hi.one n).1 h1
      cases B with
      | nil => cases hB
      | cons a r => exact ring_of hi.chain hi.inB hB (hd a r rfl)
    · rw [if_neg h1]
      by_cases h2 : st s n = 2
      · rw [if_pos h2]
        exact .inr ⟨s, [], rfl, hi, (hi.two n).1 h2, Nat.le_refl _⟩
      · rw [if_neg h2]
        have h0 : st s n = 0 := by rcases hi.all n with h | h | h; exact h; exact absurd h h1; exact absurd h h2
        have hst : ∀ k, st (mset s n 1) k = if k = n then 1 else st s k := fun k => st_set s n k 1
        have hi1 : Inv N dep (mset s n 1) (n :: B) ord := by
          refine ⟨fun k => ?_, fun k => ?_, fun k => ?_, hi.topo, ?_, ?_, hi.inO⟩
          · rw [hst]; split
            · rename_i h; simp [h]
            · rename_i h; rw [hi.one k]; simp [h]
          · rw [hst]; split
            · rename_i h; subst h
              have := hi.two k
              constructor
              · intro h; omega
              · intro h; exact absurd (this.2 h) h2
            · exact hi.two k
          · rw [hst]; split
            · exact .inr (.inl rfl)
            · exact hi.all k
          · cases B with
            | nil => trivial
            | cons a r => exact ⟨hd a r rfl, hi.chain⟩
          · intro x hx
            rcases List.mem_cons.1 hx with rfl | hx
            · exact hn
            · exact hi.inB x hx
        have hfr : fresh N (mset s n 1) < fresh N s := by
          unfold fresh
          refine filt_strict (fun x hx => ?_) N hn (by simpa using h0) (by rw [hst]; simp)
          rw [decide_eq_true_eq] at hx ⊢
          rw [hst] at hx
          split at hx
          · omega
          · exact hx
        rcases dfsL_ok (dfs_ok hdep f) (dep n) (mset s n 1) (n :: B) ord hi1 (hdep n hn) (fun x hx a r e => by cases e; exact hx) (by omega) with ⟨s', e, hr⟩ | ⟨s', o', e, i', hm, hl⟩
        · rw [e]; exact .inl ⟨s', rfl, hr⟩
        · rw [e]
          have hst2 : ∀ k, st (mset s' n 2) k = if k = n then 2 else st s' k := fun k => st_set s' n k 2
          refine .inr ⟨mset s' n 2, n :: o', rfl, ?_, by simp, ?_⟩
          · refine ⟨fun k => ?_, fun k => ?_, fun k => ?_, ⟨hm, i'.topo⟩, hi.chain, hi.inB, fun x hx => (List.mem_cons.1 hx).elim (fun h => h ▸ hn) (i'.inO x)⟩
            · rw [hst2]; split
              · rename_i h; subst h
                constructor
                · intro h; omega
                · intro h; exact absurd ((hi.one k).2 h) h1
              · rename_i h; rw [i'.one k]; simp [h]
            · rw [hst2]; split
              · rename_i h; simp [h]
              · rename_i h; rw [i'.two k]; simp [h]
            · rw [hst2]; split
              · exact .inr (.inr rfl)
              · exact i'.all k
          · refine Nat.le_trans ?_ (Nat.le_trans hl (Nat.le_of_lt hfr))
            unfold fresh
            refine filt_lt (fun x hx => ?_) N
            rw [decide_eq_true_eq] at hx ⊢
            rw [hst2] at hx
            split at hx
            · omega
            · exact hx
/-- The first name that is not there while all it needs is. -/
def rdy (dep : Nm → List Nm) (out : List Nm) (n : Nm) : Bool := decide (n ∉ out) && (dep n).all fun k => decide (k ∈ out)
def greedy (N : List Nm) (dep : Nm → List Nm) : Nat → List Nm → Option (List Nm)
  | 0, out => some out
  | f + 1, out =>
    match N.find? (rdy dep out) with
    | none => none
    | some n => greedy N dep f (out ++ [n])
/-- What was taken: names, each once. -/
structure Took (N out : List Nm) : Prop where
  sub : ∀ n ∈ out, n ∈ N
  nodup : out.Nodup
theorem rdy_iff {dep : Nm → List Nm} {out : List Nm} {n : Nm} : rdy dep out n = true ↔ n ∉ out ∧ ∀ k ∈ dep n, k ∈ out := by
  unfold rdy; simp
theorem took_add {N out : List Nm} {dep : Nm → List Nm} {n : Nm} (h : Took N out) (e : N.find? (rdy dep out) = some n) : Took N (out ++ [n]) := by
  have h1 := rdy_iff.1 (List.find?_some e)
  refine ⟨fun x hx => ?_, ?_⟩
  · rcases List.mem_append.1 hx with hx | hx
    · exact h.sub x hx
    · rw [List.mem_singleton.1 hx]; exact List.mem_of_find?_eq_some e
  · rw [List.nodup_append]
    exact ⟨h.nodup, by simp, by intro a ha b hb; rw [List.mem_singleton.1 hb]; rintro rfl; exact h1.1 ha⟩
theorem nodup_le {a : List Nm} : ∀ {b : List Nm}, a.Nodup → (∀ x ∈ a, x ∈ b) → a.length ≤ b.length := by
  induction a with
  | nil => intro b _ _; simp
  | cons x a ih =>
    intro b hn hs
    rw [List.nodup_cons] at hn
    have hx := hs x (by simp)
    have := ih (b := b.erase x) hn.2 (fun y hy => (List.mem_erase_of_ne (by rintro rfl; exact hn.1 hy)).2 (hs y (by simp [hy])))
    rw [List.length_erase_of_mem hx] at this
    have := List.length_pos_of_mem hx
    simp; omega
theorem took_le {N out : List Nm} (h : Took N out) : out.length ≤ N.length := nodup_le h.nodup h.sub
/-- All are there just if as many are there as there are. -/
theorem took_all {N out : List Nm} (hN : N.Nodup) (h : Took N out) : (∀ n ∈ N, n ∈ out) ↔ out.length = N.length := by
  constructor
  · intro ha
    exact Nat.le_antisymm (took_le h) (nodup_le hN ha)
  · intro he n hn
    apply Classical.byContradiction
    intro hno
    have := nodup_le (a := n :: out) (b := N) (List.nodup_cons.2 ⟨hno, h.nodup⟩) (by intro x hx; rcases List.mem_cons.1 hx with rfl | hx; exact hn; exact h.sub x hx)
    simp at this; omega
theorem topo_ready {dep : Nm → List Nm} {out : List Nm} : ∀ (o : List Nm), Topo dep o → (∃ n ∈ o, n ∉ out) → ∃ n ∈ o, rdy dep out n = true
  | [], _, h => by obtain ⟨n, hn, _⟩ := h; cases hn
  | a :: r, ht, h => by
    by_cases hr : ∃ n ∈ r, n ∉ out
    · obtain ⟨n, hn, h2⟩ := topo_ready r ht.2 hr
      exact ⟨n, by simp [hn], h2⟩
    · obtain ⟨n, hn, ho⟩ := h
      have hna : n = a := by
        rcases List.mem_cons.1 hn with h' | h'
        · exact h'
        · exact absurd ⟨n, h', ho⟩ hr
      subst hna
      refine ⟨n, by simp, rdy_iff.2 ⟨ho, fun k hk => ?_⟩⟩
      apply Classical.byContradiction
      intro hno
      exact hr ⟨k, ht.1 k hk, hno⟩
theorem find_some {N : List Nm} {p : Nm → Bool} (h : ∃ n ∈ N, p n = true) : ∃ n, N.find? p = some n := by
  cases e : N.find? p with
  | some n => exact ⟨n, rfl⟩
  | none =>
    obtain ⟨n, hn, hp⟩ := h
    exact absurd hp (by simpa using List.find?_eq_none.1 e n hn)
/-- A ring stops the order. -/
theorem ring_stuck {N : List Nm} {dep : Nm → List Nm} (hr : Ring N dep) : ∀ (f : Nat) (out : List Nm), Took N out → (∀ C : List Nm, (∀ c ∈ C, c ∈ N ∧ ∃ d ∈ dep c, d ∈ C) → ∀ c ∈ C, c ∉ out) → out.length + f = N.length → N.Nodup → greedy N dep f out = none
  | 0, out, ht, hC, hl, hN => by
    exfalso
    obtain ⟨C, hne, hc⟩ := hr
    cases C with
    | nil => exact hne rfl
    | cons c r => exact hC _ hc c (by simp) ((took_all hN ht).2 (by omega) c (hc c (by simp)).1)
  | f + 1, out, ht, hC, hl, hN => by
    rw [greedy]
    cases e : N.find? (rdy dep out) with
    | none => rfl
    | some n =>
      have h1 := rdy_iff.1 (List.find?_some e)
      refine ring_stuck hr f (out ++ [n]) (took_add ht e) ?_ (by simp; omega) hN
      intro C hc c hcC hm
      rcases List.mem_append.1 hm with hm | hm
      · exact hC C hc c hcC hm
      · rw [List.mem_singleton.1 hm] at hcC
        obtain ⟨d, hd, hdC⟩ := (hc n hcC).2
        exact hC C hc d hdC (h1.2 d hd)
theorem inv_nil (N : List Nm) (dep : Nm → List Nm) : Inv N dep ([], 0) [] [] :=
  ⟨fun n => by simp [st, mg, mf], fun n => by simp [st, mg, mf], fun n => .inl rfl, trivial, trivial, (by intro n h; cases h), (by intro n h; cases h)⟩
/-- The walk's answer is the order's. -/
theorem dfs_greedy {N : List Nm} {dep : Nm → List Nm} (hN : N.Nodup) (hdep : ∀ n ∈ N, ∀ k ∈ dep n, k ∈ N) : ∃ b s', dfsL (dfs dep (N.length + 1)) N ([], 0) = some (b, s') ∧
    (b = true → greedy N dep N.length [] = none) ∧
    (b = false → ∀ out, Took N out → out.length < N.length → ∃ n, N.find? (rdy dep out) = some n) := by
  have hf : fresh N ([], 0) < N.length + 1 := by
    have := List.length_filter_le (fun n => decide (st ([], 0) n = 0)) N
    unfold fresh; omega
  have h0 : Took N [] := ⟨(by intro n h; cases h), by simp⟩
  rcases dfsL_ok (dfs_ok hdep (N.length + 1)) N ([], 0) [] [] (inv_nil N dep) (fun n hn => hn) (fun n hn a r h => by cases h) hf with ⟨s', e, hr⟩ | ⟨s', o', e, i', hm, hl⟩
  · exact ⟨true, s', e, fun _ => ring_stuck hr _ [] h0 (by intro C _ c _ h; cases h) (by simp) hN, (by intro h; cases h)⟩
  · refine ⟨false, s', e, (by intro h; cases h), fun _ out ht hlt => ?_⟩
    have : ∃ n ∈ o' ++ [], n ∉ out := by
      apply Classical.byContradiction
      intro hno
      have : ∀ n ∈ N, n ∈ out := fun n hn => Classical.byContradiction fun h => hno ⟨n, hm n hn, h⟩
      have := (took_all hN ht).1 this
      omega
    obtain ⟨n, hn, hp⟩ := topo_ready _ i'.topo this
    refine find_some ⟨n, ?_, hp⟩
    exact i'.inO n hn
end Go.Proofs.Ytgijlgdhogbgbaa
namespace Go.Proofs.Ytgijlgdhogbgbaa
open Go Go.Ab Go.Proofs
set_option maxRecDepth 100000
set_option linter.unusedSimpArgs false
set_option linter.unusedVariables false
def txt (l : List UInt8) : ByteArray := ⟨l.toArray⟩
theorem txt_of (s : ByteArray) : ∃ l, s = txt l := ⟨s.data.toList, by apply ByteArray.ext; simp [txt]⟩
theorem txt_list (l : List UInt8) : (txt l).data.toList = l := by simp [txt]
theorem txt_size (l : List UInt8) : (txt l).size = l.length := by show l.toArray.size = _; simp
theorem txt_inj {a b : List UInt8} : txt a = txt b ↔ a = b := ⟨fun h => by have := congrArg (fun x => x.data.toList) h; simpa [txt] using this, fun h => by rw [h]⟩
theorem txt_nil_iff (s : List UInt8) : txt s = ⟨#[]⟩ ↔ s = [] := txt_inj (b := [])
theorem txt_eq_nil (s : List UInt8) : (txt s = ⟨#[]⟩) = (s = []) := propext (txt_nil_iff s)
theorem hget_set_eq {h : AHeap} {i : Nat} {o : AObj} (hi : i < h.length) : hget (h.set i o) i = o := by
  unfold hget; rw [List.getD_eq_getElem?_getD, List.getElem?_set_self hi]; rfl
theorem hget_set_ne {h : AHeap} {i j : Nat} {o : AObj} (hij : ¬ i = j) : hget (h.set i o) j = hget h j := by
  unfold hget; rw [List.getD_eq_getElem?_getD, List.getElem?_set_ne hij, ← List.getD_eq_getElem?_getD]
theorem hget_push {h : AHeap} {o : AObj} {i : Nat} (hi : i < h.length) : hget (h ++ [o]) i = hget h i := by
  unfold hget; rw [List.getD_eq_getElem?_getD, List.getElem?_append_left hi, ← List.getD_eq_getElem?_getD]
theorem hget_last {h : AHeap} {o : AObj} : hget (h ++ [o]) h.length = o := by
  unfold hget; rw [List.getD_eq_getElem?_getD, List.getElem?_append_right (Nat.le_refl _), Nat.sub_self]; rfl
theorem hget_out {h : AHeap} {i : Nat} (hi : h.length ≤ i) : hget h i = .dead := by
  unfold hget; rw [List.getD_eq_getElem?_getD, List.getElem?_eq_none hi]; rfl
theorem hget_app {h : AHeap} (l : AHeap) {i : Nat} (hi : i < h.length) : hget (h ++ l) i = hget h i := by
  unfold hget; rw [List.getD_eq_getElem?_getD, List.getElem?_append_left hi, ← List.getD_eq_getElem?_getD]
theorem hlt_of {h : AHeap} {i : Nat} {o : AObj} (e : hget h i = o) (ho : o ≠ .dead) : i < h.length := Nat.lt_of_not_le fun hle => ho (by rw [← e, hget_out hle])
section
variable {h : AHeap} {n : Nat}
theorem sb_get0 (A : AObj) (l : AHeap) (hn : h.length = n) : hget (h ++ A :: l) n = A := by
  subst hn; unfold hget; rw [List.getD_eq_getElem?_getD, List.getElem?_append_right (Nat.le_refl _), Nat.sub_self]; rfl
theorem sb_get1 (A B : AObj) (l : AHeap) (hn : h.length = n) : hget (h ++ A :: B :: l) (n + 1) = B := by
  subst hn; unfold hget; rw [List.getD_eq_getElem?_getD, List.getElem?_append_right (by omega), show h.length + 1 - h.length = 1 by omega]; rfl
theorem sb_get2 (A B C : AObj) (l : AHeap) (hn : h.length = n) : hget (h ++ A :: B :: C :: l) (n + 2) = C := by
  subst hn; unfold hget; rw [List.getD_eq_getElem?_getD, List.getElem?_append_right (by omega), show h.length + 2 - h.length = 2 by omega]; rfl
theorem sb_set0 (A D : AObj) (l : AHeap) (hn : h.length = n) : (h ++ A :: l).set n D = h ++ D :: l := by
  subst hn; rw [List.set_append_right _ _ (Nat.le_refl _), Nat.sub_self]; rfl
theorem sb_set1 (A B D : AObj) (l : AHeap) (hn : h.length = n) : (h ++ A :: B :: l).set (n + 1) D = h ++ A :: D :: l := by
  subst hn; rw [List.set_append_right _ _ (by omega), show h.length + 1 - h.length = 1 by omega]; rfl
theorem sb_set2 (A B C D : AObj) (l : AHeap) (hn : h.length = n) : (h ++ A :: B :: C :: l).set (n + 2) D = h ++ A :: B :: D :: l := by
  subst hn; rw [List.set_append_right _ _ (by omega), show h.length + 2 - h.length = 2 by omega]; rfl
theorem set_last (o o' : AObj) : (h ++ [o]).set h.length o' = h ++ [o'] := sb_set0 o o' [] rfl
end
theorem tail_nil (p : List Nat → Prop) : (∀ T ∈ (subs []).tail, p T) ↔ True := by simp [subs]
theorem subs_nil_all (p : List Nat → Prop) : (∀ T ∈ subs [], p T) ↔ p [] := by simp [subs]
/-- A type, a pattern or an expression. -/
inductive Tm where
  | mk (kind : Int) (pkg name : List UInt8) (n : Int) (kids : List Tm)
def Tm.kind : Tm → Int | .mk k _ _ _ _ => k
def Tm.pkg : Tm → List UInt8 | .mk _ p _ _ _ => p
def Tm.name : Tm → List UInt8 | .mk _ _ m _ _ => m
def Tm.n : Tm → Int | .mk _ _ _ n _ => n
def Tm.kids : Tm → List Tm | .mk _ _ _ _ l => l
mutual
def tmV : Tm → AV | .mk k p m n l => .agg [.int k, .str (txt p), .str (txt m), .int n, .slc false (tmsV l)]
def tmsV : List Tm → List AV | [] => [] | t :: r => tmV t :: tmsV r
end
theorem tmsV_eq : ∀ l, tmsV l = l.map tmV
  | [] => by simp [tmsV]
  | t :: r => by rw [tmsV, tmsV_eq r]; rfl
mutual
/-- How many terms. -/
def tsz : Tm → Nat | .mk _ _ _ _ l => 1 + tszs l
def tszs : List Tm → Nat | [] => 0 | t :: r => tsz t + tszs r
end
mutual
theorem solid_tm : ∀ t : Tm, solid (tmV t) = true
  | .mk k p m n l => by rw [tmV]; simp only [solid, solidL, Bool.not_false, Bool.true_and, Bool.and_true]; exact solid_tms l
theorem solid_tms : ∀ l : List Tm, solidL (tmsV l) = true
  | [] => by simp [tmsV, solidL]
  | t :: r => by rw [tmsV]; simp only [solidL, solid_tm t, solid_tms r, Bool.and_self]
end
mutual
/-- As long as Go's slices and texts may be. -/
def Tm.fit : Tm → Prop | .mk k p m n l => p.length ≤ 9223372036854775807 ∧ m.length ≤ 9223372036854775807 ∧ l.length ≤ 9223372036854775807 ∧ Tm.fits l
def Tm.fits : List Tm → Prop | [] => True | t :: r => t.fit ∧ Tm.fits r
end
theorem fits_mem : ∀ {l : List Tm}, Tm.fits l → ∀ t ∈ l, t.fit
  | [], _, t, h => by cases h
  | a :: r, h, t, ht => by
    rw [Tm.fits] at h
    rcases List.mem_cons.1 ht with rfl | ht
    · exact h.1
    · exact fits_mem h.2 t ht
theorem tmV_mk (k : Int) (p m : List UInt8) (n : Int) (l : List Tm) : tmV ⟨k, p, m, n, l⟩ = .agg [.int k, .str (txt p), .str (txt m), .int n, .slc false (l.map tmV)] := by rw [tmV, tmsV_eq]
theorem arr_exp {h : AHeap} {id g k : Nat} {es : List AV} (ho : hget h id = .arr k es g) (hs : solidL es = true) (d : Nat) : exp1 h (d + 1) (.arr id 0 es.length g k) = some (.slc false es, [id]) := by
  have hv : sview h (.arr id 0 es.length g k) = some es := sview_arr _ _ _ _ _ ho rfl
  simp only [exp1, hv, expL_solid hs]
  rfl
theorem str_eq (a b : List UInt8) : (txt a = txt b) = (a = b) := propext txt_inj
abbrev sV (s : List UInt8) : AV := .val (.string (txt s))
def ix (k : List UInt8) : List (List UInt8) → Nat → Option Nat
  | [], _ => none
  | e :: r, i => if k = e then some i else ix k r (i + 1)
theorem ix_mem (k : List UInt8) : ∀ (l : List (List UInt8)) (i : Nat), (ix k l i).isSome = decide (k ∈ l)
  | [], i => by simp [ix]
  | e :: r, i => by
    unfold ix
    by_cases h : k = e
    · rw [if_pos h]; simp [h]
    · rw [if_neg h, ix_mem k r (i + 1)]; simp [h]
theorem solid_names : ∀ l : List (List UInt8), solidL (l.map sV) = true
  | [] => rfl
  | s :: r => by rw [List.map_cons, solidL, solid_names r]; rfl
/-- A call by value, of what is told as values. -/
theorem doCall_exp {f : FuncId} {xs ys : List AV} {h : AHeap} {r : AV} (hm : md f = 0) (hs : expL (exp1 h expDepth) xs = some (ys, [])) (e : pcall Try.prog md fg f ys = some r) : doCall md (aval Try.prog md fg) f xs h = some (r, h) := by
  rw [doCall_0 (by omega)]; unfold doCall0
  rw [if_pos (.inl hm), hs]
  simp only [canFrz_nil, if_true]
  rw [← pcall_eq, e]
  simp [frzAll]
theorem mid_get {α : Type} (A : List α) (z : α) (B : List α) {i : Nat} (h : A.length = i) : (A ++ z :: B)[i]? = some z := by
  subst h; rw [List.getElem?_append_right (Nat.le_refl _), Nat.sub_self]; rfl
theorem mid_set {α : Type} (A : List α) (z x : α) (B : List α) {i : Nat} (h : A.length = i) : (A ++ z :: B).set i x = A ++ x :: B := by
  subst h; rw [List.set_append_right _ _ (Nat.le_refl _), Nat.sub_self]; rfl
end Go.Proofs.Ytgijlgdhogbgbaa
namespace Go.Proofs.Ytgijlgdhogbgbaa
open Go Go.Ab Go.Proofs
set_option maxRecDepth 100000
set_option linter.unusedSimpArgs false
set_option linter.unusedVariables false
def W (t : Tm) : Prop := ∀ d : Int, 0 ≤ d → d ≤ 91 → ∃ w : Int, 0 ≤ w ∧ w ≤ 100000 ∧ (w < 100000 → (tsz t : Int) ≤ w) ∧ pcall Try.prog md fg 36 [tmV t, .int d] = some (.int w)
theorem w_loop (k : Int) (p m : List UInt8) (n : Int) (l : List Tm) (hl : l.length ≤ 300) (hW : ∀ t ∈ l, W t) (d : Int) (hd0 : 0 ≤ d) (hd : d ≤ 90) : ∀ (r : List Tm) (i : Nat) (c : Int), l.drop i = r → i ≤ l.length → 0 ≤ c → c ≤ 200000 → ∃ c' : Int, 0 ≤ c' ∧ c' ≤ 200000 ∧ (c' < 100000 → c + (tszs r : Int) ≤ c') ∧
    lrun Try.prog md fg (fg 36) (loopOf Try.f36 0) (fg 36 1) ((.unk :: (.int d) :: (.ptr 0 0) :: .unk :: .unk :: (.int c) :: .unk :: .unk :: .unk :: .unk :: .unk :: .unk :: .unk :: .unk :: .unk :: .unk :: .unk :: .unk :: .unk :: .unk :: .unk :: .unk :: .unk :: .unk :: .unk :: .unk :: .unk :: .unk :: (.int l.length) :: (.int i) :: .unk :: .unk :: .unk :: .unk :: .unk :: .unk :: .unk :: .unk :: .unk :: .unk :: .unk :: .unk :: .unk :: .unk :: .unk :: .unk :: .unk :: [] : List AV)) [.vars [.int k, .str (txt p), .str (txt m), .int n, .slc false (l.map tmV)]] = some (.exit 0, (.unk :: (.int d) :: (.ptr 0 0) :: .unk :: .unk :: (.int c') :: .unk :: .unk :: .unk :: .unk :: .unk :: .unk :: .unk :: .unk :: .unk :: .unk :: .unk :: .unk :: .unk :: .unk :: .unk :: .unk :: .unk :: .unk :: .unk :: .unk :: .unk :: .unk :: (.int l.length) :: (.int l.length) :: .unk :: .unk :: .unk :: .unk :: .unk :: .unk :: .unk :: .unk :: .unk :: .unk :: .unk :: .unk :: .unk :: .unk :: .unk :: .unk :: .unk :: [] : List AV), [.vars [.int k, .str (txt p), .str (txt m), .int n, .slc false (l.map tmV)]])
  | [], i, c, hdr, hi, h0, h1 => by
    have : i = l.length := by have := congrArg List.length hdr; simp at this; omega
    subst this
    refine ⟨c, h0, h1, fun _ => by simp [tszs], ?_⟩
    rw [lrun_atC loop36_0]
    simp (implicitDefEqProofs := false) (disch := omega) only [go_sem, Nat.reduceAdd, Nat.reduceSub, Nat.reduceMul, Nat.reduceLT, Nat.reduceLeDiff, Nat.reduceEqDiff, List.drop_zero, List.take_succ_cons, List.take_zero, List.drop_succ_cons, Bool.and_true, Bool.true_and, Bool.and_false, Bool.false_and, BitVec.reduceOfInt, Nat.zero_add, Nat.mul_one, Nat.add_zero, Int.zero_add, Int.reduceToNat, Nat.reducePow, ↓reduceIte, reduceCtorEq, Int.reduceLE, Int.reduceLT, Int.reduceEq, Int.reduceNe, Int.reduceAdd, Int.reduceSub, Int.reduceMul, Int.reduceNeg, Nat.reduceBEq, show regOf Try.f36 5 = Code.region _ _ _ from rfl]
  | ⟨k2, p2, m2, n2, l2⟩ :: r, i, c, hdr, hi, h0, h1 => by
    have hx : l[i]? = some ⟨k2, p2, m2, n2, l2⟩ := by have := congrArg (·[0]?) hdr; simpa using this
    have hlt : i < l.length := (List.getElem?_eq_some_iff.1 hx).1
    have hd' : l.drop (i + 1) = r := by rw [← List.tail_drop, hdr]; rfl
    have ht : ((i : Int)).toNat = i := by omega
    by_cases hc : c < 100000
    · obtain ⟨w, w0, w1, w2, w3⟩ := hW _ (List.mem_of_getElem? hx) (d + 1) (by omega) (by omega)
      have cw : ∀ h : AHeap, doCall md (aval Try.prog md fg) 36 [tmV ⟨k2, p2, m2, n2, l2⟩, .int (d + 1)] h = some (.int w, h) := fun h => doCall_pure md36 (by simp only [solidL, solid_tm, Bool.true_and]; rfl) w3
      obtain ⟨c', e0, e1, e2, e3⟩ := w_loop k p m n l hl hW d hd0 hd r (i + 1) (c + w) hd' (by omega) (by omega) (by omega)
      refine ⟨c', e0, e1, fun h => by rw [tszs]; have := e2 h; have := w2 (by omega); omega, ?_⟩
      rw [tmV_mk] at cw
      rw [← e3]
      rw [lrun_atC loop36_0]
      simp (implicitDefEqProofs := false) (disch := omega) only [go_sem, Nat.reduceAdd, Nat.reduceSub, Nat.reduceMul, Nat.reduceLT, Nat.reduceLeDiff, Nat.reduceEqDiff, List.drop_zero, List.take_succ_cons, List.take_zero, List.drop_succ_cons, Bool.and_true, Bool.true_and, Bool.and_false, Bool.false_and, BitVec.reduceOfInt, Nat.zero_add, Nat.mul_one, Nat.add_zero, Int.zero_add, Int.reduceToNat, Nat.reducePow, ↓reduceIte, reduceCtorEq, Int.reduceLE, Int.reduceLT, Int.reduceEq, Int.reduceNe, Int.reduceAdd, Int.reduceSub, Int.reduceMul, Int.reduceNeg, Nat.reduceBEq, show regOf Try.f36 5 = Code.region _ _ _ from rfl, show regOf Try.f36 6 = Code.region _ _ _ from rfl, show regOf Try.f36 7 = Code.region _ _ _ from rfl, show regOf Try.f36 8 = Code.region _ _ _ from rfl, show regOf Try.f36 9 = Code.region _ _ _ from rfl, List.getElem?_map, ht, hx, Option.map_some, tmV_mk, cw]
      all_goals (congr 1 <;> simp only [List.cons.injEq, AV.val.injEq, Value.int.injEq, Value.bool.injEq, true_and, and_true] <;> omega)
    · obtain ⟨c', e0, e1, e2, e3⟩ := w_loop k p m n l hl hW d hd0 hd r (i + 1) c hd' (by omega) h0 h1
      refine ⟨c', e0, e1, fun h => by have := e2 h; omega, ?_⟩
      rw [← e3]
      rw [lrun_atC loop36_0]
      simp (implicitDefEqProofs := false) (disch := omega) only [go_sem, Nat.reduceAdd, Nat.reduceSub, Nat.reduceMul, Nat.reduceLT, Nat.reduceLeDiff, Nat.reduceEqDiff, List.drop_zero, List.take_succ_cons, List.take_zero, List.drop_succ_cons, Bool.and_true, Bool.true_and, Bool.and_false, Bool.false_and, BitVec.reduceOfInt, Nat.zero_add, Nat.mul_one, Nat.add_zero, Int.zero_add, Int.reduceToNat, Nat.reducePow, ↓reduceIte, reduceCtorEq, Int.reduceLE, Int.reduceLT, Int.reduceEq, Int.reduceNe, Int.reduceAdd, Int.reduceSub, Int.reduceMul, Int.reduceNeg, Nat.reduceBEq, show regOf Try.f36 5 = Code.region _ _ _ from rfl, show regOf Try.f36 6 = Code.region _ _ _ from rfl, show regOf Try.f36 7 = Code.region _ _ _ from rfl, show regOf Try.f36 9 = Code.region _ _ _ from rfl]
      all_goals (congr 1 <;> simp only [List.cons.injEq, AV.val.injEq, Value.int.injEq, Value.bool.injEq, true_and, and_true] <;> omega)
theorem quo20 (x : Int) (h0 : 0 ≤ x) (h1 : x ≤ 200000) : ∃ q : Int, 0 ≤ q ∧ q ≤ 10000 ∧ abin Try.prog .quo 3 (.int x) (.int 20) = some (.int q) := by
  refine ⟨x / 20, by omega, by omega, ?_⟩
  rw [abin_quo _ _ _ _ (by omega), Int.tdiv_eq_ediv_of_nonneg h0, wrap_i64 (by omega) (by omega)]
mutual
theorem W_all : ∀ t : Tm, t.fit → W t
  | ⟨k, p, m, n, l⟩, hf => by
    rw [Tm.fit] at hf
    obtain ⟨f1, f2, f3, f4⟩ := hf
    have ih := W_alls l f4
    intro d hd0 hd
    have z1 := txt_size p
    have z2 := txt_size m
    by_cases h1 : d ≤ 90
    · by_cases h2 : l.length ≤ 300
      · have e : ∃ (w : Int) (h : AHeap), 0 ≤ w ∧ w ≤ 100000 ∧ (w < 100000 → (tsz ⟨k, p, m, n, l⟩ : Int) ≤ w) ∧ aval Try.prog md fg 36 [tmV ⟨k, p, m, n, l⟩, .int d] [] = some (.int w, h) := by
          rw [tmV_mk]
          obtain ⟨q, q0, q1, hq⟩ := quo20 ((if (100000 : Int) < (p.length : Int) then 100000 else (p.length : Int)) + (if (100000 : Int) < (m.length : Int) then 100000 else (m.length : Int))) (by split <;> split <;> omega) (by split <;> split <;> omega)
          rw [aval_of Try.func36 body36 Try.results36 Try.ntmps36 ok36]
          simp (implicitDefEqProofs := false) (disch := omega) only [go_sem, Nat.reduceAdd, Nat.reduceSub, Nat.reduceMul, Nat.reduceLT, Nat.reduceLeDiff, Nat.reduceEqDiff, List.drop_zero, List.take_succ_cons, List.take_zero, List.drop_succ_cons, Bool.and_true, Bool.true_and, Bool.and_false, Bool.false_and, BitVec.reduceOfInt, Nat.zero_add, Nat.mul_one, Nat.add_zero, Int.zero_add, Int.reduceToNat, Nat.reducePow, ↓reduceIte, reduceCtorEq, Int.reduceLE, Int.reduceLT, Int.reduceEq, Int.reduceNe, Int.reduceAdd, Int.reduceSub, Int.reduceMul, Int.reduceNeg, Nat.reduceBEq, show regOf Try.f36 0 = Code.region _ _ _ from rfl, show regOf Try.f36 1 = Code.region _ _ _ from rfl, show regOf Try.f36 3 = Code.region _ _ _ from rfl, List.length_map, z1, z2]
          simp (implicitDefEqProofs := false) (disch := omega) only [go_sem, Nat.reduceAdd, Nat.reduceSub, Nat.reduceMul, Nat.reduceLT, Nat.reduceLeDiff, Nat.reduceEqDiff, List.drop_zero, List.take_succ_cons, List.take_zero, List.drop_succ_cons, Bool.and_true, Bool.true_and, Bool.and_false, Bool.false_and, BitVec.reduceOfInt, Nat.zero_add, Nat.mul_one, Nat.add_zero, Int.zero_add, Int.reduceToNat, Nat.reducePow, ↓reduceIte, reduceCtorEq, Int.reduceLE, Int.reduceLT, Int.reduceEq, Int.reduceNe, Int.reduceAdd, Int.reduceSub, Int.reduceMul, Int.reduceNeg, Nat.reduceBEq, hq]
          obtain ⟨c', e0, e1, e2, e3⟩ := w_loop k p m n l h2 ih d hd0 h1 l 0 (1 + q) (by simp) (by omega) (by omega) (by omega)
          simp only [Int.natCast_zero] at e3
          simp (implicitDefEqProofs := false) (disch := omega) only [go_sem, Nat.reduceAdd, Nat.reduceSub, Nat.reduceMul, Nat.reduceLT, Nat.reduceLeDiff, Nat.reduceEqDiff, List.drop_zero, List.take_succ_cons, List.take_zero, List.drop_succ_cons, Bool.and_true, Bool.true_and, Bool.and_false, Bool.false_and, BitVec.reduceOfInt, Nat.zero_add, Nat.mul_one, Nat.add_zero, Int.zero_add, Int.reduceToNat, Nat.reducePow, ↓reduceIte, reduceCtorEq, Int.reduceLE, Int.reduceLT, Int.reduceEq, Int.reduceNe, Int.reduceAdd, Int.reduceSub, Int.reduceMul, Int.reduceNeg, Nat.reduceBEq, show regOf Try.f36 4 = Code.region _ _ _ from rfl, show regOf Try.f36 10 = Code.region _ _ _ from rfl, List.length_map, e3]
          by_cases hc : 100000 < c'
          · simp (implicitDefEqProofs := false) (disch := omega) only [hc, if_true]
            exact ⟨100000, _, by omega, by omega, fun h => by omega, rfl⟩
          · simp (implicitDefEqProofs := false) (disch := omega) only [hc, if_false]
            exact ⟨c', _, by omega, by omega, fun h => by rw [tsz]; have := e2 h; omega, rfl⟩
        obtain ⟨w, h, w0, w1, w2, e⟩ := e
        exact ⟨w, w0, w1, w2, by rw [pcall_eq, e, pureRes_solid rfl]⟩
      · have e : ∃ (h : AHeap), aval Try.prog md fg 36 [tmV ⟨k, p, m, n, l⟩, .int d] [] = some (.int 100000, h) := by
          rw [tmV_mk]
          rw [aval_of Try.func36 body36 Try.results36 Try.ntmps36 ok36]
          simp (implicitDefEqProofs := false) (disch := omega) only [go_sem, Nat.reduceAdd, Nat.reduceSub, Nat.reduceMul, Nat.reduceLT, Nat.reduceLeDiff, Nat.reduceEqDiff, List.drop_zero, List.take_succ_cons, List.take_zero, List.drop_succ_cons, Bool.and_true, Bool.true_and, Bool.and_false, Bool.false_and, BitVec.reduceOfInt, Nat.zero_add, Nat.mul_one, Nat.add_zero, Int.zero_add, Int.reduceToNat, Nat.reducePow, ↓reduceIte, reduceCtorEq, Int.reduceLE, Int.reduceLT, Int.reduceEq, Int.reduceNe, Int.reduceAdd, Int.reduceSub, Int.reduceMul, Int.reduceNeg, Nat.reduceBEq, show regOf Try.f36 0 = Code.region _ _ _ from rfl, show regOf Try.f36 1 = Code.region _ _ _ from rfl, show regOf Try.f36 2 = Code.region _ _ _ from rfl, List.length_map]
          exact ⟨_, rfl⟩
        obtain ⟨h, e⟩ := e
        exact ⟨100000, by omega, by omega, fun h => by omega, by rw [pcall_eq, e, pureRes_solid rfl]⟩
    · have e : ∃ (h : AHeap), aval Try.prog md fg 36 [tmV ⟨k, p, m, n, l⟩, .int d] [] = some (.int 100000, h) := by
        rw [tmV_mk]
        rw [aval_of Try.func36 body36 Try.results36 Try.ntmps36 ok36]
        simp (implicitDefEqProofs := false) (disch := omega) only [go_sem, Nat.reduceAdd, Nat.reduceSub, Nat.reduceMul, Nat.reduceLT, Nat.reduceLeDiff, Nat.reduceEqDiff, List.drop_zero, List.take_succ_cons, List.take_zero, List.drop_succ_cons, Bool.and_true, Bool.true_and, Bool.and_false, Bool.false_and, BitVec.reduceOfInt, Nat.zero_add, Nat.mul_one, Nat.add_zero, Int.zero_add, Int.reduceToNat, Nat.reducePow, ↓reduceIte, reduceCtorEq, Int.reduceLE, Int.reduceLT, Int.reduceEq, Int.reduceNe, Int.reduceAdd, Int.reduceSub, Int.reduceMul, Int.reduceNeg, Nat.reduceBEq, show regOf Try.f36 0 = Code.region _ _ _ from rfl, show regOf Try.f36 1 = Code.region _ _ _ from rfl, show regOf Try.f36 2 = Code.region _ _ _ from rfl, List.length_map]
        exact ⟨_, rfl⟩
      obtain ⟨h, e⟩ := e
      exact ⟨100000, by omega, by omega, fun h => by omega, by rw [pcall_eq, e, pureRes_solid rfl]⟩
theorem W_alls : ∀ l : List Tm, Tm.fits l → ∀ t ∈ l, W t
  | [], _, t, h => by cases h
  | a :: r, hf, t, h => by
    rw [Tm.fits] at hf
    rcases List.mem_cons.1 h with h | h
    · rw [h]; exact W_all a hf.1
    · exact W_alls r hf.2 t h
end
theorem idx_loop (k : List UInt8) (l : List (List UInt8)) (hl : l.length ≤ 9223372036854775807) : ∀ (r : List (List UInt8)) (i : Nat) (a4 : AV), l.drop i = r → i ≤ l.length → ∃ (i' : Int) (a' : AV),
    lrun Try.prog md fg (fg 43) (loopOf Try.f43 0) (fg 43 1) ([.slc false (l.map sV), sV k, .unk, .unk, a4, .unk, .unk, .int l.length, .int i, .unk, .unk, .unk, .unk, .unk, .unk, .unk, .unk, .unk, .unk]) [] = some (match ix k r i with | some j => (.ret, [.slc false (l.map sV), sV k, .unk, .unk, .int j, .unk, .unk, .int l.length, .int i', .unk, .unk, .unk, .unk, .unk, .unk, .unk, .unk, .unk, .unk], []) | none => (.exit 0, [.slc false (l.map sV), sV k, .unk, .unk, a', .unk, .unk, .int l.length, .int i', .unk, .unk, .unk, .unk, .unk, .unk, .unk, .unk, .unk, .unk], []))
  | [], i, a4, hdr, hi => by
    have : i = l.length := by have := congrArg List.length hdr; simp at this; omega
    subst this
    refine ⟨(l.length : Int), a4, ?_⟩
    simp only [ix]
    rw [lrun_atC loop43_0]
    simp (implicitDefEqProofs := false) (disch := omega) only [go_sem, Nat.reduceAdd, Nat.reduceSub, Nat.reduceMul, Nat.reduceLT, Nat.reduceLeDiff, Nat.reduceEqDiff, List.drop_zero, List.take_succ_cons, List.take_zero, List.drop_succ_cons, Bool.and_true, Bool.true_and, Bool.and_false, Bool.false_and, BitVec.reduceOfInt, Nat.zero_add, Nat.mul_one, Nat.add_zero, Int.zero_add, Int.reduceToNat, Nat.reducePow, ↓reduceIte, reduceCtorEq, Int.reduceLE, Int.reduceLT, Int.reduceEq, Int.reduceNe, Int.reduceAdd, Int.reduceSub, Int.reduceMul, Int.reduceNeg, Nat.reduceBEq, show regOf Try.f43 2 = Code.region _ _ _ from rfl]
  | s :: r, i, a4, hdr, hi => by
    have hx : l[i]? = some s := by have := congrArg (·[0]?) hdr; simpa using this
    have hlt : i < l.length := (List.getElem?_eq_some_iff.1 hx).1
    have hd' : l.drop (i + 1) = r := by rw [← List.tail_drop, hdr]; rfl
    have ht : ((i : Int)).toNat = i := by omega
    have hs := str_eq k s
    by_cases hk : k = s
    · refine ⟨(i : Int), .unk, ?_⟩
      rw [ix, if_pos hk]
      subst hk
      dsimp only
      rw [lrun_atC loop43_0]
      simp (implicitDefEqProofs := false) (disch := omega) only [go_sem, Nat.reduceAdd, Nat.reduceSub, Nat.reduceMul, Nat.reduceLT, Nat.reduceLeDiff, Nat.reduceEqDiff, List.drop_zero, List.take_succ_cons, List.take_zero, List.drop_succ_cons, Bool.and_true, Bool.true_and, Bool.and_false, Bool.false_and, BitVec.reduceOfInt, Nat.zero_add, Nat.mul_one, Nat.add_zero, Int.zero_add, Int.reduceToNat, Nat.reducePow, ↓reduceIte, reduceCtorEq, Int.reduceLE, Int.reduceLT, Int.reduceEq, Int.reduceNe, Int.reduceAdd, Int.reduceSub, Int.reduceMul, Int.reduceNeg, Nat.reduceBEq, show regOf Try.f43 2 = Code.region _ _ _ from rfl, show regOf Try.f43 3 = Code.region _ _ _ from rfl, show regOf Try.f43 4 = Code.region _ _ _ from rfl, show regOf Try.f43 5 = Code.region _ _ _ from rfl, List.getElem?_map, ht, hx, Option.map_some]
    · obtain ⟨i', a', e⟩ := idx_loop k l hl r (i + 1) a4 hd' (by omega)
      refine ⟨i', a', ?_⟩
      rw [ix, if_neg hk, ← e]
      rw [lrun_atC loop43_0]
      simp (implicitDefEqProofs := false) (disch := omega) only [go_sem, Nat.reduceAdd, Nat.reduceSub, Nat.reduceMul, Nat.reduceLT, Nat.reduceLeDiff, Nat.reduceEqDiff, List.drop_zero, List.take_succ_cons, List.take_zero, List.drop_succ_cons, Bool.and_true, Bool.true_and, Bool.and_false, Bool.false_and, BitVec.reduceOfInt, Nat.zero_add, Nat.mul_one, Nat.add_zero, Int.zero_add, Int.reduceToNat, Nat.reducePow, ↓reduceIte, reduceCtorEq, Int.reduceLE, Int.reduceLT, Int.reduceEq, Int.reduceNe, Int.reduceAdd, Int.reduceSub, Int.reduceMul, Int.reduceNeg, Nat.reduceBEq, show regOf Try.f43 2 = Code.region _ _ _ from rfl, show regOf Try.f43 3 = Code.region _ _ _ from rfl, show regOf Try.f43 4 = Code.region _ _ _ from rfl, show regOf Try.f43 6 = Code.region _ _ _ from rfl, List.getElem?_map, ht, hx, Option.map_some, hs, hk]
      all_goals (congr 1 <;> simp only [List.cons.injEq, AV.val.injEq, Value.int.injEq, Value.bool.injEq, true_and, and_true] <;> omega)
theorem index_p (k : List UInt8) (l : List (List UInt8)) (hl : l.length ≤ 9223372036854775807) : pcall Try.prog md fg 43 [.slc false (l.map sV), sV k] = some (.int (match ix k l 0 with | some j => (j : Int) | none => -1)) := by
  have e : ∃ h, aval Try.prog md fg 43 [.slc false (l.map sV), sV k] [] = some (.int (match ix k l 0 with | some j => (j : Int) | none => -1), h) := by
    obtain ⟨i', a', e⟩ := idx_loop k l hl l 0 (.int 0) (by simp) (by omega)
    simp only [Int.natCast_zero] at e
    rw [aval_of Try.func43 body43 Try.results43 Try.ntmps43 ok43]
    cases hf : ix k l 0 with
    | none =>
      rw [hf] at e
      dsimp only at e
      simp (implicitDefEqProofs := false) (disch := omega) only [go_sem, Nat.reduceAdd, Nat.reduceSub, Nat.reduceMul, Nat.reduceLT, Nat.reduceLeDiff, Nat.reduceEqDiff, List.drop_zero, List.take_succ_cons, List.take_zero, List.drop_succ_cons, Bool.and_true, Bool.true_and, Bool.and_false, Bool.false_and, BitVec.reduceOfInt, Nat.zero_add, Nat.mul_one, Nat.add_zero, Int.zero_add, Int.reduceToNat, Nat.reducePow, ↓reduceIte, reduceCtorEq, Int.reduceLE, Int.reduceLT, Int.reduceEq, Int.reduceNe, Int.reduceAdd, Int.reduceSub, Int.reduceMul, Int.reduceNeg, Nat.reduceBEq, show regOf Try.f43 0 = Code.region _ _ _ from rfl, show regOf Try.f43 1 = Code.region _ _ _ from rfl, show regOf Try.f43 7 = Code.region _ _ _ from rfl, List.length_map, e]
      exact ⟨_, rfl⟩
    | some j =>
      rw [hf] at e
      dsimp only at e
      simp (implicitDefEqProofs := false) (disch := omega) only [go_sem, Nat.reduceAdd, Nat.reduceSub, Nat.reduceMul, Nat.reduceLT, Nat.reduceLeDiff, Nat.reduceEqDiff, List.drop_zero, List.take_succ_cons, List.take_zero, List.drop_succ_cons, Bool.and_true, Bool.true_and, Bool.and_false, Bool.false_and, BitVec.reduceOfInt, Nat.zero_add, Nat.mul_one, Nat.add_zero, Int.zero_add, Int.reduceToNat, Nat.reducePow, ↓reduceIte, reduceCtorEq, Int.reduceLE, Int.reduceLT, Int.reduceEq, Int.reduceNe, Int.reduceAdd, Int.reduceSub, Int.reduceMul, Int.reduceNeg, Nat.reduceBEq, show regOf Try.f43 0 = Code.region _ _ _ from rfl, show regOf Try.f43 1 = Code.region _ _ _ from rfl, List.length_map, e]
      exact ⟨_, rfl⟩
  obtain ⟨h, e⟩ := e
  rw [pcall_eq, e, pureRes_solid rfl]
theorem contains_p (k : List UInt8) (l : List (List UInt8)) (hl : l.length ≤ 9223372036854775807) : pcall Try.prog md fg 30 [.slc false (l.map sV), sV k] = some (.val (.bool (decide (k ∈ l)))) := by
  have c : ∀ h, doCall md (aval Try.prog md fg) 43 [.slc false (l.map sV), sV k] h = some (.int (match ix k l 0 with | some j => (j : Int) | none => -1), h) := fun h => doCall_pure md43 (by simp only [solidL, solid, solid_names, Bool.not_false, Bool.and_true]) (index_p k l hl)
  have e : ∃ h, aval Try.prog md fg 30 [.slc false (l.map sV), sV k] [] = some (.val (.bool (decide (k ∈ l))), h) := by
    rw [← ix_mem k l 0]
    rw [aval_of Try.func30 body30 Try.results30 Try.ntmps30 ok30]
    cases hf : ix k l 0 with
    | none =>
      rw [hf] at c
      dsimp only at c
      simp (implicitDefEqProofs := false) (disch := omega) only [go_sem, Nat.reduceAdd, Nat.reduceSub, Nat.reduceMul, Nat.reduceLT, Nat.reduceLeDiff, Nat.reduceEqDiff, List.drop_zero, List.take_succ_cons, List.take_zero, List.drop_succ_cons, Bool.and_true, Bool.true_and, Bool.and_false, Bool.false_and, BitVec.reduceOfInt, Nat.zero_add, Nat.mul_one, Nat.add_zero, Int.zero_add, Int.reduceToNat, Nat.reducePow, ↓reduceIte, reduceCtorEq, Int.reduceLE, Int.reduceLT, Int.reduceEq, Int.reduceNe, Int.reduceAdd, Int.reduceSub, Int.reduceMul, Int.reduceNeg, Nat.reduceBEq, show regOf Try.f30 0 = Code.region _ _ _ from rfl, show regOf Try.f30 1 = Code.region _ _ _ from rfl, c, Option.isSome_none]
      exact ⟨_, rfl⟩
    | some j =>
      rw [hf] at c
      dsimp only at c
      simp (implicitDefEqProofs := false) (disch := omega) only [go_sem, Nat.reduceAdd, Nat.reduceSub, Nat.reduceMul, Nat.reduceLT, Nat.reduceLeDiff, Nat.reduceEqDiff, List.drop_zero, List.take_succ_cons, List.take_zero, List.drop_succ_cons, Bool.and_true, Bool.true_and, Bool.and_false, Bool.false_and, BitVec.reduceOfInt, Nat.zero_add, Nat.mul_one, Nat.add_zero, Int.zero_add, Int.reduceToNat, Nat.reducePow, ↓reduceIte, reduceCtorEq, Int.reduceLE, Int.reduceLT, Int.reduceEq, Int.reduceNe, Int.reduceAdd, Int.reduceSub, Int.reduceMul, Int.reduceNeg, Nat.reduceBEq, show regOf Try.f30 0 = Code.region _ _ _ from rfl, show regOf Try.f30 1 = Code.region _ _ _ from rfl, c, Option.isSome_some]
      exact ⟨_, rfl⟩
  obtain ⟨h, e⟩ := e
  rw [pcall_eq, e, pureRes_solid rfl]
end Go.Proofs.Ytgijlgdhogbgbaa
namespace Go.Proofs.Ytgijlgdhogbgbaa
open Go Go.Ab Go.Proofs
set_option maxRecDepth 100000
set_option linter.unusedSimpArgs false
set_option linter.unusedVariables false
theorem in_loop (k : Nm) (l : List Nm) (hl : l.length ≤ 9223372036854775807) : ∀ (r : List Nm) (i : Nat), l.drop i = r → i ≤ l.length → ∃ (i' : Int),
    lrun Try.prog md fg (fg 39) (loopOf Try.f39 0) (fg 39 1) ([sV k, .slc false (l.map sV), .unk, .unk, .val (.bool false), .int i, .unk, .unk, .unk, .unk, .unk, .unk, .unk, .unk, .unk, .unk, .unk, .unk]) [] = some (if k ∈ r then (.ret, [sV k, .slc false (l.map sV), .unk, .unk, .val (.bool true), .int i', .unk, .unk, .unk, .unk, .unk, .unk, .unk, .unk, .unk, .unk, .unk, .unk], []) else (.exit 0, [sV k, .slc false (l.map sV), .unk, .unk, .val (.bool false), .int i', .unk, .unk, .unk, .unk, .unk, .unk, .unk, .unk, .unk, .unk, .unk, .unk], []))
  | [], i, hdr, hi => by
    have : i = l.length := by have := congrArg List.length hdr; simp at this; omega
    subst this
    refine ⟨(l.length : Int), ?_⟩
    rw [if_neg (by simp)]
    rw [lrun_atC loop39_0]
    simp (implicitDefEqProofs := false) (disch := omega) only [go_sem, Nat.reduceAdd, Nat.reduceSub, Nat.reduceMul, Nat.reduceLT, Nat.reduceLeDiff, Nat.reduceEqDiff, List.drop_zero, List.take_succ_cons, List.take_zero, List.drop_succ_cons, Bool.and_true, Bool.true_and, Bool.and_false, Bool.false_and, BitVec.reduceOfInt, Nat.zero_add, Nat.mul_one, Nat.add_zero, Int.zero_add, Int.reduceToNat, Nat.reducePow, ↓reduceIte, reduceCtorEq, Int.reduceLE, Int.reduceLT, Int.reduceEq, Int.reduceNe, Int.reduceAdd, Int.reduceSub, Int.reduceMul, Int.reduceNeg, Nat.reduceBEq, show regOf Try.f39 2 = Code.region _ _ _ from rfl, List.length_map]
  | s :: r, i, hdr, hi => by
    have hx : l[i]? = some s := by have := congrArg (·[0]?) hdr; simpa using this
    have hlt : i < l.length := (List.getElem?_eq_some_iff.1 hx).1
    have hd' : l.drop (i + 1) = r := by rw [← List.tail_drop, hdr]; rfl
    have ht : ((i : Int)).toNat = i := by omega
    have hs := str_eq s k
    by_cases hk : s = k
    · refine ⟨(i : Int), ?_⟩
      rw [if_pos (by simp [hk])]
      subst hk
      rw [lrun_atC loop39_0]
      simp (implicitDefEqProofs := false) (disch := omega) only [go_sem, Nat.reduceAdd, Nat.reduceSub, Nat.reduceMul, Nat.reduceLT, Nat.reduceLeDiff, Nat.reduceEqDiff, List.drop_zero, List.take_succ_cons, List.take_zero, List.drop_succ_cons, Bool.and_true, Bool.true_and, Bool.and_false, Bool.false_and, BitVec.reduceOfInt, Nat.zero_add, Nat.mul_one, Nat.add_zero, Int.zero_add, Int.reduceToNat, Nat.reducePow, ↓reduceIte, reduceCtorEq, Int.reduceLE, Int.reduceLT, Int.reduceEq, Int.reduceNe, Int.reduceAdd, Int.reduceSub, Int.reduceMul, Int.reduceNeg, Nat.reduceBEq, show regOf Try.f39 2 = Code.region _ _ _ from rfl, show regOf Try.f39 4 = Code.region _ _ _ from rfl, show regOf Try.f39 5 = Code.region _ _ _ from rfl, List.length_map, List.getElem?_map, ht, hx, Option.map_some]
    · obtain ⟨i', e⟩ := in_loop k l hl r (i + 1) hd' (by omega)
      refine ⟨i', ?_⟩
      have : (k ∈ s :: r) ↔ k ∈ r := by rw [List.mem_cons]; exact ⟨fun h => h.elim (fun h => absurd h.symm hk) id, .inr⟩
      simp only [this]
      rw [← e]
      rw [lrun_atC loop39_0]
      simp (implicitDefEqProofs := false) (disch := omega) only [go_sem, Nat.reduceAdd, Nat.reduceSub, Nat.reduceMul, Nat.reduceLT, Nat.reduceLeDiff, Nat.reduceEqDiff, List.drop_zero, List.take_succ_cons, List.take_zero, List.drop_succ_cons, Bool.and_true, Bool.true_and, Bool.and_false, Bool.false_and, BitVec.reduceOfInt, Nat.zero_add, Nat.mul_one, Nat.add_zero, Int.zero_add, Int.reduceToNat, Nat.reducePow, ↓reduceIte, reduceCtorEq, Int.reduceLE, Int.reduceLT, Int.reduceEq, Int.reduceNe, Int.reduceAdd, Int.reduceSub, Int.reduceMul, Int.reduceNeg, Nat.reduceBEq, show regOf Try.f39 2 = Code.region _ _ _ from rfl, show regOf Try.f39 4 = Code.region _ _ _ from rfl, show regOf Try.f39 3 = Code.region _ _ _ from rfl, List.length_map, List.getElem?_map, ht, hx, Option.map_some, hs, hk]
      all_goals (congr 1 <;> simp only [List.cons.injEq, AV.val.injEq, Value.int.injEq, Value.bool.injEq, true_and, and_true] <;> omega)
theorem in39_p (k : Nm) (l : List Nm) (hl : l.length ≤ 9223372036854775807) : pcall Try.prog md fg 39 [sV k, .slc false (l.map sV)] = some (.val (.bool (decide (k ∈ l)))) := by
  have e : ∃ h, aval Try.prog md fg 39 [sV k, .slc false (l.map sV)] [] = some (.val (.bool (decide (k ∈ l))), h) := by
    obtain ⟨i', e⟩ := in_loop k l hl l 0 (by simp) (by omega)
    simp only [Int.natCast_zero] at e
    rw [aval_of Try.func39 body39 Try.results39 Try.ntmps39 ok39]
    by_cases h : k ∈ l
    · rw [if_pos h] at e
      simp (implicitDefEqProofs := false) (disch := omega) only [go_sem, Nat.reduceAdd, Nat.reduceSub, Nat.reduceMul, Nat.reduceLT, Nat.reduceLeDiff, Nat.reduceEqDiff, List.drop_zero, List.take_succ_cons, List.take_zero, List.drop_succ_cons, Bool.and_true, Bool.true_and, Bool.and_false, Bool.false_and, BitVec.reduceOfInt, Nat.zero_add, Nat.mul_one, Nat.add_zero, Int.zero_add, Int.reduceToNat, Nat.reducePow, ↓reduceIte, reduceCtorEq, Int.reduceLE, Int.reduceLT, Int.reduceEq, Int.reduceNe, Int.reduceAdd, Int.reduceSub, Int.reduceMul, Int.reduceNeg, Nat.reduceBEq, show regOf Try.f39 0 = Code.region _ _ _ from rfl, show regOf Try.f39 1 = Code.region _ _ _ from rfl, e, h, decide_true]
      exact ⟨_, rfl⟩
    · rw [if_neg h] at e
      simp (implicitDefEqProofs := false) (disch := omega) only [go_sem, Nat.reduceAdd, Nat.reduceSub, Nat.reduceMul, Nat.reduceLT, Nat.reduceLeDiff, Nat.reduceEqDiff, List.drop_zero, List.take_succ_cons, List.take_zero, List.drop_succ_cons, Bool.and_true, Bool.true_and, Bool.and_false, Bool.false_and, BitVec.reduceOfInt, Nat.zero_add, Nat.mul_one, Nat.add_zero, Int.zero_add, Int.reduceToNat, Nat.reducePow, ↓reduceIte, reduceCtorEq, Int.reduceLE, Int.reduceLT, Int.reduceEq, Int.reduceNe, Int.reduceAdd, Int.reduceSub, Int.reduceMul, Int.reduceNeg, Nat.reduceBEq, show regOf Try.f39 0 = Code.region _ _ _ from rfl, show regOf Try.f39 1 = Code.region _ _ _ from rfl, show regOf Try.f39 6 = Code.region _ _ _ from rfl, e, h, decide_false]
      exact ⟨_, rfl⟩
  obtain ⟨h, e⟩ := e
  rw [pcall_eq, e, pureRes_solid rfl]
theorem in_p (k : Nm) (l : List Nm) (hl : l.length ≤ 9223372036854775807) : pcall Try.prog md fg 19 [sV k, .slc false (l.map sV)] = some (.val (.bool (decide (k ∈ l)))) := by
  have c : ∀ h, doCall md (aval Try.prog md fg) 39 [sV k, .slc false (l.map sV)] h = some (.val (.bool (decide (k ∈ l))), h) := fun h => doCall_pure md39 (by simp only [solidL, solid, solid_names, Bool.not_false, Bool.and_true]) (in39_p k l hl)
  have e : ∃ h, aval Try.prog md fg 19 [sV k, .slc false (l.map sV)] [] = some (.val (.bool (decide (k ∈ l))), h) := by
    rw [aval_of Try.func19 body19 Try.results19 Try.ntmps19 ok19]
    simp (implicitDefEqProofs := false) (disch := omega) only [go_sem, Nat.reduceAdd, Nat.reduceSub, Nat.reduceMul, Nat.reduceLT, Nat.reduceLeDiff, Nat.reduceEqDiff, List.drop_zero, List.take_succ_cons, List.take_zero, List.drop_succ_cons, Bool.and_true, Bool.true_and, Bool.and_false, Bool.false_and, BitVec.reduceOfInt, Nat.zero_add, Nat.mul_one, Nat.add_zero, Int.zero_add, Int.reduceToNat, Nat.reducePow, ↓reduceIte, reduceCtorEq, Int.reduceLE, Int.reduceLT, Int.reduceEq, Int.reduceNe, Int.reduceAdd, Int.reduceSub, Int.reduceMul, Int.reduceNeg, Nat.reduceBEq, show regOf Try.f19 0 = Code.region _ _ _ from rfl, show regOf Try.f19 1 = Code.region _ _ _ from rfl, c]
    exact ⟨_, rfl⟩
  obtain ⟨h, e⟩ := e
  rw [pcall_eq, e, pureRes_solid rfl]
theorem texts_loop (l : List Nm) (hl : l.length ≤ 9223372036854775807) : ∀ (r : List Nm) (i : Nat), l.drop i = r → i ≤ l.length → ∃ (i' : Int),
    lrun Try.prog md fg (fg 11) (loopOf Try.f11 0) (fg 11 1) (((.slc false (l.map sV)) :: (.slc false (l.map sV)) :: .unk :: .unk :: (.val (.bool false)) :: (.int i) :: .unk :: .unk :: .unk :: .unk :: .unk :: .unk :: .unk :: .unk :: .unk :: .unk :: .unk :: .unk :: .unk :: .unk :: .unk :: .unk :: .unk :: .unk :: .unk :: .unk :: [] : List AV)) [] = some (.exit 0, ((.slc false (l.map sV)) :: (.slc false (l.map sV)) :: .unk :: .unk :: (.val (.bool false)) :: (.int i') :: .unk :: .unk :: .unk :: .unk :: .unk :: .unk :: .unk :: .unk :: .unk :: .unk :: .unk :: .unk :: .unk :: .unk :: .unk :: .unk :: .unk :: .unk :: .unk :: .unk :: [] : List AV), [])
  | [], i, hdr, hi => by
    have : i = l.length := by have := congrArg List.length hdr; simp at this; omega
    subst this
    refine ⟨(l.length : Int), ?_⟩
    rw [lrun_atC loop11_0]
    simp (implicitDefEqProofs := false) (disch := omega) only [go_sem, Nat.reduceAdd, Nat.reduceSub, Nat.reduceMul, Nat.reduceLT, Nat.reduceLeDiff, Nat.reduceEqDiff, List.drop_zero, List.take_succ_cons, List.take_zero, List.drop_succ_cons, Bool.and_true, Bool.true_and, Bool.and_false, Bool.false_and, BitVec.reduceOfInt, Nat.zero_add, Nat.mul_one, Nat.add_zero, Int.zero_add, Int.reduceToNat, Nat.reducePow, ↓reduceIte, reduceCtorEq, Int.reduceLE, Int.reduceLT, Int.reduceEq, Int.reduceNe, Int.reduceAdd, Int.reduceSub, Int.reduceMul, Int.reduceNeg, Nat.reduceBEq, show regOf Try.f11 4 = Code.region _ _ _ from rfl, List.length_map]
  | s :: r, i, hdr, hi => by
    have hx : l[i]? = some s := by have := congrArg (·[0]?) hdr; simpa using this
    have hlt : i < l.length := (List.getElem?_eq_some_iff.1 hx).1
    have hd' : l.drop (i + 1) = r := by rw [← List.tail_drop, hdr]; rfl
    have ht : ((i : Int)).toNat = i := by omega
    obtain ⟨i', e⟩ := texts_loop l hl r (i + 1) hd' (by omega)
    refine ⟨i', ?_⟩
    rw [← e]
    rw [lrun_atC loop11_0]
    simp (implicitDefEqProofs := false) (disch := omega) only [go_sem, Nat.reduceAdd, Nat.reduceSub, Nat.reduceMul, Nat.reduceLT, Nat.reduceLeDiff, Nat.reduceEqDiff, List.drop_zero, List.take_succ_cons, List.take_zero, List.drop_succ_cons, Bool.and_true, Bool.true_and, Bool.and_false, Bool.false_and, BitVec.reduceOfInt, Nat.zero_add, Nat.mul_one, Nat.add_zero, Int.zero_add, Int.reduceToNat, Nat.reducePow, ↓reduceIte, reduceCtorEq, Int.reduceLE, Int.reduceLT, Int.reduceEq, Int.reduceNe, Int.reduceAdd, Int.reduceSub, Int.reduceMul, Int.reduceNeg, Nat.reduceBEq, show regOf Try.f11 4 = Code.region _ _ _ from rfl, show regOf Try.f11 6 = Code.region _ _ _ from rfl, show regOf Try.f11 5 = Code.region _ _ _ from rfl, List.length_map, List.getElem?_map, ht, hx, Option.map_some]
    all_goals (congr 1 <;> simp only [List.cons.injEq, AV.val.injEq, Value.int.injEq, Value.bool.injEq, true_and, and_true] <;> omega)
theorem texts_p (l : List Nm) (hl : l.length ≤ 9223372036854775807) : pcall Try.prog md fg 11 [.slc false (l.map sV), .slc false (l.map sV)] = some (.val (.bool true)) := by
  have e : ∃ h, aval Try.prog md fg 11 [.slc false (l.map sV), .slc false (l.map sV)] [] = some (.val (.bool true), h) := by
    obtain ⟨i', e⟩ := texts_loop l hl l 0 (by simp) (by omega)
    simp only [Int.natCast_zero] at e
    rw [aval_of Try.func11 body11 Try.results11 Try.ntmps11 ok11]
    simp (implicitDefEqProofs := false) (disch := omega) only [go_sem, Nat.reduceAdd, Nat.reduceSub, Nat.reduceMul, Nat.reduceLT, Nat.reduceLeDiff, Nat.reduceEqDiff, List.drop_zero, List.take_succ_cons, List.take_zero, List.drop_succ_cons, Bool.and_true, Bool.true_and, Bool.and_false, Bool.false_and, BitVec.reduceOfInt, Nat.zero_add, Nat.mul_one, Nat.add_zero, Int.zero_add, Int.reduceToNat, Nat.reducePow, ↓reduceIte, reduceCtorEq, Int.reduceLE, Int.reduceLT, Int.reduceEq, Int.reduceNe, Int.reduceAdd, Int.reduceSub, Int.reduceMul, Int.reduceNeg, Nat.reduceBEq, show regOf Try.f11 0 = Code.region _ _ _ from rfl, show regOf Try.f11 1 = Code.region _ _ _ from rfl, show regOf Try.f11 3 = Code.region _ _ _ from rfl, show regOf Try.f11 8 = Code.region _ _ _ from rfl, e, List.length_map]
    exact ⟨_, rfl⟩
  obtain ⟨h, e⟩ := e
  rw [pcall_eq, e, pureRes_solid rfl]
/-- An alias. -/
structure Al where
  nm : Nm
  ps : List Nm
  ty : Tm
def alV (a : Al) : AV := .agg [sV a.nm, .slc false (a.ps.map sV), .int a.ty.kind, .str (txt a.ty.pkg), .str (txt a.ty.name), .int a.ty.n, .slc false (a.ty.kids.map tmV)]
theorem alV_mk (s : Nm) (ps : List Nm) (k : Int) (p m : Nm) (n : Int) (l : List Tm) : alV ⟨s, ps, k, p, m, n, l⟩ = .agg [sV s, .slc false (ps.map sV), .int k, .str (txt p), .str (txt m), .int n, .slc false (l.map tmV)] := rfl
theorem solid_tmL (l : List Tm) : solidL (l.map tmV) = true := by rw [← tmsV_eq]; exact solid_tms l
theorem solid_al (a : Al) : solid (alV a) = true := by
  unfold alV
  simp only [solid, solidL, solid_names, solid_tmL, Bool.not_false, Bool.and_true]
theorem solid_als : ∀ l : List Al, solidL (l.map alV) = true
  | [] => rfl
  | a :: r => by rw [List.map_cons, solidL, solid_al, solid_als r]; rfl
theorem first_loop (l : List Al) (hl : l.length ≤ 9223372036854775807) (k : Nat) (a : Al) (hk : l[k]? = some a) : ∀ (d i : Nat), i + d = k → ∃ (i' : Int),
    lrun Try.prog md fg (fg 34) (loopOf Try.f34 0) (fg 34 1) ([.slc false (l.map alV), .int k, .unk, .unk, .val (.bool false), .int i, .unk, .unk, .unk, .unk, .unk, .unk, .unk, .unk, .unk, .unk, .unk, .unk, .unk, .unk, .unk, .unk]) [] = some (if a.nm ∈ ((l.take k).drop i).map Al.nm then (.ret, [.slc false (l.map alV), .int k, .unk, .unk, .val (.bool false), .int i', .unk, .unk, .unk, .unk, .unk, .unk, .unk, .unk, .unk, .unk, .unk, .unk, .unk, .unk, .unk, .unk], []) else (.exit 0, [.slc false (l.map alV), .int k, .unk, .unk, .val (.bool false), .int i', .unk, .unk, .unk, .unk, .unk, .unk, .unk, .unk, .unk, .unk, .unk, .unk, .unk, .unk, .unk, .unk], []))
  | 0, i, hd => by
    have : i = k := by omega
    subst this
    refine ⟨(i : Int), ?_⟩
    have hlt : i < l.length := (List.getElem?_eq_some_iff.1 hk).1
    rw [if_neg (by rw [List.drop_eq_nil_of_le (by rw [List.length_take]; omega)]; simp)]
    rw [lrun_atC loop34_0]
    simp (implicitDefEqProofs := false) (disch := omega) only [go_sem, Nat.reduceAdd, Nat.reduceSub, Nat.reduceMul, Nat.reduceLT, Nat.reduceLeDiff, Nat.reduceEqDiff, List.drop_zero, List.take_succ_cons, List.take_zero, List.drop_succ_cons, Bool.and_true, Bool.true_and, Bool.and_false, Bool.false_and, BitVec.reduceOfInt, Nat.zero_add, Nat.mul_one, Nat.add_zero, Int.zero_add, Int.reduceToNat, Nat.reducePow, ↓reduceIte, reduceCtorEq, Int.reduceLE, Int.reduceLT, Int.reduceEq, Int.reduceNe, Int.reduceAdd, Int.reduceSub, Int.reduceMul, Int.reduceNeg, Nat.reduceBEq, show regOf Try.f34 2 = Code.region _ _ _ from rfl]
  | d + 1, i, hd => by
    have hlk : k < l.length := (List.getElem?_eq_some_iff.1 hk).1
    obtain ⟨b, hx⟩ : ∃ b, l[i]? = some b := ⟨l[i], List.getElem?_eq_getElem (by omega)⟩
    have hdr : (l.take k).drop i = b :: (l.take k).drop (i + 1) := by
      have h1 : (l.take k)[i]? = some b := by rw [List.getElem?_take_of_lt (by omega)]; exact hx
      rw [List.drop_eq_getElem_cons (by rw [List.length_take]; omega)]
      rw [(List.getElem?_eq_some_iff.1 h1).2]
    have ht : ((i : Int)).toNat = i := by omega
    have ht2 : ((k : Int)).toNat = k := by omega
    have hs := str_eq b.nm a.nm
    rw [hdr, List.map_cons]
    by_cases hbk : b.nm = a.nm
    · refine ⟨(i : Int), ?_⟩
      rw [if_pos (by simp [hbk])]
      obtain ⟨s, ps, k2, p2, m2, n2, l2⟩ := a
      obtain ⟨s', ps', k3, p3, m3, n3, l3⟩ := b
      dsimp only at hbk
      subst hbk
      rw [lrun_atC loop34_0]
      simp (implicitDefEqProofs := false) (disch := omega) only [go_sem, Nat.reduceAdd, Nat.reduceSub, Nat.reduceMul, Nat.reduceLT, Nat.reduceLeDiff, Nat.reduceEqDiff, List.drop_zero, List.take_succ_cons, List.take_zero, List.drop_succ_cons, Bool.and_true, Bool.true_and, Bool.and_false, Bool.false_and, BitVec.reduceOfInt, Nat.zero_add, Nat.mul_one, Nat.add_zero, Int.zero_add, Int.reduceToNat, Nat.reducePow, ↓reduceIte, reduceCtorEq, Int.reduceLE, Int.reduceLT, Int.reduceEq, Int.reduceNe, Int.reduceAdd, Int.reduceSub, Int.reduceMul, Int.reduceNeg, Nat.reduceBEq, show regOf Try.f34 2 = Code.region _ _ _ from rfl, show regOf Try.f34 4 = Code.region _ _ _ from rfl, show regOf Try.f34 5 = Code.region _ _ _ from rfl, List.length_map, List.getElem?_map, ht, ht2, hx, hk, Option.map_some, alV_mk]
    · obtain ⟨i', e⟩ := first_loop l hl k a hk d (i + 1) (by omega)
      refine ⟨i', ?_⟩
      have hm : ∀ x : List Nm, (a.nm ∈ b.nm :: x) ↔ a.nm ∈ x := fun x => by rw [List.mem_cons]; exact ⟨fun h => h.elim (fun h => absurd h.symm hbk) id, .inr⟩
      simp only [hm]
      rw [← e]
      obtain ⟨s, ps, k2, p2, m2, n2, l2⟩ := a
      obtain ⟨s', ps', k3, p3, m3, n3, l3⟩ := b
      dsimp only at hbk hs
      rw [lrun_atC loop34_0]
      simp (implicitDefEqProofs := false) (disch := omega) only [go_sem, Nat.reduceAdd, Nat.reduceSub, Nat.reduceMul, Nat.reduceLT, Nat.reduceLeDiff, Nat.reduceEqDiff, List.drop_zero, List.take_succ_cons, List.take_zero, List.drop_succ_cons, Bool.and_true, Bool.true_and, Bool.and_false, Bool.false_and, BitVec.reduceOfInt, Nat.zero_add, Nat.mul_one, Nat.add_zero, Int.zero_add, Int.reduceToNat, Nat.reducePow, ↓reduceIte, reduceCtorEq, Int.reduceLE, Int.reduceLT, Int.reduceEq, Int.reduceNe, Int.reduceAdd, Int.reduceSub, Int.reduceMul, Int.reduceNeg, Nat.reduceBEq, show regOf Try.f34 2 = Code.region _ _ _ from rfl, show regOf Try.f34 4 = Code.region _ _ _ from rfl, show regOf Try.f34 3 = Code.region _ _ _ from rfl, List.length_map, List.getElem?_map, ht, ht2, hx, hk, Option.map_some, alV_mk, hs, hbk]
      all_goals (congr 1 <;> simp only [List.cons.injEq, AV.val.injEq, Value.int.injEq, Value.bool.injEq, true_and, and_true] <;> omega)
/-- Is it the first with its name? -/
def fst (l : List Al) (k : Nat) : Bool := match l[k]? with | some a => decide (a.nm ∉ (l.take k).map Al.nm) | none => false
theorem first_p (l : List Al) (hl : l.length ≤ 9223372036854775807) (k : Nat) (a : Al) (hk : l[k]? = some a) : pcall Try.prog md fg 34 [.slc false (l.map alV), .int k] = some (.val (.bool (fst l k))) := by
  have e : ∃ h, aval Try.prog md fg 34 [.slc false (l.map alV), .int k] [] = some (.val (.bool (fst l k)), h) := by
    obtain ⟨i', e⟩ := first_loop l hl k a hk k 0 (by omega)
    simp only [Int.natCast_zero, List.drop_zero] at e
    unfold fst
    rw [hk]
    dsimp only
    rw [aval_of Try.func34 body34 Try.results34 Try.ntmps34 ok34]
    by_cases h : a.nm ∈ (l.take k).map Al.nm
    · rw [if_pos h] at e
      simp (implicitDefEqProofs := false) (disch := omega) only [go_sem, Nat.reduceAdd, Nat.reduceSub, Nat.reduceMul, Nat.reduceLT, Nat.reduceLeDiff, Nat.reduceEqDiff, List.drop_zero, List.take_succ_cons, List.take_zero, List.drop_succ_cons, Bool.and_true, Bool.true_and, Bool.and_false, Bool.false_and, BitVec.reduceOfInt, Nat.zero_add, Nat.mul_one, Nat.add_zero, Int.zero_add, Int.reduceToNat, Nat.reducePow, ↓reduceIte, reduceCtorEq, Int.reduceLE, Int.reduceLT, Int.reduceEq, Int.reduceNe, Int.reduceAdd, Int.reduceSub, Int.reduceMul, Int.reduceNeg, Nat.reduceBEq, show regOf Try.f34 0 = Code.region _ _ _ from rfl, show regOf Try.f34 1 = Code.region _ _ _ from rfl, e, h, not_true, decide_false]
      exact ⟨_, rfl⟩
    · rw [if_neg h] at e
      simp (implicitDefEqProofs := false) (disch := omega) only [go_sem, Nat.reduceAdd, Nat.reduceSub, Nat.reduceMul, Nat.reduceLT, Nat.reduceLeDiff, Nat.reduceEqDiff, List.drop_zero, List.take_succ_cons, List.take_zero, List.drop_succ_cons, Bool.and_true, Bool.true_and, Bool.and_false, Bool.false_and, BitVec.reduceOfInt, Nat.zero_add, Nat.mul_one, Nat.add_zero, Int.zero_add, Int.reduceToNat, Nat.reducePow, ↓reduceIte, reduceCtorEq, Int.reduceLE, Int.reduceLT, Int.reduceEq, Int.reduceNe, Int.reduceAdd, Int.reduceSub, Int.reduceMul, Int.reduceNeg, Nat.reduceBEq, show regOf Try.f34 0 = Code.region _ _ _ from rfl, show regOf Try.f34 1 = Code.region _ _ _ from rfl, show regOf Try.f34 6 = Code.region _ _ _ from rfl, e, h, not_false_iff, decide_true]
      exact ⟨_, rfl⟩
  obtain ⟨h, e⟩ := e
  rw [pcall_eq, e, pureRes_solid rfl]
theorem first_c (l : List Al) (hl : l.length ≤ 9223372036854775807) (k : Nat) (a : Al) (hk : l[k]? = some a) (h : AHeap) : doCall md (aval Try.prog md fg) 34 [.slc false (l.map alV), .int k] h = some (.val (.bool (fst l k)), h) := doCall_pure md34 (by simp only [solidL, solid, solid_als, Bool.not_false, Bool.and_true]) (first_p l hl k a hk)
end Go.Proofs.Ytgijlgdhogbgbaa
namespace Go.Proofs.Ytgijlgdhogbgbaa
open Go Go.Ab Go.Proofs
set_option maxRecDepth 100000
set_option linter.unusedSimpArgs false
set_option linter.unusedVariables false
/-- Does a term name this alias? -/
def isA (x : Tm) (s : Nm) : Bool := decide (x.kind = 2 ∧ x.pkg = [] ∧ x.name = s)
def fnd (x : Tm) : List Al → Nat → Option Nat
  | [], _ => none
  | a :: r, i => if isA x a.nm then some i else fnd x r (i + 1)
def fndI (o : Option Nat) : Int := match o with | some j => (j : Int) | none => -1
theorem fnd_loop (k : Int) (p m : Nm) (n : Int) (ks : List Tm) (l : List Al) (hl : l.length ≤ 9223372036854775807) : ∀ (r : List Al) (i : Nat) (a4 : AV), l.drop i = r → i ≤ l.length → ∃ (i' : Int) (a' : AV),
    lrun Try.prog md fg (fg 45) (loopOf Try.f45 0) (fg 45 1) (((.slc false (l.map alV)) :: .unk :: .unk :: (.ptr 0 0) :: (a4) :: (.int i) :: .unk :: .unk :: .unk :: .unk :: .unk :: .unk :: .unk :: .unk :: .unk :: .unk :: .unk :: .unk :: .unk :: .unk :: .unk :: .unk :: .unk :: .unk :: .unk :: .unk :: .unk :: .unk :: .unk :: .unk :: .unk :: [] : List AV)) [.vars [.int k, .str (txt p), .str (txt m), .int n, .slc false (ks.map tmV)]] = some (match fnd ⟨k, p, m, n, ks⟩ r i with | some j => (.ret, ((.slc false (l.map alV)) :: .unk :: .unk :: (.ptr 0 0) :: (.int j) :: (.int i') :: .unk :: .unk :: .unk :: .unk :: .unk :: .unk :: .unk :: .unk :: .unk :: .unk :: .unk :: .unk :: .unk :: .unk :: .unk :: .unk :: .unk :: .unk :: .unk :: .unk :: .unk :: .unk :: .unk :: .unk :: .unk :: [] : List AV), [.vars [.int k, .str (txt p), .str (txt m), .int n, .slc false (ks.map tmV)]]) | none => (.exit 0, ((.slc false (l.map alV)) :: .unk :: .unk :: (.ptr 0 0) :: (a') :: (.int i') :: .unk :: .unk :: .unk :: .unk :: .unk :: .unk :: .unk :: .unk :: .unk :: .unk :: .unk :: .unk :: .unk :: .unk :: .unk :: .unk :: .unk :: .unk :: .unk :: .unk :: .unk :: .unk :: .unk :: .unk :: .unk :: [] : List AV), [.vars [.int k, .str (txt p), .str (txt m), .int n, .slc false (ks.map tmV)]]))
  | [], i, a4, hdr, hi => by
    have : i = l.length := by have := congrArg List.length hdr; simp at this; omega
    subst this
    refine ⟨(l.length : Int), a4, ?_⟩
    simp only [fnd]
    rw [lrun_atC loop45_0]
    simp (implicitDefEqProofs := false) (disch := omega) only [go_sem, Nat.reduceAdd, Nat.reduceSub, Nat.reduceMul, Nat.reduceLT, Nat.reduceLeDiff, Nat.reduceEqDiff, List.drop_zero, List.take_succ_cons, List.take_zero, List.drop_succ_cons, Bool.and_true, Bool.true_and, Bool.and_false, Bool.false_and, BitVec.reduceOfInt, Nat.zero_add, Nat.mul_one, Nat.add_zero, Int.zero_add, Int.reduceToNat, Nat.reducePow, ↓reduceIte, reduceCtorEq, Int.reduceLE, Int.reduceLT, Int.reduceEq, Int.reduceNe, Int.reduceAdd, Int.reduceSub, Int.reduceMul, Int.reduceNeg, Nat.reduceBEq, show regOf Try.f45 2 = Code.region _ _ _ from rfl, List.length_map]
  | ⟨s, ps, k2, p2, m2, n2, l2⟩ :: r, i, a4, hdr, hi => by
    have hx : l[i]? = some ⟨s, ps, k2, p2, m2, n2, l2⟩ := by have := congrArg (·[0]?) hdr; simpa using this
    have hlt : i < l.length := (List.getElem?_eq_some_iff.1 hx).1
    have hd' : l.drop (i + 1) = r := by rw [← List.tail_drop, hdr]; rfl
    have ht : ((i : Int)).toNat = i := by omega
    have hs := str_eq m s
    have hp := txt_eq_nil p
    unfold fnd
    by_cases hc : isA ⟨k, p, m, n, ks⟩ s = true
    · refine ⟨(i : Int), .unk, ?_⟩
      rw [if_pos hc]
      unfold isA at hc
      rw [decide_eq_true_eq] at hc
      obtain ⟨h1, h2, h3⟩ := hc
      change k = 2 at h1; change p = [] at h2; change m = s at h3
      subst h1; subst h3; subst h2
      have hp0 : (txt [] = ⟨#[]⟩) = True := by rw [txt_eq_nil]; simp
      dsimp only
      rw [lrun_atC loop45_0]
      simp (implicitDefEqProofs := false) (disch := omega) only [go_sem, Nat.reduceAdd, Nat.reduceSub, Nat.reduceMul, Nat.reduceLT, Nat.reduceLeDiff, Nat.reduceEqDiff, List.drop_zero, List.take_succ_cons, List.take_zero, List.drop_succ_cons, Bool.and_true, Bool.true_and, Bool.and_false, Bool.false_and, BitVec.reduceOfInt, Nat.zero_add, Nat.mul_one, Nat.add_zero, Int.zero_add, Int.reduceToNat, Nat.reducePow, ↓reduceIte, reduceCtorEq, Int.reduceLE, Int.reduceLT, Int.reduceEq, Int.reduceNe, Int.reduceAdd, Int.reduceSub, Int.reduceMul, Int.reduceNeg, Nat.reduceBEq, show regOf Try.f45 2 = Code.region _ _ _ from rfl, show regOf Try.f45 4 = Code.region _ _ _ from rfl, show regOf Try.f45 5 = Code.region _ _ _ from rfl, List.length_map, List.getElem?_map, ht, hx, Option.map_some, alV_mk, hp0]
    · obtain ⟨i', a', e⟩ := fnd_loop k p m n ks l hl r (i + 1) a4 hd' (by omega)
      refine ⟨i', a', ?_⟩
      rw [if_neg hc, ← e]
      unfold isA at hc
      rw [decide_eq_true_eq] at hc
      change ¬ (k = 2 ∧ p = [] ∧ m = s) at hc
      by_cases h1 : k = 2
      · by_cases h2 : p = []
        · have h3 : ¬ m = s := fun h3 => hc ⟨h1, h2, h3⟩
          have hp0 : (txt [] = ⟨#[]⟩) = True := by rw [txt_eq_nil]; simp
          subst h2
          rw [lrun_atC loop45_0]
          simp (implicitDefEqProofs := false) (disch := omega) only [go_sem, Nat.reduceAdd, Nat.reduceSub, Nat.reduceMul, Nat.reduceLT, Nat.reduceLeDiff, Nat.reduceEqDiff, List.drop_zero, List.take_succ_cons, List.take_zero, List.drop_succ_cons, Bool.and_true, Bool.true_and, Bool.and_false, Bool.false_and, BitVec.reduceOfInt, Nat.zero_add, Nat.mul_one, Nat.add_zero, Int.zero_add, Int.reduceToNat, Nat.reducePow, ↓reduceIte, reduceCtorEq, Int.reduceLE, Int.reduceLT, Int.reduceEq, Int.reduceNe, Int.reduceAdd, Int.reduceSub, Int.reduceMul, Int.reduceNeg, Nat.reduceBEq, show regOf Try.f45 2 = Code.region _ _ _ from rfl, show regOf Try.f45 4 = Code.region _ _ _ from rfl, show regOf Try.f45 3 = Code.region _ _ _ from rfl, List.length_map, List.getElem?_map, ht, hx, Option.map_some, alV_mk, hp0, hs, h1, h3]
          all_goals (congr 1 <;> simp only [List.cons.injEq, AV.val.injEq, Value.int.injEq, Value.bool.injEq, true_and, and_true] <;> omega)
        · rw [lrun_atC loop45_0]
          simp (implicitDefEqProofs := false) (disch := omega) only [go_sem, Nat.reduceAdd, Nat.reduceSub, Nat.reduceMul, Nat.reduceLT, Nat.reduceLeDiff, Nat.reduceEqDiff, List.drop_zero, List.take_succ_cons, List.take_zero, List.drop_succ_cons, Bool.and_true, Bool.true_and, Bool.and_false, Bool.false_and, BitVec.reduceOfInt, Nat.zero_add, Nat.mul_one, Nat.add_zero, Int.zero_add, Int.reduceToNat, Nat.reducePow, ↓reduceIte, reduceCtorEq, Int.reduceLE, Int.reduceLT, Int.reduceEq, Int.reduceNe, Int.reduceAdd, Int.reduceSub, Int.reduceMul, Int.reduceNeg, Nat.reduceBEq, show regOf Try.f45 2 = Code.region _ _ _ from rfl, show regOf Try.f45 4 = Code.region _ _ _ from rfl, show regOf Try.f45 3 = Code.region _ _ _ from rfl, List.length_map, List.getElem?_map, ht, hx, Option.map_some, alV_mk, hp, hs, h1, h2]
          all_goals (congr 1 <;> simp only [List.cons.injEq, AV.val.injEq, Value.int.injEq, Value.bool.injEq, true_and, and_true] <;> omega)
      · rw [lrun_atC loop45_0]
        simp (implicitDefEqProofs := false) (disch := omega) only [go_sem, Nat.reduceAdd, Nat.reduceSub, Nat.reduceMul, Nat.reduceLT, Nat.reduceLeDiff, Nat.reduceEqDiff, List.drop_zero, List.take_succ_cons, List.take_zero, List.drop_succ_cons, Bool.and_true, Bool.true_and, Bool.and_false, Bool.false_and, BitVec.reduceOfInt, Nat.zero_add, Nat.mul_one, Nat.add_zero, Int.zero_add, Int.reduceToNat, Nat.reducePow, ↓reduceIte, reduceCtorEq, Int.reduceLE, Int.reduceLT, Int.reduceEq, Int.reduceNe, Int.reduceAdd, Int.reduceSub, Int.reduceMul, Int.reduceNeg, Nat.reduceBEq, show regOf Try.f45 2 = Code.region _ _ _ from rfl, show regOf Try.f45 4 = Code.region _ _ _ from rfl, show regOf Try.f45 3 = Code.region _ _ _ from rfl, List.length_map, List.getElem?_map, ht, hx, Option.map_some, alV_mk, hp, hs, h1]
        all_goals (congr 1 <;> simp only [List.cons.injEq, AV.val.injEq, Value.int.injEq, Value.bool.injEq, true_and, and_true] <;> omega)
theorem fnd_p (x : Tm) (l : List Al) (hl : l.length ≤ 9223372036854775807) : pcall Try.prog md fg 45 [.slc false (l.map alV), tmV x] = some (.int (fndI (fnd x l 0))) := by
  obtain ⟨k, p, m, n, ks⟩ := x
  have e : ∃ h, aval Try.prog md fg 45 [.slc false (l.map alV), tmV ⟨k, p, m, n, ks⟩] [] = some (.int (fndI (fnd ⟨k, p, m, n, ks⟩ l 0)), h) := by
    obtain ⟨i', a', e⟩ := fnd_loop k p m n ks l hl l 0 (.int 0) (by simp) (by omega)
    simp only [Int.natCast_zero] at e
    rw [tmV_mk]
    rw [aval_of Try.func45 body45 Try.results45 Try.ntmps45 ok45]
    cases hf : fnd ⟨k, p, m, n, ks⟩ l 0 with
    | none =>
      rw [hf] at e
      dsimp only at e
      simp (implicitDefEqProofs := false) (disch := omega) only [go_sem, Nat.reduceAdd, Nat.reduceSub, Nat.reduceMul, Nat.reduceLT, Nat.reduceLeDiff, Nat.reduceEqDiff, List.drop_zero, List.take_succ_cons, List.take_zero, List.drop_succ_cons, Bool.and_true, Bool.true_and, Bool.and_false, Bool.false_and, BitVec.reduceOfInt, Nat.zero_add, Nat.mul_one, Nat.add_zero, Int.zero_add, Int.reduceToNat, Nat.reducePow, ↓reduceIte, reduceCtorEq, Int.reduceLE, Int.reduceLT, Int.reduceEq, Int.reduceNe, Int.reduceAdd, Int.reduceSub, Int.reduceMul, Int.reduceNeg, Nat.reduceBEq, show regOf Try.f45 0 = Code.region _ _ _ from rfl, show regOf Try.f45 1 = Code.region _ _ _ from rfl, show regOf Try.f45 6 = Code.region _ _ _ from rfl, e, fndI]
      exact ⟨_, rfl⟩
    | some j =>
      rw [hf] at e
      dsimp only at e
      simp (implicitDefEqProofs := false) (disch := omega) only [go_sem, Nat.reduceAdd, Nat.reduceSub, Nat.reduceMul, Nat.reduceLT, Nat.reduceLeDiff, Nat.reduceEqDiff, List.drop_zero, List.take_succ_cons, List.take_zero, List.drop_succ_cons, Bool.and_true, Bool.true_and, Bool.and_false, Bool.false_and, BitVec.reduceOfInt, Nat.zero_add, Nat.mul_one, Nat.add_zero, Int.zero_add, Int.reduceToNat, Nat.reducePow, ↓reduceIte, reduceCtorEq, Int.reduceLE, Int.reduceLT, Int.reduceEq, Int.reduceNe, Int.reduceAdd, Int.reduceSub, Int.reduceMul, Int.reduceNeg, Nat.reduceBEq, show regOf Try.f45 0 = Code.region _ _ _ from rfl, show regOf Try.f45 1 = Code.region _ _ _ from rfl, e, fndI]
      exact ⟨_, rfl⟩
  obtain ⟨h, e⟩ := e
  rw [pcall_eq, e, pureRes_solid rfl]
theorem fnd_c (x : Tm) (l : List Al) (hl : l.length ≤ 9223372036854775807) (h : AHeap) : doCall md (aval Try.prog md fg) 45 [.slc false (l.map alV), tmV x] h = some (.int (fndI (fnd x l 0)), h) := doCall_pure md45 (by simp only [solidL, solid, solid_als, solid_tm, Bool.not_false, Bool.and_true]) (fnd_p x l hl)
mutual
/-- Does a type name the k-th alias? -/
def nms (l : List Al) (k : Nat) : Tm → Bool | .mk a b c d ks => decide (fnd ⟨a, b, c, d, ks⟩ l 0 = some k) || nmsL l k ks
def nmsL (l : List Al) (k : Nat) : List Tm → Bool | [] => false | t :: r => nms l k t || nmsL l k r
end
def NA (l : List Al) (k : Nat) (t : Tm) : Prop := pcall Try.prog md fg 35 [.slc false (l.map alV), tmV t, .int k] = some (.val (.bool (nms l k t)))
theorem nms_loop (al : List Al) (q : Nat) (k : Int) (p m : Nm) (n : Int) (l : List Tm) (hl : l.length ≤ 9223372036854775807) (hQ : ∀ t ∈ l, NA al q t) : ∀ (r : List Tm) (i : Nat), l.drop i = r → i ≤ l.length → ∃ (i' : Int),
    lrun Try.prog md fg (fg 35) (loopOf Try.f35 0) (fg 35 1) (((.slc false (al.map alV)) :: .unk :: (.int q) :: .unk :: (.ptr 0 0) :: .unk :: (.val (.bool false)) :: (.int i) :: .unk :: .unk :: .unk :: .unk :: .unk :: .unk :: .unk :: .unk :: .unk :: .unk :: .unk :: .unk :: .unk :: .unk :: .unk :: .unk :: .unk :: .unk :: .unk :: .unk :: [] : List AV)) [.vars [.int k, .str (txt p), .str (txt m), .int n, .slc false (l.map tmV)]] = some (if nmsL al q r then (.ret, ((.slc false (al.map alV)) :: .unk :: (.int q) :: .unk :: (.ptr 0 0) :: .unk :: (.val (.bool true)) :: (.int i') :: .unk :: .unk :: .unk :: .unk :: .unk :: .unk :: .unk :: .unk :: .unk :: .unk :: .unk :: .unk :: .unk :: .unk :: .unk :: .unk :: .unk :: .unk :: .unk :: .unk :: [] : List AV), [.vars [.int k, .str (txt p), .str (txt m), .int n, .slc false (l.map tmV)]]) else (.exit 0, ((.slc false (al.map alV)) :: .unk :: (.int q) :: .unk :: (.ptr 0 0) :: .unk :: (.val (.bool false)) :: (.int i') :: .unk :: .unk :: .unk :: .unk :: .unk :: .unk :: .unk :: .unk :: .unk :: .unk :: .unk :: .unk :: .unk :: .unk :: .unk :: .unk :: .unk :: .unk :: .unk :: .unk :: [] : List AV), [.vars [.int k, .str (txt p), .str (txt m), .int n, .slc false (l.map tmV)]]))
  | [], i, hdr, hi => by
    have : i = l.length := by have := congrArg List.length hdr; simp at this; omega
    subst this
    refine ⟨(l.length : Int), ?_⟩
    rw [nmsL, if_neg (by decide)]
    rw [lrun_atC loop35_0]
    simp (implicitDefEqProofs := false) (disch := omega) only [go_sem, Nat.reduceAdd, Nat.reduceSub, Nat.reduceMul, Nat.reduceLT, Nat.reduceLeDiff, Nat.reduceEqDiff, List.drop_zero, List.take_succ_cons, List.take_zero, List.drop_succ_cons, Bool.and_true, Bool.true_and, Bool.and_false, Bool.false_and, BitVec.reduceOfInt, Nat.zero_add, Nat.mul_one, Nat.add_zero, Int.zero_add, Int.reduceToNat, Nat.reducePow, ↓reduceIte, reduceCtorEq, Int.reduceLE, Int.reduceLT, Int.reduceEq, Int.reduceNe, Int.reduceAdd, Int.reduceSub, Int.reduceMul, Int.reduceNeg, Nat.reduceBEq, show regOf Try.f35 4 = Code.region _ _ _ from rfl, List.length_map]
  | ⟨k2, p2, m2, n2, l2⟩ :: r, i, hdr, hi => by
    have hx : l[i]? = some ⟨k2, p2, m2, n2, l2⟩ := by have := congrArg (·[0]?) hdr; simpa using this
    have hlt : i < l.length := (List.getElem?_eq_some_iff.1 hx).1
    have hd' : l.drop (i + 1) = r := by rw [← List.tail_drop, hdr]; rfl
    have ht : ((i : Int)).toNat = i := by omega
    have hq := hQ _ (List.mem_of_getElem? hx)
    have cy : ∀ h : AHeap, doCall md (aval Try.prog md fg) 35 [.slc false (al.map alV), tmV ⟨k2, p2, m2, n2, l2⟩, .int q] h = some (.val (.bool (nms al q ⟨k2, p2, m2, n2, l2⟩)), h) := fun h => doCall_pure md35 (by simp only [solidL, solid, solid_als, solid_tm, Bool.not_false, Bool.and_true]) hq
    rw [nmsL]
    rw [tmV_mk] at cy
    generalize nms al q ⟨k2, p2, m2, n2, l2⟩ = b at *
    cases b with
    | true =>
      refine ⟨(i : Int), ?_⟩
      rw [Bool.true_or, if_pos rfl]
      rw [lrun_atC loop35_0]
      simp (implicitDefEqProofs := false) (disch := omega) only [go_sem, Nat.reduceAdd, Nat.reduceSub, Nat.reduceMul, Nat.reduceLT, Nat.reduceLeDiff, Nat.reduceEqDiff, List.drop_zero, List.take_succ_cons, List.take_zero, List.drop_succ_cons, Bool.and_true, Bool.true_and, Bool.and_false, Bool.false_and, BitVec.reduceOfInt, Nat.zero_add, Nat.mul_one, Nat.add_zero, Int.zero_add, Int.reduceToNat, Nat.reducePow, ↓reduceIte, reduceCtorEq, Int.reduceLE, Int.reduceLT, Int.reduceEq, Int.reduceNe, Int.reduceAdd, Int.reduceSub, Int.reduceMul, Int.reduceNeg, Nat.reduceBEq, show regOf Try.f35 4 = Code.region _ _ _ from rfl, show regOf Try.f35 6 = Code.region _ _ _ from rfl, show regOf Try.f35 7 = Code.region _ _ _ from rfl, List.length_map, List.getElem?_map, ht, hx, Option.map_some, tmV_mk, cy]
    | false =>
      obtain ⟨i', e2⟩ := nms_loop al q k p m n l hl hQ r (i + 1) hd' (by omega)
      refine ⟨i', ?_⟩
      rw [Bool.false_or, ← e2]
      rw [lrun_atC loop35_0]
      simp (implicitDefEqProofs := false) (disch := omega) only [go_sem, Nat.reduceAdd, Nat.reduceSub, Nat.reduceMul, Nat.reduceLT, Nat.reduceLeDiff, Nat.reduceEqDiff, List.drop_zero, List.take_succ_cons, List.take_zero, List.drop_succ_cons, Bool.and_true, Bool.true_and, Bool.and_false, Bool.false_and, BitVec.reduceOfInt, Nat.zero_add, Nat.mul_one, Nat.add_zero, Int.zero_add, Int.reduceToNat, Nat.reducePow, ↓reduceIte, reduceCtorEq, Int.reduceLE, Int.reduceLT, Int.reduceEq, Int.reduceNe, Int.reduceAdd, Int.reduceSub, Int.reduceMul, Int.reduceNeg, Nat.reduceBEq, show regOf Try.f35 4 = Code.region _ _ _ from rfl, show regOf Try.f35 6 = Code.region _ _ _ from rfl, show regOf Try.f35 5 = Code.region _ _ _ from rfl, List.length_map, List.getElem?_map, ht, hx, Option.map_some, tmV_mk, cy]
      all_goals (congr 1 <;> simp only [List.cons.injEq, AV.val.injEq, Value.int.injEq, Value.bool.injEq, true_and, and_true] <;> omega)
theorem na_node (al : List Al) (hal : al.length ≤ 9223372036854775807) (q : Nat) (k : Int) (p m : Nm) (n : Int) (l : List Tm) (hl : l.length ≤ 9223372036854775807) (hQ : ∀ t ∈ l, NA al q t) : NA al q ⟨k, p, m, n, l⟩ := by
  unfold NA
  have cf := fnd_c ⟨k, p, m, n, l⟩ al hal
  rw [tmV_mk] at cf
  have e : ∃ h, aval Try.prog md fg 35 [.slc false (al.map alV), tmV ⟨k, p, m, n, l⟩, .int q] [] = some (.val (.bool (nms al q ⟨k, p, m, n, l⟩)), h) := by
    rw [tmV_mk, nms]
    generalize fnd ⟨k, p, m, n, l⟩ al 0 = o at *
    by_cases h1 : o = some q
    · subst h1
      rw [aval_of Try.func35 body35 Try.results35 Try.ntmps35 ok35]
      simp (implicitDefEqProofs := false) (disch := omega) only [go_sem, Nat.reduceAdd, Nat.reduceSub, Nat.reduceMul, Nat.reduceLT, Nat.reduceLeDiff, Nat.reduceEqDiff, List.drop_zero, List.take_succ_cons, List.take_zero, List.drop_succ_cons, Bool.and_true, Bool.true_and, Bool.and_false, Bool.false_and, BitVec.reduceOfInt, Nat.zero_add, Nat.mul_one, Nat.add_zero, Int.zero_add, Int.reduceToNat, Nat.reducePow, ↓reduceIte, reduceCtorEq, Int.reduceLE, Int.reduceLT, Int.reduceEq, Int.reduceNe, Int.reduceAdd, Int.reduceSub, Int.reduceMul, Int.reduceNeg, Nat.reduceBEq, show regOf Try.f35 0 = Code.region _ _ _ from rfl, show regOf Try.f35 1 = Code.region _ _ _ from rfl, show regOf Try.f35 2 = Code.region _ _ _ from rfl, cf, fndI, decide_true, Bool.true_or]
      exact ⟨_, rfl⟩
    · have h2 : ¬ fndI o = (q : Int) := by
        cases o with
        | none => simp only [fndI]; omega
        | some j => simp only [fndI]; intro h; exact h1 (by rw [Option.some.injEq]; omega)
      obtain ⟨i', e⟩ := nms_loop al q k p m n l hl hQ l 0 (by simp) (by omega)
      simp only [Int.natCast_zero] at e
      generalize fndI o = z at *
      rw [decide_eq_false h1, Bool.false_or]
      rw [aval_of Try.func35 body35 Try.results35 Try.ntmps35 ok35]
      by_cases h : nmsL al q l = true
      · rw [if_pos h] at e
        simp (implicitDefEqProofs := false) (disch := omega) only [go_sem, Nat.reduceAdd, Nat.reduceSub, Nat.reduceMul, Nat.reduceLT, Nat.reduceLeDiff, Nat.reduceEqDiff, List.drop_zero, List.take_succ_cons, List.take_zero, List.drop_succ_cons, Bool.and_true, Bool.true_and, Bool.and_false, Bool.false_and, BitVec.reduceOfInt, Nat.zero_add, Nat.mul_one, Nat.add_zero, Int.zero_add, Int.reduceToNat, Nat.reducePow, ↓reduceIte, reduceCtorEq, Int.reduceLE, Int.reduceLT, Int.reduceEq, Int.reduceNe, Int.reduceAdd, Int.reduceSub, Int.reduceMul, Int.reduceNeg, Nat.reduceBEq, show regOf Try.f35 0 = Code.region _ _ _ from rfl, show regOf Try.f35 1 = Code.region _ _ _ from rfl, show regOf Try.f35 3 = Code.region _ _ _ from rfl, cf, h2, e, h]
        exact ⟨_, rfl⟩
      · rw [if_neg h] at e
        simp (implicitDefEqProofs := false) (disch := omega) only [go_sem, Nat.reduceAdd, Nat.reduceSub, Nat.reduceMul, Nat.reduceLT, Nat.reduceLeDiff, Nat.reduceEqDiff, List.drop_zero, List.take_succ_cons, List.take_zero, List.drop_succ_cons, Bool.and_true, Bool.true_and, Bool.and_false, Bool.false_and, BitVec.reduceOfInt, Nat.zero_add, Nat.mul_one, Nat.add_zero, Int.zero_add, Int.reduceToNat, Nat.reducePow, ↓reduceIte, reduceCtorEq, Int.reduceLE, Int.reduceLT, Int.reduceEq, Int.reduceNe, Int.reduceAdd, Int.reduceSub, Int.reduceMul, Int.reduceNeg, Nat.reduceBEq, show regOf Try.f35 0 = Code.region _ _ _ from rfl, show regOf Try.f35 1 = Code.region _ _ _ from rfl, show regOf Try.f35 3 = Code.region _ _ _ from rfl, show regOf Try.f35 8 = Code.region _ _ _ from rfl, cf, h2, e, h]
        exact ⟨_, rfl⟩
  obtain ⟨h, e⟩ := e
  rw [pcall_eq, e, pureRes_solid rfl]
mutual
theorem NA_all (al : List Al) (hal : al.length ≤ 9223372036854775807) (q : Nat) : ∀ t : Tm, t.fit → NA al q t
  | ⟨k, p, m, n, l⟩, hf => by
    rw [Tm.fit] at hf
    exact na_node al hal q k p m n l hf.2.2.1 (NA_alls al hal q l hf.2.2.2)
theorem NA_alls (al : List Al) (hal : al.length ≤ 9223372036854775807) (q : Nat) : ∀ l : List Tm, Tm.fits l → ∀ t ∈ l, NA al q t
  | [], _, t, h => by cases h
  | a :: r, hf, t, h => by
    rw [Tm.fits] at hf
    rcases List.mem_cons.1 h with h | h
    · rw [h]; exact NA_all al hal q a hf.1
    · exact NA_alls al hal q r hf.2 t h
end
theorem nms_c (al : List Al) (hal : al.length ≤ 9223372036854775807) (q : Nat) (t : Tm) (hf : t.fit) (h : AHeap) : doCall md (aval Try.prog md fg) 35 [.slc false (al.map alV), tmV t, .int q] h = some (.val (.bool (nms al q t)), h) := doCall_pure md35 (by simp only [solidL, solid, solid_als, solid_tm, Bool.not_false, Bool.and_true]) (NA_all al hal q t hf)
theorem in_c (k : Nm) (l : List Nm) (hl : l.length ≤ 9223372036854775807) (h : AHeap) : doCall md (aval Try.prog md fg) 19 [sV k, .slc false (l.map sV)] h = some (.val (.bool (decide (k ∈ l))), h) := doCall_pure md19 (by simp only [solidL, solid, solid_names, Bool.not_false, Bool.and_true]) (in_p k l hl)
end Go.Proofs.Ytgijlgdhogbgbaa
namespace Go.Proofs.Ytgijlgdhogbgbaa
open Go Go.Ab Go.Proofs
set_option maxRecDepth 100000
set_option linter.unusedSimpArgs false
set_option linter.unusedVariables false
/-- A list of names, as one's own. -/
def OV (h : AHeap) (ov : AV) (out : List Nm) : Prop := ∃ ids, (∀ d, exp1 h (d + 1) ov = some (.slc false (out.map sV), ids)) ∧ canFrz h ids = true
theorem ov_nil (h : AHeap) : OV h (.slc true []) [] := ⟨[], fun d => rfl, rfl⟩
theorem ov_arr {h : AHeap} {id g : Nat} {out : List Nm} (ho : hget h id = .arr 1 (out.map sV) g) : OV h (.arr id 0 out.length g 1) out :=
  ⟨[id], fun d => by have := arr_exp ho (solid_names out) d; rw [List.length_map] at this; exact this, by simp [canFrz, ho]⟩
theorem in_look {h : AHeap} {ov : AV} {out : List Nm} (ho : OV h ov out) (hn : out.length ≤ 9223372036854775807) (k : Nm) : doCall md (aval Try.prog md fg) 19 [sV k, ov] h = some (.val (.bool (decide (k ∈ out))), h) := by
  obtain ⟨ids, h1, h2⟩ := ho
  refine doCall_look md19 (as' := [sV k, .slc false (out.map sV)]) (ids := ids) ?_ h2 (in_p k out hn) rfl
  simp only [expL, h1 59, exp1_solid (show solid (sV k) = true from rfl), List.nil_append, List.append_nil]
/-- Is a type kept back by the j-th alias? -/
def badj (al : List Al) (out : List Nm) (t : Tm) (j : Nat) : Bool := fst al j && ((match al[j]? with | some b => decide (b.nm ∉ out) | none => false) && nms al j t)
def rdN (al : List Al) (out : List Nm) (t : Tm) : Nat → Nat → Bool
  | 0, _ => true
  | d + 1, j => !badj al out t j && rdN al out t d (j + 1)
theorem o4_loop (al : List Al) (hal : al.length ≤ 1000) (out : List Nm) (hn : out.length ≤ 1000) (ov : AV) (h : AHeap) (ho : OV h ov out) (k : Nat) (a : Al) (hk : al[k]? = some a) (hf : a.ty.fit) (left next : Int) : ∀ (d j : Nat) (b : Bool), j + d = al.length → ∃ (j' : Int),
    lrun Try.prog md fg (fg 10) (loopOf Try.f10 4) (fg 10 5) (((.slc false (al.map alV)) :: .unk :: .unk :: .unk :: (ov) :: (.int left) :: (.int next) :: (.int k) :: (.val (.bool b)) :: (.int j) :: .unk :: .unk :: .unk :: .unk :: .unk :: .unk :: .unk :: .unk :: .unk :: .unk :: .unk :: .unk :: .unk :: .unk :: .unk :: .unk :: .unk :: .unk :: .unk :: .unk :: .unk :: .unk :: .unk :: .unk :: .unk :: .unk :: .unk :: .unk :: .unk :: .unk :: .unk :: .unk :: .unk :: .unk :: .unk :: .unk :: .unk :: .unk :: .unk :: .unk :: .unk :: .unk :: .unk :: .unk :: .unk :: .unk :: .unk :: .unk :: .unk :: .unk :: .unk :: .unk :: .unk :: .unk :: .unk :: .unk :: .unk :: .unk :: .unk :: .unk :: .unk :: .unk :: .unk :: .unk :: .unk :: .unk :: [] : List AV)) h = some (.exit 4, ((.slc false (al.map alV)) :: .unk :: .unk :: .unk :: (ov) :: (.int left) :: (.int next) :: (.int k) :: (.val (.bool (b && rdN al out a.ty d j))) :: (.int j') :: .unk :: .unk :: .unk :: .unk :: .unk :: .unk :: .unk :: .unk :: .unk :: .unk :: .unk :: .unk :: .unk :: .unk :: .unk :: .unk :: .unk :: .unk :: .unk :: .unk :: .unk :: .unk :: .unk :: .unk :: .unk :: .unk :: .unk :: .unk :: .unk :: .unk :: .unk :: .unk :: .unk :: .unk :: .unk :: .unk :: .unk :: .unk :: .unk :: .unk :: .unk :: .unk :: .unk :: .unk :: .unk :: .unk :: .unk :: .unk :: .unk :: .unk :: .unk :: .unk :: .unk :: .unk :: .unk :: .unk :: .unk :: .unk :: .unk :: .unk :: .unk :: .unk :: .unk :: .unk :: .unk :: .unk :: [] : List AV), h)
  | 0, j, b, hd => by
    have : j = al.length := by omega
    subst this
    refine ⟨(al.length : Int), ?_⟩
    rw [rdN, Bool.and_true]
    rw [lrun_atC loop10_4]
    simp (implicitDefEqProofs := false) (disch := omega) only [go_sem, Nat.reduceAdd, Nat.reduceSub, Nat.reduceMul, Nat.reduceLT, Nat.reduceLeDiff, Nat.reduceEqDiff, List.drop_zero, List.take_succ_cons, List.take_zero, List.drop_succ_cons, Bool.and_true, Bool.true_and, Bool.and_false, Bool.false_and, BitVec.reduceOfInt, Nat.zero_add, Nat.mul_one, Nat.add_zero, Int.zero_add, Int.reduceToNat, Nat.reducePow, ↓reduceIte, reduceCtorEq, Int.reduceLE, Int.reduceLT, Int.reduceEq, Int.reduceNe, Int.reduceAdd, Int.reduceSub, Int.reduceMul, Int.reduceNeg, Nat.reduceBEq, show regOf Try.f10 11 = Code.region _ _ _ from rfl, List.length_map]
  | d + 1, j, b, hd => by
    obtain ⟨c, hx⟩ : ∃ c, al[j]? = some c := ⟨al[j], List.getElem?_eq_getElem (by omega)⟩
    have ht : ((j : Int)).toNat = j := by omega
    have ht2 : ((k : Int)).toNat = k := by omega
    have cf := first_c al (by omega) j c hx h
    have ci := in_look ho (by omega) c.nm
    have cn := nms_c al (by omega) j a.ty hf h
    have hbj : badj al out a.ty j = (fst al j && (decide (c.nm ∉ out) && nms al j a.ty)) := by unfold badj; rw [hx]
    rw [rdN, hbj]
    obtain ⟨s, ps, k2, p2, m2, n2, l2⟩ := a
    obtain ⟨s', ps', k3, p3, m3, n3, l3⟩ := c
    dsimp only at ci cn
    rw [tmV_mk] at cn
    dsimp only
    generalize fst al j = b1 at *
    generalize nms al j (Tm.mk k2 p2 m2 n2 l2) = b3 at *
    by_cases h2 : s' ∈ out
    · obtain ⟨j', e⟩ := o4_loop al hal out hn ov h ho k _ hk hf left next d (j + 1) b (by omega)
      refine ⟨j', ?_⟩
      have hz : (b && (!(b1 && (decide (s' ∉ out) && b3)) && rdN al out (Tm.mk k2 p2 m2 n2 l2) d (j + 1))) = (b && rdN al out (Tm.mk k2 p2 m2 n2 l2) d (j + 1)) := by simp [h2]
      rw [hz, ← e]
      cases b1 <;>
      · rw [lrun_atC loop10_4]
        simp (implicitDefEqProofs := false) (disch := omega) only [go_sem, Nat.reduceAdd, Nat.reduceSub, Nat.reduceMul, Nat.reduceLT, Nat.reduceLeDiff, Nat.reduceEqDiff, List.drop_zero, List.take_succ_cons, List.take_zero, List.drop_succ_cons, Bool.and_true, Bool.true_and, Bool.and_false, Bool.false_and, BitVec.reduceOfInt, Nat.zero_add, Nat.mul_one, Nat.add_zero, Int.zero_add, Int.reduceToNat, Nat.reducePow, ↓reduceIte, reduceCtorEq, Int.reduceLE, Int.reduceLT, Int.reduceEq, Int.reduceNe, Int.reduceAdd, Int.reduceSub, Int.reduceMul, Int.reduceNeg, Nat.reduceBEq, show regOf Try.f10 11 = Code.region _ _ _ from rfl, show regOf Try.f10 13 = Code.region _ _ _ from rfl, show regOf Try.f10 12 = Code.region _ _ _ from rfl, List.length_map, List.getElem?_map, ht, ht2, hx, hk, Option.map_some, alV_mk, cf, ci, cn, h2, decide_true, not_true, decide_false]
        all_goals (congr 1 <;> simp only [List.cons.injEq, AV.val.injEq, Value.int.injEq, Value.bool.injEq, true_and, and_true] <;> omega)
    · cases b1 with
      | false =>
        obtain ⟨j', e⟩ := o4_loop al hal out hn ov h ho k _ hk hf left next d (j + 1) b (by omega)
        refine ⟨j', ?_⟩
        rw [Bool.false_and, Bool.not_false, Bool.true_and, ← e]
        rw [lrun_atC loop10_4]
        simp (implicitDefEqProofs := false) (disch := omega) only [go_sem, Nat.reduceAdd, Nat.reduceSub, Nat.reduceMul, Nat.reduceLT, Nat.reduceLeDiff, Nat.reduceEqDiff, List.drop_zero, List.take_succ_cons, List.take_zero, List.drop_succ_cons, Bool.and_true, Bool.true_and, Bool.and_false, Bool.false_and, BitVec.reduceOfInt, Nat.zero_add, Nat.mul_one, Nat.add_zero, Int.zero_add, Int.reduceToNat, Nat.reducePow, ↓reduceIte, reduceCtorEq, Int.reduceLE, Int.reduceLT, Int.reduceEq, Int.reduceNe, Int.reduceAdd, Int.reduceSub, Int.reduceMul, Int.reduceNeg, Nat.reduceBEq, show regOf Try.f10 11 = Code.region _ _ _ from rfl, show regOf Try.f10 13 = Code.region _ _ _ from rfl, show regOf Try.f10 12 = Code.region _ _ _ from rfl, List.length_map, List.getElem?_map, ht, ht2, hx, hk, Option.map_some, alV_mk, cf, ci, cn, h2]
        all_goals (congr 1 <;> simp only [List.cons.injEq, AV.val.injEq, Value.int.injEq, Value.bool.injEq, true_and, and_true] <;> omega)
      | true =>
        cases b3 with
        | false =>
          obtain ⟨j', e⟩ := o4_loop al hal out hn ov h ho k _ hk hf left next d (j + 1) b (by omega)
          refine ⟨j', ?_⟩
          rw [Bool.and_false, Bool.and_false, Bool.not_false, Bool.true_and, ← e]
          rw [lrun_atC loop10_4]
          simp (implicitDefEqProofs := false) (disch := omega) only [go_sem, Nat.reduceAdd, Nat.reduceSub, Nat.reduceMul, Nat.reduceLT, Nat.reduceLeDiff, Nat.reduceEqDiff, List.drop_zero, List.take_succ_cons, List.take_zero, List.drop_succ_cons, Bool.and_true, Bool.true_and, Bool.and_false, Bool.false_and, BitVec.reduceOfInt, Nat.zero_add, Nat.mul_one, Nat.add_zero, Int.zero_add, Int.reduceToNat, Nat.reducePow, ↓reduceIte, reduceCtorEq, Int.reduceLE, Int.reduceLT, Int.reduceEq, Int.reduceNe, Int.reduceAdd, Int.reduceSub, Int.reduceMul, Int.reduceNeg, Nat.reduceBEq, show regOf Try.f10 11 = Code.region _ _ _ from rfl, show regOf Try.f10 13 = Code.region _ _ _ from rfl, show regOf Try.f10 12 = Code.region _ _ _ from rfl, List.length_map, List.getElem?_map, ht, ht2, hx, hk, Option.map_some, alV_mk, cf, ci, cn, h2]
          all_goals (congr 1 <;> simp only [List.cons.injEq, AV.val.injEq, Value.int.injEq, Value.bool.injEq, true_and, and_true] <;> omega)
        | true =>
          obtain ⟨j', e⟩ := o4_loop al hal out hn ov h ho k _ hk hf left next d (j + 1) false (by omega)
          refine ⟨j', ?_⟩
          have hz : (b && (!(true && (decide (s' ∉ out) && true)) && rdN al out (Tm.mk k2 p2 m2 n2 l2) d (j + 1))) = (false && rdN al out (Tm.mk k2 p2 m2 n2 l2) d (j + 1)) := by simp [h2]
          rw [hz, ← e]
          rw [lrun_atC loop10_4]
          simp (implicitDefEqProofs := false) (disch := omega) only [go_sem, Nat.reduceAdd, Nat.reduceSub, Nat.reduceMul, Nat.reduceLT, Nat.reduceLeDiff, Nat.reduceEqDiff, List.drop_zero, List.take_succ_cons, List.take_zero, List.drop_succ_cons, Bool.and_true, Bool.true_and, Bool.and_false, Bool.false_and, BitVec.reduceOfInt, Nat.zero_add, Nat.mul_one, Nat.add_zero, Int.zero_add, Int.reduceToNat, Nat.reducePow, ↓reduceIte, reduceCtorEq, Int.reduceLE, Int.reduceLT, Int.reduceEq, Int.reduceNe, Int.reduceAdd, Int.reduceSub, Int.reduceMul, Int.reduceNeg, Nat.reduceBEq, show regOf Try.f10 11 = Code.region _ _ _ from rfl, show regOf Try.f10 13 = Code.region _ _ _ from rfl, show regOf Try.f10 14 = Code.region _ _ _ from rfl, show regOf Try.f10 12 = Code.region _ _ _ from rfl, List.length_map, List.getElem?_map, ht, ht2, hx, hk, Option.map_some, alV_mk, cf, ci, cn, h2]
          all_goals (congr 1 <;> simp only [List.cons.injEq, AV.val.injEq, Value.int.injEq, Value.bool.injEq, true_and, and_true] <;> omega)
/-- One alias looked at: how many are left, which is next. -/
def upd (al : List Al) (out : List Nm) (k : Nat) (s : Int × Int) : Int × Int :=
  match al[k]? with
  | some a => if a.nm ∉ out ∧ fst al k = true then (s.1 + 1, if rdN al out a.ty al.length 0 then (k : Int) else s.2) else s
  | none => s
def go (al : List Al) (out : List Nm) : Nat → Int × Int → Int × Int
  | 0, s => s
  | k + 1, s => go al out k (upd al out k s)
theorem o2_loop (al : List Al) (hal : al.length ≤ 1000) (hfit : ∀ a ∈ al, a.ty.fit) (out : List Nm) (hn : out.length ≤ 1000) (ov : AV) (h : AHeap) (ho : OV h ov out) : ∀ (k : Nat) (left next z : Int), k ≤ al.length → 0 ≤ left → left + k ≤ 1000 → z = (k : Int) - 1 →
    lrun Try.prog md fg (fg 10) (loopOf Try.f10 2) (fg 10 3) (((.slc false (al.map alV)) :: .unk :: .unk :: .unk :: (ov) :: (.int left) :: (.int next) :: (.int z) :: .unk :: .unk :: .unk :: .unk :: .unk :: .unk :: .unk :: .unk :: .unk :: .unk :: .unk :: .unk :: .unk :: .unk :: .unk :: .unk :: .unk :: .unk :: .unk :: .unk :: .unk :: .unk :: .unk :: .unk :: .unk :: .unk :: .unk :: .unk :: .unk :: .unk :: .unk :: .unk :: .unk :: .unk :: .unk :: .unk :: .unk :: .unk :: .unk :: .unk :: .unk :: .unk :: .unk :: .unk :: .unk :: .unk :: .unk :: .unk :: .unk :: .unk :: .unk :: .unk :: .unk :: .unk :: .unk :: .unk :: .unk :: .unk :: .unk :: .unk :: .unk :: .unk :: .unk :: .unk :: .unk :: .unk :: .unk :: .unk :: [] : List AV)) h = some (.exit 2, ((.slc false (al.map alV)) :: .unk :: .unk :: .unk :: (ov) :: (.int (go al out k (left, next)).1) :: (.int (go al out k (left, next)).2) :: (.int (-1)) :: .unk :: .unk :: .unk :: .unk :: .unk :: .unk :: .unk :: .unk :: .unk :: .unk :: .unk :: .unk :: .unk :: .unk :: .unk :: .unk :: .unk :: .unk :: .unk :: .unk :: .unk :: .unk :: .unk :: .unk :: .unk :: .unk :: .unk :: .unk :: .unk :: .unk :: .unk :: .unk :: .unk :: .unk :: .unk :: .unk :: .unk :: .unk :: .unk :: .unk :: .unk :: .unk :: .unk :: .unk :: .unk :: .unk :: .unk :: .unk :: .unk :: .unk :: .unk :: .unk :: .unk :: .unk :: .unk :: .unk :: .unk :: .unk :: .unk :: .unk :: .unk :: .unk :: .unk :: .unk :: .unk :: .unk :: .unk :: .unk :: [] : List AV), h)
  | 0, left, next, z, hk, h0, h1, hz => by
    have : z = -1 := by omega
    subst this
    rw [go]
    rw [lrun_atC loop10_2]
    simp (implicitDefEqProofs := false) (disch := omega) only [go_sem, Nat.reduceAdd, Nat.reduceSub, Nat.reduceMul, Nat.reduceLT, Nat.reduceLeDiff, Nat.reduceEqDiff, List.drop_zero, List.take_succ_cons, List.take_zero, List.drop_succ_cons, Bool.and_true, Bool.true_and, Bool.and_false, Bool.false_and, BitVec.reduceOfInt, Nat.zero_add, Nat.mul_one, Nat.add_zero, Int.zero_add, Int.reduceToNat, Nat.reducePow, ↓reduceIte, reduceCtorEq, Int.reduceLE, Int.reduceLT, Int.reduceEq, Int.reduceNe, Int.reduceAdd, Int.reduceSub, Int.reduceMul, Int.reduceNeg, Nat.reduceBEq, show regOf Try.f10 5 = Code.region _ _ _ from rfl, List.length_map]
  | k + 1, left, next, z, hk, h0, h1, hz => by
    have : z = (k : Int) := by omega
    subst this
    obtain ⟨a, hx⟩ : ∃ a, al[k]? = some a := ⟨al[k], List.getElem?_eq_getElem (by omega)⟩
    have hf := hfit a (List.mem_of_getElem? hx)
    have ht : ((k : Int)).toNat = k := by omega
    have cf := first_c al (by omega) k a hx h
    have ci := in_look ho (by omega) a.nm
    rw [go]
    unfold upd
    rw [hx]
    dsimp only
    obtain ⟨s, ps, k2, p2, m2, n2, l2⟩ := a
    dsimp only at ci ⊢
    by_cases h2 : s ∈ out
    · have e := o2_loop al hal hfit out hn ov h ho k left next ((k : Int) - 1) (by omega) h0 (by omega) rfl
      rw [if_neg (fun hh => hh.1 h2), ← e]
      rw [lrun_atC loop10_2]
      simp (implicitDefEqProofs := false) (disch := omega) only [go_sem, Nat.reduceAdd, Nat.reduceSub, Nat.reduceMul, Nat.reduceLT, Nat.reduceLeDiff, Nat.reduceEqDiff, List.drop_zero, List.take_succ_cons, List.take_zero, List.drop_succ_cons, Bool.and_true, Bool.true_and, Bool.and_false, Bool.false_and, BitVec.reduceOfInt, Nat.zero_add, Nat.mul_one, Nat.add_zero, Int.zero_add, Int.reduceToNat, Nat.reducePow, ↓reduceIte, reduceCtorEq, Int.reduceLE, Int.reduceLT, Int.reduceEq, Int.reduceNe, Int.reduceAdd, Int.reduceSub, Int.reduceMul, Int.reduceNeg, Nat.reduceBEq, show regOf Try.f10 5 = Code.region _ _ _ from rfl, show regOf Try.f10 7 = Code.region _ _ _ from rfl, show regOf Try.f10 6 = Code.region _ _ _ from rfl, List.length_map, List.getElem?_map, ht, hx, Option.map_some, alV_mk, cf, ci, h2, decide_true]
      all_goals (congr 1 <;> simp only [List.cons.injEq, AV.val.injEq, Value.int.injEq, Value.bool.injEq, true_and, and_true] <;> omega)
    · by_cases h3 : fst al k = true
      · obtain ⟨j', e4⟩ := o4_loop al hal out hn ov h ho k _ hx hf (left + 1) next al.length 0 true (by omega)
        rw [if_pos ⟨h2, h3⟩]
        simp only [Int.natCast_zero, Bool.true_and] at e4
        rw [h3] at cf
        generalize rdN al out (Tm.mk k2 p2 m2 n2 l2) al.length 0 = b at *
        have e := o2_loop al hal hfit out hn ov h ho k (left + 1) (if b = true then (k : Int) else next) ((k : Int) - 1) (by omega) (by omega) (by omega) rfl
        rw [← e]
        cases b
        · rw [lrun_atC loop10_2]
          simp (implicitDefEqProofs := false) (disch := omega) only [go_sem, Nat.reduceAdd, Nat.reduceSub, Nat.reduceMul, Nat.reduceLT, Nat.reduceLeDiff, Nat.reduceEqDiff, List.drop_zero, List.take_succ_cons, List.take_zero, List.drop_succ_cons, Bool.and_true, Bool.true_and, Bool.and_false, Bool.false_and, BitVec.reduceOfInt, Nat.zero_add, Nat.mul_one, Nat.add_zero, Int.zero_add, Int.reduceToNat, Nat.reducePow, ↓reduceIte, reduceCtorEq, Int.reduceLE, Int.reduceLT, Int.reduceEq, Int.reduceNe, Int.reduceAdd, Int.reduceSub, Int.reduceMul, Int.reduceNeg, Nat.reduceBEq, show regOf Try.f10 5 = Code.region _ _ _ from rfl, show regOf Try.f10 7 = Code.region _ _ _ from rfl, show regOf Try.f10 8 = Code.region _ _ _ from rfl, show regOf Try.f10 9 = Code.region _ _ _ from rfl, show regOf Try.f10 10 = Code.region _ _ _ from rfl, show regOf Try.f10 15 = Code.region _ _ _ from rfl, show regOf Try.f10 6 = Code.region _ _ _ from rfl, List.length_map, List.getElem?_map, ht, hx, Option.map_some, alV_mk, cf, ci, h2, e4, decide_false]
          all_goals (congr 1 <;> simp only [List.cons.injEq, AV.val.injEq, Value.int.injEq, Value.bool.injEq, true_and, and_true] <;> omega)
        · rw [lrun_atC loop10_2]
          simp (implicitDefEqProofs := false) (disch := omega) only [go_sem, Nat.reduceAdd, Nat.reduceSub, Nat.reduceMul, Nat.reduceLT, Nat.reduceLeDiff, Nat.reduceEqDiff, List.drop_zero, List.take_succ_cons, List.take_zero, List.drop_succ_cons, Bool.and_true, Bool.true_and, Bool.and_false, Bool.false_and, BitVec.reduceOfInt, Nat.zero_add, Nat.mul_one, Nat.add_zero, Int.zero_add, Int.reduceToNat, Nat.reducePow, ↓reduceIte, reduceCtorEq, Int.reduceLE, Int.reduceLT, Int.reduceEq, Int.reduceNe, Int.reduceAdd, Int.reduceSub, Int.reduceMul, Int.reduceNeg, Nat.reduceBEq, show regOf Try.f10 5 = Code.region _ _ _ from rfl, show regOf Try.f10 7 = Code.region _ _ _ from rfl, show regOf Try.f10 8 = Code.region _ _ _ from rfl, show regOf Try.f10 9 = Code.region _ _ _ from rfl, show regOf Try.f10 10 = Code.region _ _ _ from rfl, show regOf Try.f10 15 = Code.region _ _ _ from rfl, show regOf Try.f10 16 = Code.region _ _ _ from rfl, show regOf Try.f10 6 = Code.region _ _ _ from rfl, List.length_map, List.getElem?_map, ht, hx, Option.map_some, alV_mk, cf, ci, h2, e4, decide_false]
          all_goals (congr 1 <;> simp only [List.cons.injEq, AV.val.injEq, Value.int.injEq, Value.bool.injEq, true_and, and_true] <;> omega)
      · have e := o2_loop al hal hfit out hn ov h ho k left next ((k : Int) - 1) (by omega) h0 (by omega) rfl
        rw [if_neg (fun hh => h3 hh.2), ← e]
        have h3' : fst al k = false := by simpa using h3
        rw [h3'] at cf
        rw [lrun_atC loop10_2]
        simp (implicitDefEqProofs := false) (disch := omega) only [go_sem, Nat.reduceAdd, Nat.reduceSub, Nat.reduceMul, Nat.reduceLT, Nat.reduceLeDiff, Nat.reduceEqDiff, List.drop_zero, List.take_succ_cons, List.take_zero, List.drop_succ_cons, Bool.and_true, Bool.true_and, Bool.and_false, Bool.false_and, BitVec.reduceOfInt, Nat.zero_add, Nat.mul_one, Nat.add_zero, Int.zero_add, Int.reduceToNat, Nat.reducePow, ↓reduceIte, reduceCtorEq, Int.reduceLE, Int.reduceLT, Int.reduceEq, Int.reduceNe, Int.reduceAdd, Int.reduceSub, Int.reduceMul, Int.reduceNeg, Nat.reduceBEq, show regOf Try.f10 5 = Code.region _ _ _ from rfl, show regOf Try.f10 7 = Code.region _ _ _ from rfl, show regOf Try.f10 6 = Code.region _ _ _ from rfl, List.length_map, List.getElem?_map, ht, hx, Option.map_some, alV_mk, cf, ci, h2, decide_false]
        all_goals (congr 1 <;> simp only [List.cons.injEq, AV.val.injEq, Value.int.injEq, Value.bool.injEq, true_and, and_true] <;> omega)
end Go.Proofs.Ytgijlgdhogbgbaa
