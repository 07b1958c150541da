/- Parts of the proof, each with its own heading: The table of aliases, the names in a type, and what the document's scan finds. The document's Order. The table in memory; alias. named: the aliases that a type names. made: the table. IndexFunc and ContainsFunc, with a closure. cyclic: the walk that looks for a ring. -/
import Derived.Test.YtgijlgdhogbgbaaPart10
set_option linter.unusedSimpArgs false
set_option linter.unusedVariables false
namespace Go.Proofs.Ytgijlgdhogbgbaa
open Go Go.Ab Go.Proofs
set_option maxRecDepth 100000
set_option linter.unusedSimpArgs false
set_option linter.unusedVariables false
def tadd (P : MapS Al) (a : Al) : MapS Al := if (mg P a.nm).isSome then P else (P.1 ++ [(a.nm, a, P.2)], P.2 + 1)
def tbl (al : List Al) : MapS Al := al.foldl tadd ([], 0)
def keys (P : MapS Al) : List Nm := P.1.map Prod.fst
/-- The alias that a term itself names. -/
def own1 (P : MapS Al) (k : Int) (p m : Nm) : List Nm := match mg P m with | some a => if k = 2 ∧ p = [] then [a.nm] else [] | none => []
mutual
/-- The aliases that a type names. -/
def nmd (P : MapS Al) : Tm → List Nm | .mk k p m n ks => own1 P k p m ++ nmdL P ks
def nmdL (P : MapS Al) : List Tm → List Nm | [] => [] | t :: r => nmd P t ++ nmdL P r
end
def dep (P : MapS Al) (n : Nm) : List Nm := match mg P n with | some a => nmd P a.ty | none => []
theorem mf_none (k : Nm) : ∀ (es : List (Nm × Al × Nat)) (i : Nat), mf k es i = none ↔ k ∉ es.map Prod.fst
  | [], i => by simp [mf]
  | e :: r, i => by
    unfold mf
    by_cases h : k = e.1
    · rw [if_pos h]; simp [h]
    · rw [if_neg h, mf_none k r (i + 1)]; simp [h]
theorem mg_none (P : MapS Al) (k : Nm) : mg P k = none ↔ k ∉ keys P := by
  unfold mg keys
  rw [Option.map_eq_none_iff]; exact mf_none k P.1 0
theorem mg_isSome (P : MapS Al) (k : Nm) : (mg P k).isSome = true ↔ k ∈ keys P := by
  have := mg_none P k
  cases h : mg P k with
  | none => simp [this.1 h]
  | some a =>
    rw [h] at this
    simp only [Option.isSome_some, true_iff]
    exact Classical.byContradiction fun hn => by have := this.2 hn; cases this
theorem tadd_in {P : MapS Al} {a : Al} (h : a.nm ∈ keys P) : tadd P a = P := by unfold tadd; rw [if_pos ((mg_isSome P a.nm).2 h)]
theorem tadd_new {P : MapS Al} {a : Al} (h : a.nm ∉ keys P) : tadd P a = (P.1 ++ [(a.nm, a, P.2)], P.2 + 1) := by unfold tadd; rw [if_neg (fun h' => h ((mg_isSome P a.nm).1 h'))]
theorem keys_new {P : MapS Al} {a : Al} (h : a.nm ∉ keys P) : keys (tadd P a) = keys P ++ [a.nm] := by rw [tadd_new h]; unfold keys; rw [List.map_append]; rfl
theorem mg_new {P : MapS Al} {a : Al} (h : a.nm ∉ keys P) (k : Nm) : mg (tadd P a) k = if k = a.nm then some a else mg P k := by
  have h1 := (mg_none P a.nm).2 h
  rw [tadd_new h]
  have h2 : mf a.nm P.1 0 = none := by unfold mg at h1; rwa [Option.map_eq_none_iff] at h1
  have : mset P a.nm a = (P.1 ++ [(a.nm, a, P.2)], P.2 + 1) := by unfold mset; rw [h2]
  rw [← this, mg_mset]
theorem tbl_snoc (l : List Al) (a : Al) : tbl (l ++ [a]) = tadd (tbl l) a := by unfold tbl; rw [List.foldl_append]; rfl
theorem keys_fold (x : Nm) : ∀ (l : List Al) (P : MapS Al), x ∈ keys (l.foldl tadd P) ↔ x ∈ keys P ∨ x ∈ l.map Al.nm
  | [], P => by simp
  | a :: r, P => by
    rw [List.foldl_cons, keys_fold x r (tadd P a)]
    by_cases h : a.nm ∈ keys P
    · rw [tadd_in h, List.map_cons, List.mem_cons]
      constructor
      · rintro (h' | h'); exact .inl h'; exact .inr (.inr h')
      · rintro (h' | h' | h'); exact .inl h'; exact .inl (h' ▸ h); exact .inr h'
    · rw [keys_new h, List.map_cons, List.mem_cons, List.mem_append, List.mem_singleton]
      constructor
      · rintro ((h' | h') | h'); exact .inl h'; exact .inr (.inl h'); exact .inr (.inr h')
      · rintro (h' | h' | h'); exact .inl (.inl h'); exact .inl (.inr h'); exact .inr h'
theorem keys_tbl (l : List Al) (x : Nm) : x ∈ keys (tbl l) ↔ x ∈ l.map Al.nm := by
  unfold tbl; rw [keys_fold]; simp [keys]
theorem nodup_fold : ∀ (l : List Al) (P : MapS Al), (keys P).Nodup → (keys (l.foldl tadd P)).Nodup
  | [], P, h => h
  | a :: r, P, h => by
    rw [List.foldl_cons]
    refine nodup_fold r _ ?_
    by_cases h1 : a.nm ∈ keys P
    · rw [tadd_in h1]; exact h
    · rw [keys_new h1, List.nodup_append]
      exact ⟨h, by simp, by intro x hx y hy; rw [List.mem_singleton.1 hy]; rintro rfl; exact h1 hx⟩
theorem keys_nodup (l : List Al) : (keys (tbl l)).Nodup := nodup_fold l _ (by simp [keys])
theorem mg_fold {k : Nm} {b : Al} : ∀ (l : List Al) (P : MapS Al), mg P k = some b → mg (l.foldl tadd P) k = some b
  | [], P, h => h
  | a :: r, P, h => by
    rw [List.foldl_cons]
    refine mg_fold r _ ?_
    by_cases h1 : a.nm ∈ keys P
    · rw [tadd_in h1]; exact h
    · rw [mg_new h1]
      rw [if_neg]; · exact h
      intro hk
      have := (mg_none P a.nm).2 h1
      rw [hk, this] at h; cases h
theorem wf_fold : ∀ (l : List Al) (P : MapS Al) (S : List Al), (∀ k b, mg P k = some b → b.nm = k ∧ b ∈ S) → ∀ k b, mg (l.foldl tadd P) k = some b → b.nm = k ∧ b ∈ S ++ l
  | [], P, S, h, k, b, e => by rw [List.append_nil]; exact h k b e
  | a :: r, P, S, h, k, b, e => by
    rw [List.foldl_cons] at e
    have := wf_fold r (tadd P a) (S ++ [a]) (fun k b e => by
      by_cases h1 : a.nm ∈ keys P
      · rw [tadd_in h1] at e
        have := h k b e
        exact ⟨this.1, List.mem_append_left _ this.2⟩
      · rw [mg_new h1] at e
        split at e
        · rename_i hk; cases e; exact ⟨hk.symm, by simp⟩
        · have := h k b e
          exact ⟨this.1, List.mem_append_left _ this.2⟩) k b e
    rw [List.append_assoc] at this; exact this
theorem tbl_wf {l : List Al} {k : Nm} {b : Al} (e : mg (tbl l) k = some b) : b.nm = k ∧ b ∈ l := by
  have := wf_fold l ([], 0) [] (by intro k b h; cases h) k b e
  simpa using this
theorem fst_iff {al : List Al} {k : Nat} {a : Al} (hk : al[k]? = some a) : fst al k = true ↔ a.nm ∉ keys (tbl (al.take k)) := by
  unfold fst; rw [hk, keys_tbl]; simp
theorem take_succ {al : List Al} {k : Nat} {a : Al} (hk : al[k]? = some a) : al.take (k + 1) = al.take k ++ [a] := by
  rw [List.take_add_one, hk]; rfl
theorem fst_mg {al : List Al} {k : Nat} {a : Al} (hk : al[k]? = some a) (hf : fst al k = true) : mg (tbl al) a.nm = some a := by
  have h1 : al = al.take (k + 1) ++ al.drop (k + 1) := (List.take_append_drop _ _).symm
  have h2 : tbl al = (al.drop (k + 1)).foldl tadd (tbl (al.take (k + 1))) := by
    conv => lhs; rw [h1]
    unfold tbl; rw [List.foldl_append]
  rw [h2]
  refine mg_fold _ _ ?_
  rw [take_succ hk, tbl_snoc, mg_new ((fst_iff hk).1 hf), if_pos rfl]
theorem fst_ex {al : List Al} {x : Nm} : ∀ k : Nat, x ∈ (al.take k).map Al.nm → ∃ (j : Nat) (a : Al), al[j]? = some a ∧ a.nm = x ∧ fst al j = true
  | 0, h => by simp at h
  | k + 1, h => by
    by_cases h1 : x ∈ (al.take k).map Al.nm
    · exact fst_ex k h1
    · cases hk : al[k]? with
      | none =>
        rw [List.take_add_one, hk] at h
        simp only [Option.toList_none, List.append_nil] at h
        exact absurd h h1
      | some a =>
        rw [take_succ hk, List.map_append, List.mem_append] at h
        rcases h with h | h
        · exact absurd h h1
        · have hx : a.nm = x := (List.mem_singleton.1 h).symm
          refine ⟨k, a, hk, hx, ?_⟩
          unfold fst; rw [hk]; dsimp only; rw [hx]; simpa using h1
theorem key_fst {al : List Al} {x : Nm} (h : x ∈ keys (tbl al)) : ∃ (j : Nat) (a : Al), al[j]? = some a ∧ a.nm = x ∧ fst al j = true := by
  rw [keys_tbl] at h
  exact fst_ex al.length (by rw [List.take_length]; exact h)
theorem fnd_at (x : Tm) : ∀ (l : List Al) (i j : Nat), fnd x l i = some j → i ≤ j ∧ ∃ a, l[j - i]? = some a ∧ isA x a.nm = true
  | [], i, j, h => by cases h
  | a :: r, i, j, h => by
    unfold fnd at h
    split at h
    · rename_i hk
      cases h
      exact ⟨Nat.le_refl _, a, by rw [Nat.sub_self]; rfl, hk⟩
    · obtain ⟨h1, b, h2, h3⟩ := fnd_at x r (i + 1) j h
      exact ⟨by omega, b, by rw [show j - i = (j - (i + 1)) + 1 by omega, List.getElem?_cons_succ]; exact h2, h3⟩
theorem fnd_skip (x : Tm) : ∀ (l : List Al) (i j : Nat) (a : Al), l[j]? = some a → isA x a.nm = true → (∀ b ∈ l.take j, isA x b.nm = false) → fnd x l i = some (i + j)
  | [], i, j, a, h, _, _ => by simp at h
  | b :: r, i, 0, a, h, h1, _ => by
    rw [List.getElem?_cons_zero] at h; cases h
    unfold fnd; rw [if_pos h1]; rfl
  | b :: r, i, j + 1, a, h, h1, h2 => by
    unfold fnd
    rw [if_neg (by rw [h2 b (by simp)]; decide), fnd_skip x r (i + 1) j a (by simpa using h) h1 (fun c hc => h2 c (by simp [hc]))]
    congr 1; omega
theorem fnd_fst {al : List Al} {j : Nat} {a : Al} (hj : al[j]? = some a) (hf : fst al j = true) (x : Tm) : fnd x al 0 = some j ↔ isA x a.nm = true := by
  constructor
  · intro h
    obtain ⟨_, b, h1, h2⟩ := fnd_at x al 0 j h
    rw [Nat.sub_zero, hj] at h1
    cases h1; exact h2
  · intro h
    have := fnd_skip x al 0 j a hj h (fun b hb => by
      cases hbx : isA x b.nm with
      | false => rfl
      | true =>
        exfalso
        unfold isA at h hbx
        rw [decide_eq_true_eq] at h hbx
        unfold fst at hf
        rw [hj] at hf
        simp only [decide_eq_true_eq] at hf
        exact hf (List.mem_map.2 ⟨b, hb, by rw [← hbx.2.2, h.2.2]⟩))
    rw [this, Nat.zero_add]
mutual
theorem nms_iff {al : List Al} {j : Nat} {b : Al} (hj : al[j]? = some b) (hf : fst al j = true) : ∀ t : Tm, nms al j t = true ↔ b.nm ∈ nmd (tbl al) t
  | ⟨k, p, m, n, ks⟩ => by
    rw [nms, nmd, Bool.or_eq_true, decide_eq_true_eq, fnd_fst hj hf, nmsL_iff hj hf ks, List.mem_append]
    refine or_congr ?_ Iff.rfl
    unfold isA own1
    rw [decide_eq_true_eq]
    change (k = 2 ∧ p = [] ∧ m = b.nm) ↔ _
    have hb := fst_mg hj hf
    constructor
    · rintro ⟨h1, h2, rfl⟩
      rw [hb]
      dsimp only
      rw [if_pos ⟨h1, h2⟩]; simp
    · intro h
      cases hm : mg (tbl al) m with
      | none => rw [hm] at h; cases h
      | some a =>
        rw [hm] at h
        dsimp only at h
        split at h
        · rename_i hh
          have := (tbl_wf hm).1
          exact ⟨hh.1, hh.2, by rw [List.mem_singleton.1 h, this]⟩
        · cases h
theorem nmsL_iff {al : List Al} {j : Nat} {b : Al} (hj : al[j]? = some b) (hf : fst al j = true) : ∀ l : List Tm, nmsL al j l = true ↔ b.nm ∈ nmdL (tbl al) l
  | [] => by rw [nmsL, nmdL]; simp
  | t :: r => by rw [nmsL, nmdL, Bool.or_eq_true, List.mem_append, nms_iff hj hf t, nmsL_iff hj hf r]
end
mutual
theorem nmd_keys {al : List Al} {x : Nm} : ∀ t : Tm, x ∈ nmd (tbl al) t → x ∈ keys (tbl al)
  | ⟨k, p, m, n, ks⟩, h => by
    rw [nmd, List.mem_append] at h
    rcases h with h | h
    · unfold own1 at h
      cases hm : mg (tbl al) m with
      | none => rw [hm] at h; cases h
      | some a =>
        rw [hm] at h
        dsimp only at h
        split at h
        · rw [List.mem_singleton.1 h, (tbl_wf hm).1]
          exact (mg_isSome _ _).1 (by rw [hm]; rfl)
        · cases h
    · exact nmdL_keys ks h
theorem nmdL_keys {al : List Al} {x : Nm} : ∀ l : List Tm, x ∈ nmdL (tbl al) l → x ∈ keys (tbl al)
  | [], h => by rw [nmdL] at h; cases h
  | t :: r, h => by
    rw [nmdL, List.mem_append] at h
    rcases h with h | h
    · exact nmd_keys t h
    · exact nmdL_keys r h
end
theorem rd_iff (al : List Al) (out : List Nm) (t : Tm) : ∀ d j, rdN al out t d j = true ↔ ∀ q, j ≤ q → q < j + d → badj al out t q = false
  | 0, j => by simp only [rdN, true_iff]; intro q h1 h2; omega
  | d + 1, j => by
    rw [rdN, Bool.and_eq_true, rd_iff al out t d (j + 1)]
    constructor
    · rintro ⟨h1, h2⟩ q hq1 hq2
      by_cases h : q = j
      · rw [h]; simpa using h1
      · exact h2 q (by omega) (by omega)
    · intro h
      exact ⟨by rw [h j (Nat.le_refl _) (by omega)]; rfl, fun q h1 h2 => h q (by omega) (by omega)⟩
theorem ready_iff (al : List Al) (out : List Nm) (t : Tm) : rdN al out t al.length 0 = true ↔ ∀ x ∈ nmd (tbl al) t, x ∈ out := by
  rw [rd_iff]
  constructor
  · intro h x hx
    obtain ⟨j, a, hj, rfl, hf⟩ := key_fst (nmd_keys t hx)
    have hjl := (List.getElem?_eq_some_iff.1 hj).1
    have hb := h j (Nat.zero_le _) (by omega)
    unfold badj at hb
    rw [hf, (nms_iff hj hf t).2 hx, hj] at hb
    simp only [Bool.true_and, Bool.and_true, decide_eq_false_iff_not, Classical.not_not] at hb
    exact hb
  · intro h q _ hq
    unfold badj
    cases hj : al[q]? with
    | none => cases fst al q <;> rfl
    | some a =>
      cases hf : fst al q with
      | false => rfl
      | true =>
        cases hn : nms al q t with
        | false => simp
        | true =>
          have := h a.nm ((nms_iff hj hf t).1 hn)
          simp [this]
theorem go_spec (al : List Al) (out : List Nm) : ∀ (k : Nat) (s : Int × Int), k ≤ al.length →
    (go al out k s).1 = s.1 + (((keys (tbl (al.take k))).filter fun x => decide (x ∉ out)).length : Int) ∧
    (match (keys (tbl (al.take k))).find? (rdy (dep (tbl al)) out) with
      | none => (go al out k s).2 = s.2
      | some x => ∃ (j : Nat) (a : Al), al[j]? = some a ∧ a.nm = x ∧ (go al out k s).2 = (j : Int))
  | 0, s, _ => by
    rw [List.take_zero]
    exact ⟨by simp [go, tbl, keys], by simp [go, tbl, keys]⟩
  | k + 1, s, hk => by
    obtain ⟨a, hx⟩ : ∃ a, al[k]? = some a := ⟨al[k], List.getElem?_eq_getElem (by omega)⟩
    obtain ⟨h1, h2⟩ := go_spec al out k (upd al out k s) (by omega)
    rw [go, take_succ hx, tbl_snoc]
    unfold upd at h1 h2 ⊢
    rw [hx] at h1 h2 ⊢
    dsimp only at h1 h2 ⊢
    by_cases hf : fst al k = true
    · have hnk := (fst_iff hx).1 hf
      have hdep : dep (tbl al) a.nm = nmd (tbl al) a.ty := by unfold dep; rw [fst_mg hx hf]
      rw [keys_new hnk, List.filter_append, List.find?_append]
      by_cases ho : a.nm ∈ out
      · rw [if_neg (fun hh => hh.1 ho)] at h1 h2 ⊢
        have hr : rdy (dep (tbl al)) out a.nm = false := by
          cases h : rdy (dep (tbl al)) out a.nm with
          | false => rfl
          | true => exact absurd ho (rdy_iff.1 h).1
        have e1 : ([a.nm].filter fun x => decide (x ∉ out)) = [] := by simp [ho]
        have e2 : [a.nm].find? (rdy (dep (tbl al)) out) = none := by simp [hr]
        rw [e1, List.append_nil, e2, Option.or_none]
        exact ⟨h1, h2⟩
      · rw [if_pos ⟨ho, hf⟩] at h1 h2 ⊢
        have e1 : ([a.nm].filter fun x => decide (x ∉ out)) = [a.nm] := by simp [ho]
        rw [e1, List.length_append]
        refine ⟨by rw [h1]; simp; omega, ?_⟩
        cases hfi : (keys (tbl (al.take k))).find? (rdy (dep (tbl al)) out) with
        | some x =>
          rw [hfi] at h2
          rw [Option.some_or]
          exact h2
        | none =>
          rw [hfi] at h2
          rw [Option.none_or]
          dsimp only at h2
          by_cases hr : rdN al out a.ty al.length 0 = true
          · have : rdy (dep (tbl al)) out a.nm = true := rdy_iff.2 ⟨ho, by rw [hdep]; exact (ready_iff al out a.ty).1 hr⟩
            have e2 : [a.nm].find? (rdy (dep (tbl al)) out) = some a.nm := by simp [this]
            rw [e2]
            rw [if_pos hr] at h2 ⊢
            exact ⟨k, a, hx, rfl, h2⟩
          · have : rdy (dep (tbl al)) out a.nm = false := by
              cases h : rdy (dep (tbl al)) out a.nm with
              | false => rfl
              | true => exact absurd ((ready_iff al out a.ty).2 (by rw [← hdep]; exact (rdy_iff.1 h).2)) hr
            have e2 : [a.nm].find? (rdy (dep (tbl al)) out) = none := by simp [this]
            rw [e2]
            rw [if_neg hr] at h2 ⊢
            exact h2
    · have hin : a.nm ∈ keys (tbl (al.take k)) := Classical.byContradiction fun h => hf ((fst_iff hx).2 h)
      rw [if_neg (fun hh => hf hh.2)] at h1 h2 ⊢
      rw [tadd_in hin]
      exact ⟨h1, h2⟩
/-- What the scan of all aliases finds. -/
theorem go_all (al : List Al) (out : List Nm) :
    0 ≤ (go al out al.length (0, -1)).1 ∧ ((go al out al.length (0, -1)).1 = 0 ↔ ∀ x ∈ keys (tbl al), x ∈ out) ∧
    (match (keys (tbl al)).find? (rdy (dep (tbl al)) out) with
      | none => (go al out al.length (0, -1)).2 = -1
      | some x => ∃ (j : Nat) (a : Al), al[j]? = some a ∧ a.nm = x ∧ (go al out al.length (0, -1)).2 = (j : Int)) := by
  obtain ⟨h1, h2⟩ := go_spec al out al.length (0, -1) (Nat.le_refl _)
  rw [List.take_length] at h1 h2
  dsimp only at h1 h2
  refine ⟨by omega, ?_, h2⟩
  rw [h1]
  have : (((keys (tbl al)).filter fun x => decide (x ∉ out)).length = 0) ↔ ∀ x ∈ keys (tbl al), x ∈ out := by
    rw [List.length_eq_zero_iff, List.filter_eq_nil_iff]
    simp
  rw [← this]
  omega
end Go.Proofs.Ytgijlgdhogbgbaa
namespace Go.Proofs.Ytgijlgdhogbgbaa
open Go Go.Ab Go.Proofs
set_option maxRecDepth 100000
set_option linter.unusedSimpArgs false
set_option linter.unusedVariables false
/-- The names taken so far, at the bottom of memory. -/
def OH (h : AHeap) (ov : AV) (out : List Nm) : Prop := (out = [] ∧ ov = .slc true [] ∧ h = []) ∨ ∃ g, ov = .arr 0 0 out.length g 1 ∧ h = [.arr 1 (out.map sV) g]
theorem oh_ov {h : AHeap} {ov : AV} {out : List Nm} (ho : OH h ov out) : OV h ov out := by
  rcases ho with ⟨rfl, rfl, rfl⟩ | ⟨g, rfl, rfl⟩
  · exact ov_nil _
  · exact ov_arr rfl
theorem oh_add {h : AHeap} {ov : AV} {out : List Nm} (ho : OH h ov out) (hn : out.length ≤ 1000) (m : Nm) : ∃ v h1, (∀ z, appT (some (1, 16, z)) h ov (some [sV m]) = some (v, h1)) ∧ OH h1 v (out ++ [m]) := by
  rcases ho with ⟨rfl, rfl, rfl⟩ | ⟨g, rfl, rfl⟩
  · exact ⟨_, _, fun z => appT_slc _ _ _ _ _ rfl rfl (by simp) (by simp), .inr ⟨0, rfl, rfl⟩⟩
  · refine ⟨_, _, fun z => appT_arr _ _ _ _ _ _ _ _ rfl (by simp) rfl (by simp; omega), .inr ⟨g + 1, by simp, by simp⟩⟩
/-- What the greedy order answers. -/
def ans (o : Option (List Nm)) : List Nm × Int := match o with | some o => (o, 0) | none => ([], 14)
theorem o0_loop (al : List Al) (hal : al.length ≤ 1000) (hfit : ∀ a ∈ al, a.ty.fit) : ∀ (f : Nat) (out : List Nm) (ov a2 a3 : AV) (h : AHeap), OH h ov out → Took (keys (tbl al)) out → out.length + f = (keys (tbl al)).length → out.length + f ≤ 1000 → ∃ rv e4 h',
    lrun Try.prog md fg (fg 10) (loopOf Try.f10 0) (fg 10 1) (((.slc false (al.map alV)) :: .unk :: (a2) :: (a3) :: (ov) :: .unk :: .unk :: .unk :: .unk :: .unk :: .unk :: .unk :: .unk :: .unk :: .unk :: .unk :: .unk :: .unk :: .unk :: .unk :: .unk :: .unk :: .unk :: .unk :: .unk :: .unk :: .unk :: .unk :: .unk :: .unk :: .unk :: .unk :: .unk :: .unk :: .unk :: .unk :: .unk :: .unk :: .unk :: .unk :: .unk :: .unk :: .unk :: .unk :: .unk :: .unk :: .unk :: .unk :: .unk :: .unk :: .unk :: .unk :: .unk :: .unk :: .unk :: .unk :: .unk :: .unk :: .unk :: .unk :: .unk :: .unk :: .unk :: .unk :: .unk :: .unk :: .unk :: .unk :: .unk :: .unk :: .unk :: .unk :: .unk :: .unk :: .unk :: .unk :: [] : List AV)) h = some (.ret, ((.slc false (al.map alV)) :: .unk :: (rv) :: (.int (ans (greedy (keys (tbl al)) (dep (tbl al)) f out)).2) :: (e4) :: .unk :: .unk :: .unk :: .unk :: .unk :: .unk :: .unk :: .unk :: .unk :: .unk :: .unk :: .unk :: .unk :: .unk :: .unk :: .unk :: .unk :: .unk :: .unk :: .unk :: .unk :: .unk :: .unk :: .unk :: .unk :: .unk :: .unk :: .unk :: .unk :: .unk :: .unk :: .unk :: .unk :: .unk :: .unk :: .unk :: .unk :: .unk :: .unk :: .unk :: .unk :: .unk :: .unk :: .unk :: .unk :: .unk :: .unk :: .unk :: .unk :: .unk :: .unk :: .unk :: .unk :: .unk :: .unk :: .unk :: .unk :: .unk :: .unk :: .unk :: .unk :: .unk :: .unk :: .unk :: .unk :: .unk :: .unk :: .unk :: .unk :: .unk :: .unk :: [] : List AV), h') ∧ OV h' rv (ans (greedy (keys (tbl al)) (dep (tbl al)) f out)).1
  | f, out, ov, a2, a3, h, ho, ht, hl, hb => by
    obtain ⟨g0, g1, g2⟩ := go_all al out
    have e2 := o2_loop al hal hfit out (by omega) ov h (oh_ov ho) al.length 0 (-1) ((al.length : Int) - 1) (Nat.le_refl _) (by omega) (by omega) rfl
    generalize hgo : go al out al.length (0, -1) = s at *
    obtain ⟨left, next⟩ := s
    dsimp only at g0 g1 g2 e2
    have htk := took_all (keys_nodup al) ht
    cases f with
    | zero =>
      have : left = 0 := g1.2 (htk.2 (by omega))
      subst this
      rw [greedy]
      refine ⟨ov, ov, h, ?_, oh_ov ho⟩
      simp only [ans]
      rw [lrun_atC loop10_0]
      simp (implicitDefEqProofs := false) (disch := omega) only [go_sem, Nat.reduceAdd, Nat.reduceSub, Nat.reduceMul, Nat.reduceLT, Nat.reduceLeDiff, Nat.reduceEqDiff, List.drop_zero, List.take_succ_cons, List.take_zero, List.drop_succ_cons, Bool.and_true, Bool.true_and, Bool.and_false, Bool.false_and, BitVec.reduceOfInt, Nat.zero_add, Nat.mul_one, Nat.add_zero, Int.zero_add, Int.reduceToNat, Nat.reducePow, ↓reduceIte, reduceCtorEq, Int.reduceLE, Int.reduceLT, Int.reduceEq, Int.reduceNe, Int.reduceAdd, Int.reduceSub, Int.reduceMul, Int.reduceNeg, Nat.reduceBEq, show regOf Try.f10 2 = Code.region _ _ _ from rfl, show regOf Try.f10 3 = Code.region _ _ _ from rfl, show regOf Try.f10 4 = Code.region _ _ _ from rfl, show regOf Try.f10 17 = Code.region _ _ _ from rfl, show regOf Try.f10 18 = Code.region _ _ _ from rfl, List.length_map, e2]
    | succ f =>
      have hleft : ¬ left = 0 := fun h0 => by have := htk.1 (g1.1 h0); omega
      rw [greedy]
      cases hfi : (keys (tbl al)).find? (rdy (dep (tbl al)) out) with
      | none =>
        rw [hfi] at g2
        dsimp only at g2
        subst g2
        refine ⟨.slc true [], ov, h, ?_, ov_nil h⟩
        simp only [ans]
        rw [lrun_atC loop10_0]
        simp (implicitDefEqProofs := false) (disch := omega) only [go_sem, Nat.reduceAdd, Nat.reduceSub, Nat.reduceMul, Nat.reduceLT, Nat.reduceLeDiff, Nat.reduceEqDiff, List.drop_zero, List.take_succ_cons, List.take_zero, List.drop_succ_cons, Bool.and_true, Bool.true_and, Bool.and_false, Bool.false_and, BitVec.reduceOfInt, Nat.zero_add, Nat.mul_one, Nat.add_zero, Int.zero_add, Int.reduceToNat, Nat.reducePow, ↓reduceIte, reduceCtorEq, Int.reduceLE, Int.reduceLT, Int.reduceEq, Int.reduceNe, Int.reduceAdd, Int.reduceSub, Int.reduceMul, Int.reduceNeg, Nat.reduceBEq, show regOf Try.f10 2 = Code.region _ _ _ from rfl, show regOf Try.f10 3 = Code.region _ _ _ from rfl, show regOf Try.f10 4 = Code.region _ _ _ from rfl, show regOf Try.f10 17 = Code.region _ _ _ from rfl, show regOf Try.f10 19 = Code.region _ _ _ from rfl, show regOf Try.f10 20 = Code.region _ _ _ from rfl, List.length_map, e2, hleft]
      | some x =>
        rw [hfi] at g2
        dsimp only at g2
        obtain ⟨j, a, hx, rfl, rfl⟩ := g2
        have hjl := (List.getElem?_eq_some_iff.1 hx).1
        have htj : ((j : Int)).toNat = j := by omega
        obtain ⟨v, h1, ha, ho1⟩ := oh_add ho (by omega) a.nm
        obtain ⟨rv, e4, h', e, hov⟩ := o0_loop al hal hfit f (out ++ [a.nm]) v .unk .unk h1 ho1 (took_add ht hfi) (by simp; omega) (by simp; omega)
        dsimp only at e hov ⊢
        refine ⟨rv, e4, h', ?_, hov⟩
        rw [← e]
        have hj0 : ¬ (j : Int) < 0 := by omega
        obtain ⟨s', ps', k3, p3, m3, n3, l3⟩ := a
        dsimp only at ha
        rw [lrun_atC loop10_0]
        simp (implicitDefEqProofs := false) (disch := omega) only [go_sem, Nat.reduceAdd, Nat.reduceSub, Nat.reduceMul, Nat.reduceLT, Nat.reduceLeDiff, Nat.reduceEqDiff, List.drop_zero, List.take_succ_cons, List.take_zero, List.drop_succ_cons, Bool.and_true, Bool.true_and, Bool.and_false, Bool.false_and, BitVec.reduceOfInt, Nat.zero_add, Nat.mul_one, Nat.add_zero, Int.zero_add, Int.reduceToNat, Nat.reducePow, ↓reduceIte, reduceCtorEq, Int.reduceLE, Int.reduceLT, Int.reduceEq, Int.reduceNe, Int.reduceAdd, Int.reduceSub, Int.reduceMul, Int.reduceNeg, Nat.reduceBEq, show regOf Try.f10 2 = Code.region _ _ _ from rfl, show regOf Try.f10 3 = Code.region _ _ _ from rfl, show regOf Try.f10 4 = Code.region _ _ _ from rfl, show regOf Try.f10 17 = Code.region _ _ _ from rfl, show regOf Try.f10 19 = Code.region _ _ _ from rfl, show regOf Try.f10 21 = Code.region _ _ _ from rfl, List.length_map, List.getElem?_map, htj, hx, Option.map_some, alV_mk, e2, hleft, hj0, ha]
theorem pure_tup {h : AHeap} {rv : AV} {o : List Nm} (hov : OV h rv o) (c : Int) : pureRes (some (.tup [rv, .int c], h)) = some (.tup [.slc false (o.map sV), .int c]) := by
  obtain ⟨ids, h1, h2⟩ := hov
  have h59 := h1 58
  have hi : exp1 h 59 (.int c) = some (.int c, []) := exp1_solid rfl
  by_cases hs : solid rv = true
  · have := h1 59
    rw [exp1_solid hs] at this
    simp only [Option.some.injEq, Prod.mk.injEq] at this
    rw [this.1] at hs ⊢
    exact pureRes_solid (by simp only [solid, solidL] at hs ⊢; simp only [hs]; rfl)
  · have hs2 : solid (.tup [rv, .int c]) = false := by
      simp only [solid, solidL]
      have : solid rv = false := by simpa using hs
      rw [this]; rfl
    have : exp1 h expDepth (.tup [rv, .int c]) = some (.tup [.slc false (o.map sV), .int c], ids) := by
      show exp1 h (59 + 1) _ = _
      unfold exp1
      rw [hs2]
      simp only [Bool.false_eq_true, if_false, expL, h59, hi, Option.map_some, List.append_nil]
    simp only [pureRes, this, h2, if_true]
theorem rorder_p (al : List Al) (hal : al.length ≤ 1000) (hfit : ∀ a ∈ al, a.ty.fit) (hk : (keys (tbl al)).length ≤ 1000) :
    pcall Try.prog md fg 10 [.slc false (al.map alV)] = some (.tup [.slc false ((ans (greedy (keys (tbl al)) (dep (tbl al)) (keys (tbl al)).length [])).1.map sV), .int (ans (greedy (keys (tbl al)) (dep (tbl al)) (keys (tbl al)).length [])).2]) := by
  obtain ⟨rv, e4, h', e, hov⟩ := o0_loop al hal hfit (keys (tbl al)).length [] (.slc true []) (.slc true []) (.int 0) [] (.inl ⟨rfl, rfl, rfl⟩) ⟨(by intro n h; cases h), by simp⟩ (by simp) (by simpa using hk)
  have e2 : aval Try.prog md fg 10 [.slc false (al.map alV)] [] = some (.tup [rv, .int (ans (greedy (keys (tbl al)) (dep (tbl al)) (keys (tbl al)).length [])).2], h') := by
    rw [aval_of Try.func10 body10 Try.results10 Try.ntmps10 ok10]
    simp (implicitDefEqProofs := false) (disch := omega) only [go_sem, Nat.reduceAdd, Nat.reduceSub, Nat.reduceMul, Nat.reduceLT, Nat.reduceLeDiff, Nat.reduceEqDiff, List.drop_zero, List.take_succ_cons, List.take_zero, List.drop_succ_cons, Bool.and_true, Bool.true_and, Bool.and_false, Bool.false_and, BitVec.reduceOfInt, Nat.zero_add, Nat.mul_one, Nat.add_zero, Int.zero_add, Int.reduceToNat, Nat.reducePow, ↓reduceIte, reduceCtorEq, Int.reduceLE, Int.reduceLT, Int.reduceEq, Int.reduceNe, Int.reduceAdd, Int.reduceSub, Int.reduceMul, Int.reduceNeg, Nat.reduceBEq, show regOf Try.f10 0 = Code.region _ _ _ from rfl, show regOf Try.f10 1 = Code.region _ _ _ from rfl, e]
  rw [pcall_eq, e2, pure_tup hov]
end Go.Proofs.Ytgijlgdhogbgbaa
namespace Go.Proofs.Ytgijlgdhogbgbaa
open Go Go.Ab Go.Proofs
set_option maxRecDepth 100000
set_option linter.unusedSimpArgs false
set_option linter.unusedVariables false
theorem aop_makeMap0 {P : Program} {env : Env} {h : AHeap} {d : Option Tmp} {ty : TypeId} {pos : String} {aft : Array Edge} {g : Option (Nat × Bool)} (t : TypeId) : aop P env h ⟨d, .makeMap t none, ty, pos, aft, g⟩ = if isMapT P t then some (.value (.mp h.length) (h ++ [.map [] 0])) else none := rfl
theorem aop_lookup {P : Program} {env : Env} {h : AHeap} {d : Option Tmp} {ty : TypeId} {pos : String} {aft : Array Edge} {g : Option (Nat × Bool)} (t : TypeId) (x k : Operand) (ok : Bool) : aop P env h ⟨d, .lookup t x k ok, ty, pos, aft, g⟩ = ato (alookup P t h (oval env x) (oval env k) ok) h := rfl
theorem aop_mapUpdate {P : Program} {env : Env} {h : AHeap} {d : Option Tmp} {ty : TypeId} {pos : String} {aft : Array Edge} {g : Option (Nat × Bool)} (t : TypeId) (x k v : Operand) : aop P env h ⟨d, .mapUpdate t x k v, ty, pos, aft, g⟩ = (amapPut P t h (oval env x) (oval env k) (oval env v)).map (.value .und ·) := rfl
section
variable {P : Program} {md : FuncId → Nat} {d : Option Tmp} {ty : TypeId} {pos : String} {aft : Array Edge} {g : Option (Nat × Bool)}
theorem eff_lookup (t : TypeId) (x k : Operand) (ok : Bool) : effOp P md ⟨d, .lookup t x k ok, ty, pos, aft, g⟩ = false := rfl
theorem rd_lookup (t : TypeId) (x k : Operand) (ok : Bool) : readOp P ⟨d, .lookup t x k ok, ty, pos, aft, g⟩ = true := rfl
theorem isLoad_lookup (t : TypeId) (x k : Operand) (ok : Bool) : isLoad ⟨d, .lookup t x k ok, ty, pos, aft, g⟩ = true := rfl
theorem eff_mapUpdate (t : TypeId) (x k v : Operand) : effOp P md ⟨d, .mapUpdate t x k v, ty, pos, aft, g⟩ = true := rfl
theorem isLoad_mapUpdate (t : TypeId) (x k v : Operand) : isLoad ⟨d, .mapUpdate t x k v, ty, pos, aft, g⟩ = false := rfl
theorem rd_mapUpdate (t : TypeId) (x k v : Operand) : readOp P ⟨d, .mapUpdate t x k v, ty, pos, aft, g⟩ = false := rfl
theorem eff_makeFunc (x : Fn) (a b : Array Operand) : effOp P md ⟨d, .makeFunc x a b, ty, pos, aft, g⟩ = false := rfl
theorem rd_makeFunc (x : Fn) (a b : Array Operand) : readOp P ⟨d, .makeFunc x a b, ty, pos, aft, g⟩ = false := rfl
theorem isLoad_makeFunc (x : Fn) (a b : Array Operand) : isLoad ⟨d, .makeFunc x a b, ty, pos, aft, g⟩ = false := rfl
end
attribute [go_sem] eff_lookup rd_lookup isLoad_lookup eff_mapUpdate isLoad_mapUpdate rd_mapUpdate eff_makeFunc rd_makeFunc isLoad_makeFunc
/-- A map's entries. -/
def encM {α : Type} (vf : α → AV) (es : List (Nm × α × Nat)) : List (AV × AV × Nat) := es.map fun e => (sV e.1, vf e.2.1, e.2.2)
theorem eqT9 (a b : ByteArray) : aeqT Try.prog eqDepth 9 (.str a) (.str b) = some (a.data.toList == b.data.toList) := by kernel_rfl
theorem afind_mf {α : Type} (vf : α → AV) (k : Nm) : ∀ (es : List (Nm × α × Nat)) (i : Nat), afind (aeqT Try.prog eqDepth 9) (.str (txt k)) (encM vf es) i = some ((mf k es i).map fun p => (p.1, vf p.2))
  | [], i => rfl
  | e :: r, i => by
    obtain ⟨n, t, c⟩ := e
    show (match aeqT Try.prog eqDepth 9 (.str (txt k)) (.str (txt n)) with | some true => _ | some false => _ | none => _) = _
    rw [eqT9, txt_list, txt_list]
    unfold mf
    by_cases h : k = n
    · have : (k == n) = true := by simpa using h
      rw [this, if_pos h]; rfl
    · have : (k == n) = false := by simpa using h
      rw [this, if_neg h]
      exact afind_mf vf k r (i + 1)
theorem mf_at {α : Type} (k : Nm) : ∀ (es : List (Nm × α × Nat)) (i : Nat) (j : Nat) (t : α), mf k es i = some (j, t) → i ≤ j ∧ ∃ c, es[j - i]? = some (k, t, c)
  | [], i, j, t, h => by cases h
  | e :: r, i, j, t, h => by
    unfold mf at h
    split at h
    · rename_i hk
      cases h
      exact ⟨Nat.le_refl _, e.2.2, by rw [Nat.sub_self, hk]; rfl⟩
    · obtain ⟨h1, c, h2⟩ := mf_at k r (i + 1) j t h
      refine ⟨by omega, c, ?_⟩
      rw [show j - i = (j - (i + 1)) + 1 by omega, List.getElem?_cons_succ]; exact h2
theorem tmap_63 : tmap Try.prog 63 = some (9, 38) := by kernel_rfl
theorem tmap_93 : tmap Try.prog 93 = some (9, 3) := by kernel_rfl
theorem isMapT_63 : isMapT Try.prog 63 = true := by kernel_rfl
theorem isMapT_64 : isMapT Try.prog 64 = true := by kernel_rfl
theorem isMapT_93 : isMapT Try.prog 93 = true := by kernel_rfl
theorem strKey (k : ByteArray) : ((aeqT Try.prog eqDepth 9 (.str k) (.str k)).isSome && keyOk (.str k)) = true := by rw [eqT9]; rfl
abbrev zA : AV := .agg [.val (.string ⟨#[]⟩), .slc true [], .val (.int .i64 0), .val (.string ⟨#[]⟩), .val (.string ⟨#[]⟩), .val (.int .i64 0), .slc true []]
theorem look_m {α : Type} (vf : α → AV) {T et : Nat} {z : AV} (ht : tmap Try.prog T = some (9, et)) (hz : tzero Try.prog et = some z) {M : Nat} {h : AHeap} {P : MapS α} (hm : hget h M = .map (encM vf P.1) P.2) (k : Nm) :
    alookup Try.prog T h (.mp M) (sV k) true = some (.tup [((mg P k).map vf).getD z, .bool (mg P k).isSome]) ∧ alookup Try.prog T h (.mp M) (sV k) false = some (((mg P k).map vf).getD z) := by
  unfold alookup
  rw [ht]
  dsimp only
  rw [hz]
  dsimp only
  rw [if_pos (strKey _), hm]
  dsimp only
  rw [afind_mf]
  unfold mg
  cases mf k P.1 0 with
  | none => exact ⟨rfl, rfl⟩
  | some p => exact ⟨rfl, rfl⟩
theorem put_m {α : Type} (vf : α → AV) (hv : ∀ x, okVal (vf x) = true) {T et : Nat} (ht : tmap Try.prog T = some (9, et)) {M : Nat} {h : AHeap} {P : MapS α} (hm : hget h M = .map (encM vf P.1) P.2) (k : Nm) (t : α) :
    amapPut Try.prog T h (.mp M) (sV k) (vf t) = some (h.set M (.map (encM vf (mset P k t).1) (mset P k t).2)) := by
  unfold amapPut
  rw [ht]
  dsimp only
  rw [hm]
  dsimp only
  have hk : ((aeqT Try.prog eqDepth 9 (.str (txt k)) (.str (txt k))).isSome && keyOk (.str (txt k)) && okVal (vf t)) = true := by
    rw [strKey, hv]; rfl
  rw [if_pos hk, afind_mf]
  unfold mset
  cases hp : mf k P.1 0 with
  | none =>
    dsimp only [Option.map_none]
    unfold encM
    rw [List.map_append]; rfl
  | some p =>
    obtain ⟨i, was⟩ := p
    dsimp only [Option.map_some]
    obtain ⟨_, c, hi⟩ := mf_at k P.1 0 i was hp
    rw [Nat.sub_zero] at hi
    have h1 : ((encM vf P.1)[i]?.map fun e => keySame e.1 (AV.str (txt k))) = some true := by
      unfold encM
      rw [List.getElem?_map, hi]
      show some (keySame (AV.str (txt k)) (AV.str (txt k))) = some true
      simp [keySame, same1]
    rw [if_pos h1]
    unfold encM
    congr 3
    apply List.ext_getElem?
    intro j
    simp only [List.getElem?_modify, List.getElem?_map, Option.map_map]
    cases P.1[j]? with
    | none => rfl
    | some e => simp only [Option.map_some, Function.comp]; split <;> rfl
theorem ok_al (a : Al) : okVal (alV a) = true := rfl
/-- A list of names, as one's own, in memory. -/
def NL (h : AHeap) (nv : AV) (l : List Nm) : Prop := (l = [] ∧ nv = .slc true []) ∨ ∃ k g, nv = .arr k 0 l.length g 1 ∧ hget h k = .arr 1 (l.map sV) g
theorem nl_app {h : AHeap} {nv : AV} {l : List Nm} (hn : NL h nv l) (j : AHeap) : NL (h ++ j) nv l := by
  rcases hn with h1 | ⟨k, g, h1, h2⟩
  · exact .inl h1
  · exact .inr ⟨k, g, h1, by rw [hget_app j (hlt_of h2 (by simp))]; exact h2⟩
theorem nl_ov {h : AHeap} {nv : AV} {l : List Nm} (hn : NL h nv l) : OV h nv l := by
  rcases hn with ⟨rfl, rfl⟩ | ⟨k, g, rfl, h2⟩
  · exact ov_nil _
  · exact ov_arr h2
/-- The table in memory. -/
def Tb (h : AHeap) (P : MapS Al) : Prop := hget h 2 = .map (encM alV P.1) P.2 ∧ ∃ nv, hget h 4 = .vars [.mp 2, nv, .mp 3] ∧ NL h nv (keys P)
theorem tb_app {h : AHeap} {P : MapS Al} (ht : Tb h P) (j : AHeap) : Tb (h ++ j) P := by
  obtain ⟨h1, nv, h2, h3⟩ := ht
  exact ⟨by rw [hget_app j (hlt_of h1 (by simp))]; exact h1, nv, by rw [hget_app j (hlt_of h2 (by simp))]; exact h2, nl_app h3 j⟩
mutual
theorem solid_below (n : Nat) : ∀ v : AV, solid v = true → below n v = true
  | .val _, _ => rfl
  | .agg cs, h => by simp only [solid] at h; simp only [below]; exact solidL_below n cs h
  | .tup cs, h => by simp only [solid] at h; simp only [below]; exact solidL_below n cs h
  | .slc f es, h => by simp only [solid, Bool.and_eq_true] at h; simp only [below]; exact solidL_below n es h.2
  | .sptr _ _, h => by simp [solid] at h
  | .ptr _ _, h => by simp [solid] at h
  | .eptr .., h => by simp [solid] at h
  | .arr .., h => by simp [solid] at h
  | .clo .., h => by simp [solid] at h
  | .mp _, h => by simp [solid] at h
  | .emp, h => by simp [solid] at h
  | .unk, h => by simp [solid] at h
theorem solidL_below (n : Nat) : ∀ l : List AV, solidL l = true → belowL n l = true
  | [], _ => rfl
  | v :: r, h => by simp only [solidL, Bool.and_eq_true] at h; simp only [belowL, solid_below n v h.1, solidL_below n r h.2, Bool.and_self]
end
def alT (P : MapS Al) (x : Tm) : AV := .tup [((mg P x.name).map alV).getD zA, .bool (decide (x.kind = 2 ∧ x.pkg = []) && (mg P x.name).isSome)]
theorem below_alT (n : Nat) (P : MapS Al) (x : Tm) : below n (alT P x) = true := by
  unfold alT
  cases mg P x.name with
  | none => rfl
  | some a =>
    have := solid_below n _ (solid_al a)
    simp only [below, belowL, Option.map_some, Option.getD_some, this, Bool.and_self, Bool.and_true]
set_option maxHeartbeats 4000000 in
theorem alias_c {h : AHeap} {P : MapS Al} (ht : Tb h P) (x : Tm) : doCall md (aval Try.prog md fg) 44 [.ptr 4 0, tmV x] h = some (alT P x, h) := by
  have e : ∃ j, aval Try.prog md fg 44 [.ptr 4 0, tmV x] h = some (alT P x, h ++ j) := by
    obtain ⟨k, p, m, n, ks⟩ := x
    have hp := txt_eq_nil p
    have g0 : ∀ l, hget (h ++ l) 2 = .map (encM alV P.1) P.2 := fun l => (tb_app ht l).1
    obtain ⟨_, nv, h2, h3⟩ := ht
    have g2 : ∀ l, hget (h ++ l) 4 = .vars [.mp 2, nv, .mp 3] := fun l => by rw [hget_app l (hlt_of h2 (by simp))]; exact h2
    have lk := fun l => (look_m alV tmap_63 tzero_38 (g0 l) m).1
    rw [tmV_mk]
    have hv : ∃ c0 c1 c2 c3 c4 c5 c6, ((mg P m).map alV).getD zA = .agg [c0, c1, c2, c3, c4, c5, c6] := by
      cases mg P m with
      | none => exact ⟨_, _, _, _, _, _, _, rfl⟩
      | some a => exact ⟨_, _, _, _, _, _, _, rfl⟩
    obtain ⟨c0, c1, c2, c3, c4, c5, c6, hv⟩ := hv
    have hal : alT P ⟨k, p, m, n, ks⟩ = AV.tup [((mg P m).map alV).getD zA, AV.bool (decide (k = 2 ∧ p = []) && (mg P m).isSome)] := rfl
    rw [hal, hv]
    simp only [hv] at lk
    generalize (mg P m).isSome = b at *
    refine ⟨[.vars [.int k, .str (txt p), .str (txt m), .int n, .slc false (ks.map tmV)], .vars [c0, c1, c2, c3, c4, c5, c6], .vars [c0, c1, c2, c3, c4, c5, c6]], ?_⟩
    cases b with
    | false =>
      rw [Bool.and_false]
      rw [aval_of Try.func44 body44 Try.results44 Try.ntmps44 ok44]
      simp (implicitDefEqProofs := false) (disch := first | omega | exact List.length_set) only [go_sem, Nat.reduceAdd, Nat.reduceSub, Nat.reduceMul, Nat.reduceLT, Nat.reduceLeDiff, Nat.reduceEqDiff, List.drop_zero, List.take_succ_cons, List.take_zero, List.drop_succ_cons, Bool.and_true, Bool.true_and, Bool.and_false, Bool.false_and, BitVec.reduceOfInt, Nat.zero_add, Nat.mul_one, Nat.add_zero, Int.zero_add, Int.reduceToNat, Nat.reducePow, ↓reduceIte, reduceCtorEq, Int.reduceLE, Int.reduceLT, Int.reduceEq, Int.reduceNe, Int.reduceAdd, Int.reduceSub, Int.reduceMul, Int.reduceNeg, Nat.reduceBEq, show regOf Try.f44 0 = Code.region _ _ _ from rfl, show regOf Try.f44 1 = Code.region _ _ _ from rfl, show regOf Try.f44 2 = Code.region _ _ _ from rfl, ↓tail_nil, ↓subs_nil_all, ↓List.forall_mem_cons, ↓all_nil, Bool.true_or, subs_two, List.tail_cons, killAt_nil, killAt_cons, aop_lookup, lk, Option.map_some, List.append_assoc, List.cons_append, List.nil_append, List.length_append, List.length_cons, List.length_nil, sb_get0, sb_get1, sb_get2, sb_set0, sb_set1, sb_set2, g2, aresults]
    | true =>
      rw [Bool.and_true]
      by_cases h1 : k = 2
      · subst h1
        by_cases h2 : p = []
        · subst h2
          have hp0 : (txt [] = ⟨#[]⟩) = True := by rw [txt_eq_nil]; simp
          rw [decide_eq_true (show (2 : Int) = 2 ∧ ([] : Nm) = [] from ⟨rfl, rfl⟩)]
          rw [aval_of Try.func44 body44 Try.results44 Try.ntmps44 ok44]
          simp (disch := first | omega | exact List.length_set) only [go_sem, Nat.reduceAdd, Nat.reduceSub, Nat.reduceMul, Nat.reduceLT, Nat.reduceLeDiff, Nat.reduceEqDiff, List.drop_zero, List.take_succ_cons, List.take_zero, List.drop_succ_cons, Bool.and_true, Bool.true_and, Bool.and_false, Bool.false_and, BitVec.reduceOfInt, Nat.zero_add, Nat.mul_one, Nat.add_zero, Int.zero_add, Int.reduceToNat, Nat.reducePow, ↓reduceIte, reduceCtorEq, Int.reduceLE, Int.reduceLT, Int.reduceEq, Int.reduceNe, Int.reduceAdd, Int.reduceSub, Int.reduceMul, Int.reduceNeg, Nat.reduceBEq, show regOf Try.f44 0 = Code.region _ _ _ from rfl, show regOf Try.f44 1 = Code.region _ _ _ from rfl, show regOf Try.f44 2 = Code.region _ _ _ from rfl, ↓tail_nil, ↓subs_nil_all, ↓List.forall_mem_cons, ↓all_nil, Bool.true_or, subs_two, List.tail_cons, killAt_nil, killAt_cons, aop_lookup, lk, Option.map_some, List.append_assoc, List.cons_append, List.nil_append, List.length_append, List.length_cons, List.length_nil, sb_get0, sb_get1, sb_get2, sb_set0, sb_set1, sb_set2, g2, aresults, hp0, decide_true]
        · rw [decide_eq_false (fun hh => h2 hh.2)]
          rw [aval_of Try.func44 body44 Try.results44 Try.ntmps44 ok44]
          simp (disch := first | omega | exact List.length_set) only [go_sem, Nat.reduceAdd, Nat.reduceSub, Nat.reduceMul, Nat.reduceLT, Nat.reduceLeDiff, Nat.reduceEqDiff, List.drop_zero, List.take_succ_cons, List.take_zero, List.drop_succ_cons, Bool.and_true, Bool.true_and, Bool.and_false, Bool.false_and, BitVec.reduceOfInt, Nat.zero_add, Nat.mul_one, Nat.add_zero, Int.zero_add, Int.reduceToNat, Nat.reducePow, ↓reduceIte, reduceCtorEq, Int.reduceLE, Int.reduceLT, Int.reduceEq, Int.reduceNe, Int.reduceAdd, Int.reduceSub, Int.reduceMul, Int.reduceNeg, Nat.reduceBEq, show regOf Try.f44 0 = Code.region _ _ _ from rfl, show regOf Try.f44 1 = Code.region _ _ _ from rfl, show regOf Try.f44 2 = Code.region _ _ _ from rfl, ↓tail_nil, ↓subs_nil_all, ↓List.forall_mem_cons, ↓all_nil, Bool.true_or, subs_two, List.tail_cons, killAt_nil, killAt_cons, aop_lookup, lk, Option.map_some, List.append_assoc, List.cons_append, List.nil_append, List.length_append, List.length_cons, List.length_nil, sb_get0, sb_get1, sb_get2, sb_set0, sb_set1, sb_set2, g2, aresults, hp, h2, decide_false]
      · rw [decide_eq_false (fun hh => h1 hh.1)]
        rw [aval_of Try.func44 body44 Try.results44 Try.ntmps44 ok44]
        simp (disch := first | omega | exact List.length_set) only [go_sem, Nat.reduceAdd, Nat.reduceSub, Nat.reduceMul, Nat.reduceLT, Nat.reduceLeDiff, Nat.reduceEqDiff, List.drop_zero, List.take_succ_cons, List.take_zero, List.drop_succ_cons, Bool.and_true, Bool.true_and, Bool.and_false, Bool.false_and, BitVec.reduceOfInt, Nat.zero_add, Nat.mul_one, Nat.add_zero, Int.zero_add, Int.reduceToNat, Nat.reducePow, ↓reduceIte, reduceCtorEq, Int.reduceLE, Int.reduceLT, Int.reduceEq, Int.reduceNe, Int.reduceAdd, Int.reduceSub, Int.reduceMul, Int.reduceNeg, Nat.reduceBEq, show regOf Try.f44 0 = Code.region _ _ _ from rfl, show regOf Try.f44 1 = Code.region _ _ _ from rfl, show regOf Try.f44 2 = Code.region _ _ _ from rfl, ↓tail_nil, ↓subs_nil_all, ↓List.forall_mem_cons, ↓all_nil, Bool.true_or, subs_two, List.tail_cons, killAt_nil, killAt_cons, aop_lookup, lk, Option.map_some, List.append_assoc, List.cons_append, List.nil_append, List.length_append, List.length_cons, List.length_nil, sb_get0, sb_get1, sb_get2, sb_set0, sb_set1, sb_set2, g2, aresults, h1, decide_false]
  obtain ⟨j, e⟩ := e
  have := doCall_ref (by decide) (by decide) (by decide) e (below_alT _ _ _) (gcOk_append h j)
  rw [List.take_left' rfl] at this
  exact this
end Go.Proofs.Ytgijlgdhogbgbaa
namespace Go.Proofs.Ytgijlgdhogbgbaa
open Go Go.Ab Go.Proofs
set_option maxRecDepth 100000
set_option linter.unusedSimpArgs false
set_option linter.unusedVariables false
/-- A list of names of one's own, above so many objects. -/
def NO (n : Nat) (H : AHeap) (nv : AV) (acc : List Nm) : Prop := (acc = [] ∧ nv = .slc true []) ∨ ∃ k g, n ≤ k ∧ nv = .arr k 0 acc.length g 1 ∧ hget H k = .arr 1 (acc.map sV) g
theorem no_app {n : Nat} {H : AHeap} {nv : AV} {acc : List Nm} (h : NO n H nv acc) (j : AHeap) : NO n (H ++ j) nv acc := by
  rcases h with h | ⟨k, g, h0, h1, h2⟩
  · exact .inl h
  · exact .inr ⟨k, g, h0, h1, by rw [hget_app j (hlt_of h2 (by simp))]; exact h2⟩
theorem headOk_sV (l : List Nm) : headOk 1 (l.map sV) = true := by cases l <;> rfl
theorem take_set_ge {α : Type} {l : List α} {n k : Nat} (x : α) (h : n ≤ k) : (l.set k x).take n = l.take n := by
  apply List.ext_getElem?
  intro i
  by_cases hi : i < n
  · rw [List.getElem?_take_of_lt hi, List.getElem?_take_of_lt hi, List.getElem?_set_ne (by omega)]
  · rw [List.getElem?_eq_none (by rw [List.length_take]; omega), List.getElem?_eq_none (by rw [List.length_take]; omega)]
theorem no_add {n : Nat} {H : AHeap} {nv : AV} {acc : List Nm} (h : NO n H nv acc) (hn : n ≤ H.length) (xs : List Nm) (hb : acc.length + xs.length ≤ 1000000) :
    ∃ v H', (∀ z, appT (some (1, 16, z)) H nv (some (xs.map sV)) = some (v, H')) ∧ NO n H' v (acc ++ xs) ∧ H'.take n = H.take n ∧ n ≤ H'.length := by
  rcases h with ⟨rfl, rfl⟩ | ⟨k, g, h0, rfl, h2⟩
  · by_cases hx : xs = []
    · subst hx
      exact ⟨.slc true [], H, fun z => appT_slc0 _ _ _ _ rfl, .inl ⟨rfl, rfl⟩, rfl, hn⟩
    · refine ⟨_, _, fun z => appT_slc _ _ _ _ _ (headOk_sV xs) rfl (by simpa using hx) (by simp; omega), .inr ⟨H.length, 0, hn, by simp, ?_⟩, ?_, by simp; omega⟩
      · rw [hget_last]; simp
      · rw [List.take_append_of_le_length hn]
  · refine ⟨_, _, fun z => appT_arr _ _ _ _ _ _ _ _ h2 (by simp) (headOk_sV xs) (by simp; omega), .inr ⟨k, g + 1, h0, by simp, ?_⟩, take_set_ge _ h0, by simp; omega⟩
    rw [hget_set_eq (hlt_of h2 (by simp))]; simp
theorem no_ov {n : Nat} {H : AHeap} {nv : AV} {acc : List Nm} (h : NO n H nv acc) : ∃ ids, (∀ d, exp1 H (d + 1) nv = some (.slc false (acc.map sV), ids)) ∧ canFrz H ids = true ∧ ∀ i ∈ ids, n ≤ i := by
  rcases h with ⟨rfl, rfl⟩ | ⟨k, g, h0, rfl, h2⟩
  · exact ⟨[], fun d => rfl, rfl, by intro i h; cases h⟩
  · refine ⟨[k], fun d => ?_, by simp [canFrz, h2], by intro i hi; rw [List.mem_singleton.1 hi]; exact h0⟩
    have := arr_exp h2 (solid_names acc) d
    rw [List.length_map] at this; exact this
theorem frz_take {n : Nat} : ∀ (ids : List Nat) (H : AHeap), (∀ i ∈ ids, n ≤ i) → (frzAll H ids).take n = H.take n
  | [], H, _ => rfl
  | i :: r, H, h => by
    rw [frzAll, frz_take r _ (fun j hj => h j (List.mem_cons_of_mem _ hj))]
    unfold frz1
    split
    · exact take_set_ge _ (h i (List.mem_cons_self ..))
    · rfl
/-- A call whose result is told as a value. -/
theorem doCall_rated {f : FuncId} {vs : List AV} {h H : AHeap} {nv : AV} {acc : List Nm} (hm : md f = 3) (e : aval Try.prog md fg f vs h = some (nv, H)) (hH : H.take h.length = h) (hn : NO h.length H nv acc) : doCall md (aval Try.prog md fg) f vs h = some (.slc false (acc.map sV), h) := by
  obtain ⟨ids, h1, h2, h3⟩ := no_ov hn
  have hs : solid (.slc false (acc.map sV)) = true := by simp only [solid, solid_names, Bool.not_false, Bool.true_and]
  rw [doCall_0 (by omega)]
  unfold doCall0
  rw [if_neg (by omega)]
  unfold rated
  rw [if_pos hm, e]
  dsimp only
  rw [show exp1 H expDepth nv = _ from h1 59]
  dsimp only
  rw [if_pos h2]
  dsimp only
  have ht := (frz_take ids H h3).trans hH
  have hg : GcOk h.length h (frzAll H ids) := fun i hi => .inl (by
    have := congrArg (fun l => l[i]?) ht
    rwa [List.getElem?_take_of_lt hi] at this)
  rw [if_pos ⟨solid_below _ _ hs, hg⟩, ht]
mutual
theorem nmd_len (P : MapS Al) : ∀ t : Tm, (nmd P t).length ≤ tsz t
  | ⟨k, p, m, n, ks⟩ => by
    rw [nmd, tsz, List.length_append]
    have := nmdL_len P ks
    have : (own1 P k p m).length ≤ 1 := by
      unfold own1
      cases mg P m with
      | none => simp
      | some a => dsimp only; split <;> simp
    omega
theorem nmdL_len (P : MapS Al) : ∀ l : List Tm, (nmdL P l).length ≤ tszs l
  | [] => by rw [nmdL]; simp
  | t :: r => by rw [nmdL, tszs, List.length_append]; have := nmd_len P t; have := nmdL_len P r; omega
end
def NM (t : Tm) : Prop := tsz t ≤ 100000 → ∀ (h : AHeap) (P : MapS Al), Tb h P → doCall md (aval Try.prog md fg) 32 [.ptr 4 0, tmV t] h = some (.slc false ((nmd P t).map sV), h)
theorem nm_loop (ks : List Tm) (hl : tszs ks ≤ 100000) (hkl : ks.length ≤ 9223372036854775807) (hQ : ∀ t ∈ ks, NM t) (h : AHeap) (P : MapS Al) (hT : Tb h P) : ∀ (r : List Tm) (i : Nat) (H : AHeap) (nv : AV) (acc : List Nm), ks.drop i = r → i ≤ ks.length → tszs r ≤ 100000 → acc.length + tszs r ≤ 200000 → H.take h.length = h → h.length ≤ H.length → NO h.length H nv acc → ∃ nv' H',
    lrun Try.prog md fg (fg 32) (loopOf Try.f32 0) (fg 32 1) (((.ptr 4 0) :: .unk :: .unk :: .unk :: .unk :: (nv) :: .unk :: .unk :: .unk :: .unk :: .unk :: .unk :: .unk :: .unk :: .unk :: .unk :: .unk :: .unk :: .unk :: .unk :: .unk :: .unk :: .unk :: (.slc false (ks.map tmV)) :: (.int ks.length) :: (.int i) :: .unk :: .unk :: .unk :: .unk :: .unk :: .unk :: .unk :: .unk :: .unk :: .unk :: [] : List AV)) H = some (.exit 0, ((.ptr 4 0) :: .unk :: .unk :: .unk :: .unk :: (nv') :: .unk :: .unk :: .unk :: .unk :: .unk :: .unk :: .unk :: .unk :: .unk :: .unk :: .unk :: .unk :: .unk :: .unk :: .unk :: .unk :: .unk :: (.slc false (ks.map tmV)) :: (.int ks.length) :: (.int ks.length) :: .unk :: .unk :: .unk :: .unk :: .unk :: .unk :: .unk :: .unk :: .unk :: .unk :: [] : List AV), H') ∧ H'.take h.length = h ∧ h.length ≤ H'.length ∧ NO h.length H' nv' (acc ++ nmdL P r)
  | [], i, H, nv, acc, hdr, hi, hz, hb, hH, hHl, hn => by
    have : i = ks.length := by have := congrArg List.length hdr; simp at this; omega
    subst this
    refine ⟨nv, H, ?_, hH, hHl, by rw [nmdL, List.append_nil]; exact hn⟩
    rw [lrun_atC loop32_0]
    simp (implicitDefEqProofs := false) (disch := omega) only [go_sem, Nat.reduceAdd, Nat.reduceSub, Nat.reduceMul, Nat.reduceLT, Nat.reduceLeDiff, Nat.reduceEqDiff, List.drop_zero, List.take_succ_cons, List.take_zero, List.drop_succ_cons, Bool.and_true, Bool.true_and, Bool.and_false, Bool.false_and, BitVec.reduceOfInt, Nat.zero_add, Nat.mul_one, Nat.add_zero, Int.zero_add, Int.reduceToNat, Nat.reducePow, ↓reduceIte, reduceCtorEq, Int.reduceLE, Int.reduceLT, Int.reduceEq, Int.reduceNe, Int.reduceAdd, Int.reduceSub, Int.reduceMul, Int.reduceNeg, Nat.reduceBEq, show regOf Try.f32 6 = Code.region _ _ _ from rfl]
  | ⟨k2, p2, m2, n2, l2⟩ :: r, i, H, nv, acc, hdr, hi, hz, hb, hH, hHl, hn => by
    have hx : ks[i]? = some ⟨k2, p2, m2, n2, l2⟩ := by have := congrArg (·[0]?) hdr; simpa using this
    have hlt : i < ks.length := (List.getElem?_eq_some_iff.1 hx).1
    have hd' : ks.drop (i + 1) = r := by rw [← List.tail_drop, hdr]; rfl
    have ht : ((i : Int)).toNat = i := by omega
    rw [tszs] at hz hb
    have hlen := nmd_len P ⟨k2, p2, m2, n2, l2⟩
    have hHj : H = h ++ H.drop h.length := by conv => lhs; rw [← List.take_append_drop h.length H, hH]
    have hTH : ∀ j, Tb (H ++ j) P := fun j => by rw [hHj]; exact tb_app (tb_app hT _) j
    have cy := hQ _ (List.mem_of_getElem? hx) (by omega) (H ++ [.vars [.int k2, .str (txt p2), .str (txt m2), .int n2, .slc false (l2.map tmV)]]) P (hTH _)
    rw [tmV_mk] at cy
    obtain ⟨v, H2, x1, x2, x3, x4⟩ := no_add (no_app hn [.vars [.int k2, .str (txt p2), .str (txt m2), .int n2, .slc false (l2.map tmV)]]) (by simp; omega) (nmd P ⟨k2, p2, m2, n2, l2⟩) (by omega)
    rw [List.take_append_of_le_length hHl, hH] at x3
    obtain ⟨nv', H', e, y1, y2, y3⟩ := nm_loop ks hl hkl hQ h P hT r (i + 1) H2 v (acc ++ nmd P ⟨k2, p2, m2, n2, l2⟩) hd' (by omega) (by omega) (by simp only [List.length_append]; omega) x3 x4 x2
    refine ⟨nv', H', ?_, y1, y2, by rw [nmdL, ← List.append_assoc]; exact y3⟩
    rw [← e]
    rw [lrun_atC loop32_0]
    simp (implicitDefEqProofs := false) (disch := first | omega | exact List.length_set) only [go_sem, Nat.reduceAdd, Nat.reduceSub, Nat.reduceMul, Nat.reduceLT, Nat.reduceLeDiff, Nat.reduceEqDiff, List.drop_zero, List.take_succ_cons, List.take_zero, List.drop_succ_cons, Bool.and_true, Bool.true_and, Bool.and_false, Bool.false_and, BitVec.reduceOfInt, Nat.zero_add, Nat.mul_one, Nat.add_zero, Int.zero_add, Int.reduceToNat, Nat.reducePow, ↓reduceIte, reduceCtorEq, Int.reduceLE, Int.reduceLT, Int.reduceEq, Int.reduceNe, Int.reduceAdd, Int.reduceSub, Int.reduceMul, Int.reduceNeg, Nat.reduceBEq, show regOf Try.f32 6 = Code.region _ _ _ from rfl, show regOf Try.f32 7 = Code.region _ _ _ from rfl, show regOf Try.f32 8 = Code.region _ _ _ from rfl, show regOf Try.f32 9 = Code.region _ _ _ from rfl, List.length_map, List.getElem?_map, ht, hx, Option.map_some, tmV_mk, hget_last, set_last, cy, x1]
    all_goals (congr 1 <;> simp only [List.cons.injEq, AV.val.injEq, Value.int.injEq, Value.bool.injEq, true_and, and_true] <;> omega)
set_option maxHeartbeats 8000000 in
theorem nm_node (k : Int) (p m : Nm) (n : Int) (ks : List Tm) (hks : ks.length ≤ 9223372036854775807) (hQ : ∀ t ∈ ks, NM t) : NM ⟨k, p, m, n, ks⟩ := by
  intro hz h P hT
  rw [tsz] at hz
  suffices e : ∃ nv H, aval Try.prog md fg 32 [.ptr 4 0, tmV ⟨k, p, m, n, ks⟩] h = some (nv, H) ∧ H.take h.length = h ∧ NO h.length H nv (nmd P ⟨k, p, m, n, ks⟩) by
    obtain ⟨nv, H, e, e1, e2⟩ := e
    exact doCall_rated md32 e e1 e2
  have ca := fun j => alias_c (tb_app hT j) ⟨k, p, m, n, ks⟩
  rw [nmd]
  rw [tmV_mk] at ca ⊢
  unfold alT at ca
  change ∀ j, _ = some (AV.tup [((mg P m).map alV).getD zA, AV.bool (decide (k = 2 ∧ p = []) && (mg P m).isSome)], _) at ca
  by_cases hc : (k = 2 ∧ p = []) ∧ ∃ a, mg P m = some a
  · obtain ⟨hkp, a, ha⟩ := hc
    have ho : own1 P k p m = [a.nm] := by unfold own1; rw [ha]; dsimp only; rw [if_pos hkp]
    rw [ho]
    rw [ha] at ca
    rw [decide_eq_true hkp] at ca
    obtain ⟨s, ps, k3, p3, m3, n3, l3⟩ := a
    simp only [Option.map_some, Option.getD_some, Option.isSome_some, Bool.and_self, alV_mk] at ca
    dsimp only
    obtain ⟨v, H2, x1, x2, x3, x4⟩ := no_add (n := h.length) (H := h ++ [.vars [.int k, .str (txt p), .str (txt m), .int n, .slc false (ks.map tmV)], .vars [.val (.string (txt s)), .slc false (ps.map sV), .int k3, .str (txt p3), .str (txt m3), .int n3, .slc false (l3.map tmV)]]) (nv := .slc true []) (acc := []) (.inl ⟨rfl, rfl⟩) (by simp) [s] (by simp)
    have hg2 : hget H2 h.length = .vars [.int k, .str (txt p), .str (txt m), .int n, .slc false (ks.map tmV)] := by
      have := x1 .und
      rw [show ([s] : List Nm).map sV = [sV s] from rfl, appT_slc _ _ _ _ _ rfl rfl (by simp) (by simp)] at this
      cases this
      rw [hget_app _ (by simp)]
      exact sb_get0 _ _ rfl
    rw [List.take_append_of_le_length (Nat.le_refl _), List.take_length] at x3
    obtain ⟨nv', H', e, y1, y2, y3⟩ := nm_loop ks (by omega) hks hQ h P hT ks 0 H2 v ([] ++ [s]) (by simp) (by omega) (by omega) (by simp; omega) x3 x4 x2
    simp only [Int.natCast_zero] at e
    refine ⟨nv', H', ?_, y1, y3⟩
    change ∀ z, appT _ _ _ (some [sV s]) = _ at x1
    rw [aval_of Try.func32 body32 Try.results32 Try.ntmps32 ok32]
    simp (implicitDefEqProofs := false) (disch := first | omega | exact List.length_set) only [go_sem, Nat.reduceAdd, Nat.reduceSub, Nat.reduceMul, Nat.reduceLT, Nat.reduceLeDiff, Nat.reduceEqDiff, List.drop_zero, List.take_succ_cons, List.take_zero, List.drop_succ_cons, Bool.and_true, Bool.true_and, Bool.and_false, Bool.false_and, BitVec.reduceOfInt, Nat.zero_add, Nat.mul_one, Nat.add_zero, Int.zero_add, Int.reduceToNat, Nat.reducePow, ↓reduceIte, reduceCtorEq, Int.reduceLE, Int.reduceLT, Int.reduceEq, Int.reduceNe, Int.reduceAdd, Int.reduceSub, Int.reduceMul, Int.reduceNeg, Nat.reduceBEq, show regOf Try.f32 0 = Code.region _ _ _ from rfl, show regOf Try.f32 1 = Code.region _ _ _ from rfl, show regOf Try.f32 2 = Code.region _ _ _ from rfl, show regOf Try.f32 3 = Code.region _ _ _ from rfl, show regOf Try.f32 4 = Code.region _ _ _ from rfl, show regOf Try.f32 5 = Code.region _ _ _ from rfl, show regOf Try.f32 10 = Code.region _ _ _ from rfl, List.length_map, hget_last, set_last, ca, Option.map_some, List.append_assoc, List.cons_append, List.nil_append, List.length_append, List.length_cons, List.length_nil, sb_get0, sb_get1, sb_set0, sb_set1, x1, hg2, e]
  · have hnm : own1 P k p m = [] := by
      unfold own1
      cases hm : mg P m with
      | none => rfl
      | some a => dsimp only; rw [if_neg (fun h => hc ⟨h, a, hm⟩)]
    have hb : (decide (k = 2 ∧ p = []) && (mg P m).isSome) = false := by
      cases hm : mg P m with
      | none => simp
      | some a => rw [decide_eq_false (fun h => hc ⟨h, a, hm⟩)]; rfl
    rw [hnm]
    rw [hb] at ca
    have hv : ∃ c0 c1 c2 c3 c4 c5 c6, ((mg P m).map alV).getD zA = .agg [c0, c1, c2, c3, c4, c5, c6] := by
      cases mg P m with
      | none => exact ⟨_, _, _, _, _, _, _, rfl⟩
      | some a => exact ⟨_, _, _, _, _, _, _, rfl⟩
    obtain ⟨c0, c1, c2, c3, c4, c5, c6, hv⟩ := hv
    rw [hv] at ca
    obtain ⟨nv', H', e, y1, y2, y3⟩ := nm_loop ks (by omega) hks hQ h P hT ks 0 (h ++ [.vars [.int k, .str (txt p), .str (txt m), .int n, .slc false (ks.map tmV)], .vars [c0, c1, c2, c3, c4, c5, c6]]) (.slc true []) [] (by simp) (by omega) (by omega) (by simp; omega) (List.take_left' rfl) (by simp) (.inl ⟨rfl, rfl⟩)
    simp only [Int.natCast_zero] at e
    refine ⟨nv', H', ?_, y1, y3⟩
    rw [aval_of Try.func32 body32 Try.results32 Try.ntmps32 ok32]
    simp (implicitDefEqProofs := false) (disch := first | omega | exact List.length_set) only [go_sem, Nat.reduceAdd, Nat.reduceSub, Nat.reduceMul, Nat.reduceLT, Nat.reduceLeDiff, Nat.reduceEqDiff, List.drop_zero, List.take_succ_cons, List.take_zero, List.drop_succ_cons, Bool.and_true, Bool.true_and, Bool.and_false, Bool.false_and, BitVec.reduceOfInt, Nat.zero_add, Nat.mul_one, Nat.add_zero, Int.zero_add, Int.reduceToNat, Nat.reducePow, ↓reduceIte, reduceCtorEq, Int.reduceLE, Int.reduceLT, Int.reduceEq, Int.reduceNe, Int.reduceAdd, Int.reduceSub, Int.reduceMul, Int.reduceNeg, Nat.reduceBEq, show regOf Try.f32 0 = Code.region _ _ _ from rfl, show regOf Try.f32 1 = Code.region _ _ _ from rfl, show regOf Try.f32 2 = Code.region _ _ _ from rfl, show regOf Try.f32 3 = Code.region _ _ _ from rfl, show regOf Try.f32 5 = Code.region _ _ _ from rfl, show regOf Try.f32 10 = Code.region _ _ _ from rfl, List.length_map, hget_last, set_last, ca, Option.map_some, List.append_assoc, List.cons_append, List.nil_append, List.length_append, List.length_cons, List.length_nil, sb_get0, sb_get1, sb_set0, sb_set1, e]
mutual
theorem NM_all : ∀ t : Tm, t.fit → NM t
  | ⟨k, p, m, n, ks⟩, hf => by
    rw [Tm.fit] at hf
    exact nm_node k p m n ks hf.2.2.1 (NM_alls ks hf.2.2.2)
theorem NM_alls : ∀ l : List Tm, Tm.fits l → ∀ t ∈ l, NM t
  | [], _, t, h => by cases h
  | a :: r, hf, t, h => by
    rw [Tm.fits] at hf
    rcases List.mem_cons.1 h with h | h
    · rw [h]; exact NM_all a hf.1
    · exact NM_alls r hf.2 t h
end
end Go.Proofs.Ytgijlgdhogbgbaa
namespace Go.Proofs.Ytgijlgdhogbgbaa
open Go Go.Ab Go.Proofs
set_option maxRecDepth 100000
set_option linter.unusedSimpArgs false
set_option linter.unusedVariables false
section
variable {d : Option Tmp} {ty : TypeId} {pos : String} {aft : Array Edge} {g : Option (Nat × Bool)} {env : Env} {md : FuncId → Nat} {P : Program} {h : AHeap}
theorem thenDraw_append (cs : Array Operand) (ts : Array TypeId) (h0 : AHeap) (v : AV) (h' : AHeap) (call : CallF) (k : Env → AHeap → Option (Env × AHeap)) : thenDraw P ⟨d, .call ⟨.builtin .append, cs, ts⟩, ty, pos, aft, g⟩ h0 (some (.value v h')) md call d k env = k (aput env d v) h' := thenDraw_eff _ _ _ _ _ _ rfl
theorem thenDraw_store (t : TypeId) (a x : Operand) (h0 : AHeap) (v : AV) (h' : AHeap) (call : CallF) (k : Env → AHeap → Option (Env × AHeap)) : thenDraw P ⟨d, .store t a x, ty, pos, aft, g⟩ h0 (some (.value v h')) md call d k env = k (aput env d v) h' := thenDraw_eff _ _ _ _ _ _ rfl
theorem thenDraw_mapUpdate (t : TypeId) (a k x : Operand) (h0 : AHeap) (v : AV) (h' : AHeap) (call : CallF) (kk : Env → AHeap → Option (Env × AHeap)) : thenDraw P ⟨d, .mapUpdate t a k x, ty, pos, aft, g⟩ h0 (some (.value v h')) md call d kk env = kk (aput env d v) h' := thenDraw_eff _ _ _ _ _ _ rfl
end
/-- All but arrays stays. -/
def Kp (H H' : AHeap) : Prop := H.length ≤ H'.length ∧ ∀ j o, hget H j = o → o ≠ .dead → (∀ a b c, o ≠ .arr a b c) → hget H' j = o
theorem nl_add {H : AHeap} {nv : AV} {l : List Nm} (h : NL H nv l) (hb : l.length ≤ 100000) (m : Nm) : ∃ v H', (∀ z, appT (some (1, 16, z)) H nv (some [sV m]) = some (v, H')) ∧ NL H' v (l ++ [m]) ∧ Kp H H' ∧ fits 1 v = true ∧ v.cells = [v] := by
  rcases h with ⟨rfl, rfl⟩ | ⟨k, g, rfl, h2⟩
  · refine ⟨_, _, fun z => appT_slc _ _ _ _ _ rfl rfl (by simp) (by simp), .inr ⟨H.length, 0, by simp, by rw [hget_last]; rfl⟩, ⟨by simp, fun j o e h1 h2 => ?_⟩, rfl, rfl⟩
    rw [hget_app _ (hlt_of e h1)]; exact e
  · refine ⟨_, _, fun z => appT_arr _ _ _ _ _ _ _ _ h2 (by simp) rfl (by simp; omega), .inr ⟨k, g + 1, by simp, by rw [hget_set_eq (hlt_of h2 (by simp))]; simp⟩, ⟨by simp, fun j o e h1 h3 => ?_⟩, rfl, rfl⟩
    have hjk : ¬ k = j := by rintro rfl; rw [h2] at e; exact h3 _ _ _ e.symm
    rw [hget_set_ne hjk]; exact e
theorem nl_set {H : AHeap} {nv : AV} {l : List Nm} (h : NL H nv l) {i : Nat} {o o' : AObj} (ho : hget H i = o) (hna : ∀ a b c, o ≠ .arr a b c) : NL (H.set i o') nv l := by
  rcases h with h | ⟨k, g, h1, h2⟩
  · exact .inl h
  · refine .inr ⟨k, g, h1, ?_⟩
    have : ¬ i = k := by rintro rfl; rw [h2] at ho; exact hna _ _ _ ho.symm
    rw [hget_set_ne this]; exact h2
theorem tadd_set {P : MapS Al} {a : Al} (h : (mg P a.nm).isSome = false) : tadd P a = mset P a.nm a := by
  unfold tadd mset
  rw [if_neg (by rw [h]; decide)]
  have h1 : mg P a.nm = none := by cases h2 : mg P a.nm with | none => rfl | some b => rw [h2] at h; cases h
  unfold mg at h1
  rw [Option.map_eq_none_iff] at h1
  rw [h1]
/-- What lies lowest, and the map of sizes, stays. -/
def Lw (c0 c1 : List AV) (H : AHeap) : Prop := hget H 0 = .vars c0 ∧ hget H 1 = .vars c1 ∧ hget H 3 = .map [] 0
theorem lw_app {c0 c1 : List AV} {H : AHeap} (h : Lw c0 c1 H) (j : AHeap) : Lw c0 c1 (H ++ j) := by
  obtain ⟨a, b, c⟩ := h
  exact ⟨by rw [hget_app j (hlt_of a (by simp))]; exact a, by rw [hget_app j (hlt_of b (by simp))]; exact b, by rw [hget_app j (hlt_of c (by simp))]; exact c⟩
theorem lw_kp {c0 c1 : List AV} {H H' : AHeap} (h : Lw c0 c1 H) (k : Kp H H') : Lw c0 c1 H' := ⟨k.2 0 _ h.1 (by simp) (by simp), k.2 1 _ h.2.1 (by simp) (by simp), k.2 3 _ h.2.2 (by simp) (by simp)⟩
theorem lw_set {c0 c1 : List AV} {H : AHeap} (h : Lw c0 c1 H) {i : Nat} (o : AObj) (hi : i = 2 ∨ i = 4) : Lw c0 c1 (H.set i o) := by
  obtain ⟨a, b, c⟩ := h
  exact ⟨by rw [hget_set_ne (by omega)]; exact a, by rw [hget_set_ne (by omega)]; exact b, by rw [hget_set_ne (by omega)]; exact c⟩
theorem cells_mp (i : Nat) : (AV.mp i).cells = [AV.mp i] := rfl
theorem okVal_mp (i : Nat) : okVal (AV.mp i) = true := rfl
set_option maxHeartbeats 8000000 in
theorem made_loop (al : List Al) (hal : al.length ≤ 1000) : ∀ (r : List Al) (i : Nat) (H : AHeap) (P : MapS Al), al.drop i = r → i ≤ al.length → Tb H P → (keys P).length ≤ i → 4 < H.length → ∀ (c0 c1 : List AV), Lw c0 c1 H → ∃ H',
    lrun Try.prog md fg (fg 26) (loopOf Try.f26 0) (fg 26 1) ((.unk :: .unk :: .unk :: (.ptr 4 0) :: .unk :: .unk :: .unk :: .unk :: .unk :: .unk :: .unk :: .unk :: (.slc false (al.map alV)) :: (.int al.length) :: (.int i) :: .unk :: .unk :: .unk :: .unk :: .unk :: .unk :: .unk :: .unk :: .unk :: .unk :: .unk :: .unk :: .unk :: .unk :: .unk :: .unk :: .unk :: .unk :: .unk :: .unk :: .unk :: .unk :: .unk :: .unk :: .unk :: .unk :: .unk :: .unk :: .unk :: .unk :: .unk :: .unk :: .unk :: .unk :: .unk :: [] : List AV)) H = some (.exit 0, (.unk :: .unk :: .unk :: (.ptr 4 0) :: .unk :: .unk :: .unk :: .unk :: .unk :: .unk :: .unk :: .unk :: (.slc false (al.map alV)) :: (.int al.length) :: (.int al.length) :: .unk :: .unk :: .unk :: .unk :: .unk :: .unk :: .unk :: .unk :: .unk :: .unk :: .unk :: .unk :: .unk :: .unk :: .unk :: .unk :: .unk :: .unk :: .unk :: .unk :: .unk :: .unk :: .unk :: .unk :: .unk :: .unk :: .unk :: .unk :: .unk :: .unk :: .unk :: .unk :: .unk :: .unk :: .unk :: [] : List AV), H') ∧ Tb H' (r.foldl tadd P) ∧ 4 < H'.length ∧ Lw c0 c1 H'
  | [], i, H, P, hdr, hi, hT, hk, hl2, c0, c1, hw => by
    have : i = al.length := by have := congrArg List.length hdr; simp at this; omega
    subst this
    refine ⟨H, ?_, hT, hl2, hw⟩
    rw [lrun_atC loop26_0]
    simp (implicitDefEqProofs := false) (disch := omega) only [go_sem, Nat.reduceAdd, Nat.reduceSub, Nat.reduceMul, Nat.reduceLT, Nat.reduceLeDiff, Nat.reduceEqDiff, List.drop_zero, List.take_succ_cons, List.take_zero, List.drop_succ_cons, Bool.and_true, Bool.true_and, Bool.and_false, Bool.false_and, BitVec.reduceOfInt, Nat.zero_add, Nat.mul_one, Nat.add_zero, Int.zero_add, Int.reduceToNat, Nat.reducePow, ↓reduceIte, reduceCtorEq, Int.reduceLE, Int.reduceLT, Int.reduceEq, Int.reduceNe, Int.reduceAdd, Int.reduceSub, Int.reduceMul, Int.reduceNeg, Nat.reduceBEq, show regOf Try.f26 3 = Code.region _ _ _ from rfl]
  | ⟨s, ps, k2, p2, m2, n2, l2⟩ :: r, i, H, P, hdr, hi, hT, hk, hl2, d0, d1, hw => by
    have hx : al[i]? = some ⟨s, ps, k2, p2, m2, n2, l2⟩ := by have := congrArg (·[0]?) hdr; simpa using this
    have hlt : i < al.length := (List.getElem?_eq_some_iff.1 hx).1
    have hd' : al.drop (i + 1) = r := by rw [← List.tail_drop, hdr]; rfl
    have ht : ((i : Int)).toNat = i := by omega
    rw [List.foldl_cons]
    have hv : ∃ c0 c1 c2 c3 c4 c5 c6, ((mg P s).map alV).getD zA = .agg [c0, c1, c2, c3, c4, c5, c6] := by
      cases mg P s with
      | none => exact ⟨_, _, _, _, _, _, _, rfl⟩
      | some a => exact ⟨_, _, _, _, _, _, _, rfl⟩
    obtain ⟨c0, c1, c2, c3, c4, c5, c6, hv⟩ := hv
    have lk := fun l => (look_m alV tmap_63 tzero_38 (tb_app hT l).1 s).1
    simp only [hv] at lk
    have hT0 := hT
    obtain ⟨t0, nv, t2, t3⟩ := hT
    have g0 : ∀ l, hget (H ++ l) 2 = .map (encM alV P.1) P.2 := fun l => by rw [hget_app l (hlt_of t0 (by simp))]; exact t0
    have g2 : ∀ l, hget (H ++ l) 4 = .vars [.mp 2, nv, .mp 3] := fun l => by rw [hget_app l (hlt_of t2 (by simp))]; exact t2
    cases hs : (mg P s).isSome with
    | true =>
      have hta : tadd P ⟨s, ps, k2, p2, m2, n2, l2⟩ = P := by unfold tadd; rw [if_pos hs]
      rw [hta]
      rw [hs] at lk
      obtain ⟨H', e, y1, y2, y3⟩ := made_loop al hal r (i + 1) (H ++ [.vars [.val (.string (txt s)), .slc false (ps.map sV), .int k2, .str (txt p2), .str (txt m2), .int n2, .slc false (l2.map tmV)], .vars [c0, c1, c2, c3, c4, c5, c6]]) P hd' (by omega) (tb_app hT0 _) (by omega) (by simp; omega) d0 d1 (lw_app hw _)
      refine ⟨H', ?_, y1, y2, y3⟩
      rw [← e]
      rw [lrun_atC loop26_0]
      simp (implicitDefEqProofs := false) (disch := first | omega | exact List.length_set) only [go_sem, Nat.reduceAdd, Nat.reduceSub, Nat.reduceMul, Nat.reduceLT, Nat.reduceLeDiff, Nat.reduceEqDiff, List.drop_zero, List.take_succ_cons, List.take_zero, List.drop_succ_cons, Bool.and_true, Bool.true_and, Bool.and_false, Bool.false_and, BitVec.reduceOfInt, Nat.zero_add, Nat.mul_one, Nat.add_zero, Int.zero_add, Int.reduceToNat, Nat.reducePow, ↓reduceIte, reduceCtorEq, Int.reduceLE, Int.reduceLT, Int.reduceEq, Int.reduceNe, Int.reduceAdd, Int.reduceSub, Int.reduceMul, Int.reduceNeg, Nat.reduceBEq, show regOf Try.f26 3 = Code.region _ _ _ from rfl, show regOf Try.f26 4 = Code.region _ _ _ from rfl, show regOf Try.f26 5 = Code.region _ _ _ from rfl, show regOf Try.f26 6 = Code.region _ _ _ from rfl, show regOf Try.f26 9 = Code.region _ _ _ from rfl, ↓tail_nil, ↓subs_nil_all, ↓List.forall_mem_cons, ↓all_nil, Bool.true_or, subs_two, List.tail_cons, killAt_nil, killAt_cons, aop_lookup, lk, Option.map_some, List.append_assoc, List.cons_append, List.nil_append, List.length_append, List.length_cons, List.length_nil, sb_get0, sb_get1, sb_get2, sb_set0, sb_set1, sb_set2, g2, List.length_map, List.getElem?_map, ht, hx, alV_mk]
      all_goals (congr 1 <;> simp only [List.cons.injEq, AV.val.injEq, Value.int.injEq, Value.bool.injEq, true_and, and_true] <;> omega)
    | false =>
      have hta := tadd_set (P := P) (a := ⟨s, ps, k2, p2, m2, n2, l2⟩) hs
      have hnk : s ∉ keys P := fun h => by rw [(mg_isSome P s).2 h] at hs; cases hs
      have hkn := keys_new (P := P) (a := ⟨s, ps, k2, p2, m2, n2, l2⟩) hnk
      rw [hs] at lk
      have mu := fun l => put_m alV ok_al tmap_63 (g0 l) s ⟨s, ps, k2, p2, m2, n2, l2⟩
      rw [← hta] at mu
      simp only [alV_mk] at mu
      have q2 : ∀ l o, hget ((H ++ l).set 2 o) 4 = .vars [.mp 2, nv, .mp 3] := fun l o => by rw [hget_set_ne (by decide)]; exact g2 l
      have qn : ∀ l o, hget ((H ++ l).set 2 o) H.length = hget (H ++ l) H.length := fun l o => hget_set_ne (by omega)
      obtain ⟨v, H1, x1, x2, x3, x4, x5⟩ := nl_add (nl_set (nl_app t3 [.vars [.val (.string (txt s)), .slc false (ps.map sV), .int k2, .str (txt p2), .str (txt m2), .int n2, .slc false (l2.map tmV)], .vars [c0, c1, c2, c3, c4, c5, c6]]) (o' := .map (encM alV (tadd P ⟨s, ps, k2, p2, m2, n2, l2⟩).1) (tadd P ⟨s, ps, k2, p2, m2, n2, l2⟩).2) (g0 _) (by simp)) (by omega) s
      have z2 : hget H1 4 = .vars [.mp 2, nv, .mp 3] := x3.2 4 _ (q2 _ _) (by simp) (by simp)
      have z0 : hget H1 2 = .map (encM alV (tadd P ⟨s, ps, k2, p2, m2, n2, l2⟩).1) (tadd P ⟨s, ps, k2, p2, m2, n2, l2⟩).2 := x3.2 2 _ (hget_set_eq (by simp; omega)) (by simp) (by simp)
      have hl1 : 4 < H1.length := hlt_of z2 (by simp)
      have hT1 : Tb (H1.set 4 (.vars [.mp 2, v, .mp 3])) (tadd P ⟨s, ps, k2, p2, m2, n2, l2⟩) := by
        refine ⟨by rw [hget_set_ne (by decide)]; exact z0, v, hget_set_eq hl1, ?_⟩
        rw [hkn]; exact nl_set x2 z2 (by simp)
      obtain ⟨H', e, y1, y2, y3⟩ := made_loop al hal r (i + 1) (H1.set 4 (.vars [.mp 2, v, .mp 3])) (tadd P ⟨s, ps, k2, p2, m2, n2, l2⟩) hd' (by omega) hT1 (by rw [hkn]; simp; omega) (by simp; omega) d0 d1 (lw_set (lw_kp (lw_set (lw_app hw _) _ (.inl rfl)) x3) _ (.inr rfl))
      refine ⟨H', ?_, y1, y2, y3⟩
      rw [← e]
      rw [lrun_atC loop26_0]
      simp (implicitDefEqProofs := false) (disch := first | omega | exact List.length_set) only [go_sem, Nat.reduceAdd, Nat.reduceSub, Nat.reduceMul, Nat.reduceLT, Nat.reduceLeDiff, Nat.reduceEqDiff, List.drop_zero, List.take_succ_cons, List.take_zero, List.drop_succ_cons, Bool.and_true, Bool.true_and, Bool.and_false, Bool.false_and, BitVec.reduceOfInt, Nat.zero_add, Nat.mul_one, Nat.add_zero, Int.zero_add, Int.reduceToNat, Nat.reducePow, ↓reduceIte, reduceCtorEq, Int.reduceLE, Int.reduceLT, Int.reduceEq, Int.reduceNe, Int.reduceAdd, Int.reduceSub, Int.reduceMul, Int.reduceNeg, Nat.reduceBEq, show regOf Try.f26 3 = Code.region _ _ _ from rfl, show regOf Try.f26 4 = Code.region _ _ _ from rfl, show regOf Try.f26 5 = Code.region _ _ _ from rfl, show regOf Try.f26 6 = Code.region _ _ _ from rfl, show regOf Try.f26 7 = Code.region _ _ _ from rfl, show regOf Try.f26 8 = Code.region _ _ _ from rfl, show regOf Try.f26 9 = Code.region _ _ _ from rfl, ↓tail_nil, ↓subs_nil_all, ↓List.forall_mem_cons, ↓all_nil, Bool.true_or, subs_two, List.tail_cons, killAt_nil, killAt_cons, aop_lookup, aop_mapUpdate, lk, mu, thenDraw_append, thenDraw_store, thenDraw_mapUpdate, Option.map_some, List.append_assoc, List.cons_append, List.nil_append, List.length_append, List.length_cons, List.length_nil, sb_get0, sb_get1, sb_get2, sb_set0, sb_set1, sb_set2, g2, q2, qn, x1, x4, x5, z2, List.length_map, List.getElem?_map, ht, hx, alV_mk]
      all_goals (congr 1 <;> simp only [List.cons.injEq, AV.val.injEq, Value.int.injEq, Value.bool.injEq, true_and, and_true] <;> omega)
theorem made_p (al : List Al) (hal : al.length ≤ 1000) : ∀ (c0 c1 : List AV), ∃ H, aval Try.prog md fg 26 [.slc false (al.map alV)] [.vars c0, .vars c1] = some (.ptr 4 0, H) ∧ Tb H (tbl al) ∧ 4 < H.length ∧ Lw c0 c1 H := by
  intro c0 c1
  obtain ⟨H', e, y1, y2, y3⟩ := made_loop al hal al 0 [.vars c0, .vars c1, .map [] 0, .map [] 0, .vars [.mp 2, .slc true [], .mp 3]] ([], 0) (by simp) (by omega) ⟨rfl, _, rfl, .inl ⟨rfl, rfl⟩⟩ (Nat.le_refl _) (by simp) c0 c1 ⟨rfl, rfl, rfl⟩
  simp only [Int.natCast_zero] at e
  refine ⟨H', ?_, y1, y2, y3⟩
  rw [aval_of Try.func26 body26 Try.results26 Try.ntmps26 ok26]
  simp (implicitDefEqProofs := false) (disch := first | omega | exact List.length_set) only [go_sem, Nat.reduceAdd, Nat.reduceSub, Nat.reduceMul, Nat.reduceLT, Nat.reduceLeDiff, Nat.reduceEqDiff, List.drop_zero, List.take_succ_cons, List.take_zero, List.drop_succ_cons, Bool.and_true, Bool.true_and, Bool.and_false, Bool.false_and, BitVec.reduceOfInt, Nat.zero_add, Nat.mul_one, Nat.add_zero, Int.zero_add, Int.reduceToNat, Nat.reducePow, ↓reduceIte, reduceCtorEq, Int.reduceLE, Int.reduceLT, Int.reduceEq, Int.reduceNe, Int.reduceAdd, Int.reduceSub, Int.reduceMul, Int.reduceNeg, Nat.reduceBEq, show regOf Try.f26 0 = Code.region _ _ _ from rfl, show regOf Try.f26 1 = Code.region _ _ _ from rfl, show regOf Try.f26 2 = Code.region _ _ _ from rfl, show regOf Try.f26 10 = Code.region _ _ _ from rfl, aop_makeMap0, isMapT_63, isMapT_64, cells_mp, okVal_mp, List.cons_append, List.nil_append, List.length_cons, List.length_nil, List.length_map, e]
end Go.Proofs.Ytgijlgdhogbgbaa
namespace Go.Proofs.Ytgijlgdhogbgbaa
open Go Go.Ab Go.Proofs
set_option maxRecDepth 100000
set_option linter.unusedSimpArgs false
set_option linter.unusedVariables false
/-- A call by reference that makes nothing. -/
theorem doCall_same {f : FuncId} {vs : List AV} {h h' : AHeap} {r : AV} (hm : md f = 1) (e : aval Try.prog md fg f vs h = some (r, h')) (hl : h'.length = h.length) : doCall md (aval Try.prog md fg) f vs h = some (r, h') := by
  rw [doCall_0 (by omega)]
  unfold doCall0
  rw [if_neg (by omega), rated_id (by omega), e]
  dsimp only
  split
  · rw [← hl, List.take_length]
  · rfl
/-- A closure asked of names, one behind the other, till it says yes. -/
inductive Runs (f : FuncId) (caps : List AV) (I : AHeap → Prop) : List Nm → Nat → AHeap → Option Nat → AHeap → Prop
  | nil (i : Nat) (h : AHeap) : Runs f caps I [] i h none h
  | stop (n : Nm) (r : List Nm) (i : Nat) (h h' : AHeap) (e : doCall md (aval Try.prog md fg) f (sV n :: caps) h = some (.val (.bool true), h')) (hl : h'.length = h.length) (hI : I h') : Runs f caps I (n :: r) i h (some i) h'
  | next (n : Nm) (r : List Nm) (i : Nat) (h h1 h' : AHeap) (o : Option Nat) (e : doCall md (aval Try.prog md fg) f (sV n :: caps) h = some (.val (.bool false), h1)) (hl : h1.length = h.length) (hI : I h1) (t : Runs f caps I r (i + 1) h1 o h') : Runs f caps I (n :: r) i h o h'
theorem Runs.len {f : FuncId} {caps : List AV} {I : AHeap → Prop} : ∀ {r : List Nm} {i : Nat} {h h' : AHeap} {o : Option Nat}, Runs f caps I r i h o h' → h'.length = h.length
  | _, _, _, _, _, .nil _ _ => rfl
  | _, _, _, _, _, .stop _ _ _ _ _ _ hl _ => hl
  | _, _, _, _, _, .next _ _ _ _ _ _ _ _ hl _ t => (Runs.len t).trans hl
/-- A list of names that can be read. -/
def NV (h : AHeap) (nv : AV) (l : List Nm) : Prop := (∃ b, nv = .slc b (l.map sV)) ∨ ∃ k g, nv = .arr k 0 l.length g 1 ∧ hget h k = .arr 1 (l.map sV) g
theorem nl_nv {h : AHeap} {nv : AV} {l : List Nm} (hn : NL h nv l) : NV h nv l := by
  rcases hn with ⟨rfl, rfl⟩ | h
  · exact .inl ⟨true, rfl⟩
  · exact .inr h
theorem idxf_s (f : FuncId) (caps : List AV) (hc : callable Try.prog f = true) (I : AHeap → Prop) (b : Bool) (l : List Nm) (hl : l.length ≤ 1000000) : ∀ (r : List Nm) (i : Nat) (a4 : AV) (h h' : AHeap) (o : Option Nat), l.drop i = r → i ≤ l.length → Runs f caps I r i h o h' → ∃ (i' : Int) (a' : AV),
    lrun Try.prog md fg (fg 28) (loopOf Try.f28 0) (fg 28 1) ([.slc b (l.map sV), .clo f [] caps, .unk, .unk, a4, .unk, .unk, .int l.length, .int i, .unk, .unk, .unk, .unk, .unk, .unk, .unk, .unk, .unk, .unk]) h = some (match o with | some j => (.ret, [.slc b (l.map sV), .clo f [] caps, .unk, .unk, .int j, .unk, .unk, .int l.length, .int i', .unk, .unk, .unk, .unk, .unk, .unk, .unk, .unk, .unk, .unk], h') | none => (.exit 0, [.slc b (l.map sV), .clo f [] caps, .unk, .unk, a', .unk, .unk, .int l.length, .int i', .unk, .unk, .unk, .unk, .unk, .unk, .unk, .unk, .unk, .unk], h'))
  | [], i, a4, h, h', o, hdr, hi, hR => by
    have : i = l.length := by have := congrArg List.length hdr; simp at this; omega
    subst this
    cases hR
    refine ⟨(l.length : Int), a4, ?_⟩
    dsimp only
    rw [lrun_atC loop28_0]
    simp (implicitDefEqProofs := false) (disch := omega) only [go_sem, Nat.reduceAdd, Nat.reduceSub, Nat.reduceMul, Nat.reduceLT, Nat.reduceLeDiff, Nat.reduceEqDiff, List.drop_zero, List.take_succ_cons, List.take_zero, List.drop_succ_cons, Bool.and_true, Bool.true_and, Bool.and_false, Bool.false_and, BitVec.reduceOfInt, Nat.zero_add, Nat.mul_one, Nat.add_zero, Int.zero_add, Int.reduceToNat, Nat.reducePow, ↓reduceIte, reduceCtorEq, Int.reduceLE, Int.reduceLT, Int.reduceEq, Int.reduceNe, Int.reduceAdd, Int.reduceSub, Int.reduceMul, Int.reduceNeg, Nat.reduceBEq, show regOf Try.f28 2 = Code.region _ _ _ from rfl]
  | s :: r, i, a4, h, h', o, hdr, hi, hR => by
    have hx : l[i]? = some s := by have := congrArg (·[0]?) hdr; simpa using this
    have hlt : i < l.length := (List.getElem?_eq_some_iff.1 hx).1
    have hd' : l.drop (i + 1) = r := by rw [← List.tail_drop, hdr]; rfl
    have ht : ((i : Int)).toNat = i := by omega
    cases hR with
    | stop _ _ _ _ _ e hl1 hI =>
      refine ⟨(i : Int), .unk, ?_⟩
      dsimp only
      rw [lrun_atC loop28_0]
      simp (implicitDefEqProofs := false) (disch := omega) only [go_sem, Nat.reduceAdd, Nat.reduceSub, Nat.reduceMul, Nat.reduceLT, Nat.reduceLeDiff, Nat.reduceEqDiff, List.drop_zero, List.take_succ_cons, List.take_zero, List.drop_succ_cons, Bool.and_true, Bool.true_and, Bool.and_false, Bool.false_and, BitVec.reduceOfInt, Nat.zero_add, Nat.mul_one, Nat.add_zero, Int.zero_add, Int.reduceToNat, Nat.reducePow, ↓reduceIte, reduceCtorEq, Int.reduceLE, Int.reduceLT, Int.reduceEq, Int.reduceNe, Int.reduceAdd, Int.reduceSub, Int.reduceMul, Int.reduceNeg, Nat.reduceBEq, show regOf Try.f28 2 = Code.region _ _ _ from rfl, show regOf Try.f28 3 = Code.region _ _ _ from rfl, show regOf Try.f28 4 = Code.region _ _ _ from rfl, show regOf Try.f28 5 = Code.region _ _ _ from rfl, List.getElem?_map, ht, hx, Option.map_some, hc, List.nil_append, List.cons_append, e]
    | next _ _ _ _ h1 _ _ e hl1 hI t =>
      obtain ⟨i', a', e2⟩ := idxf_s f caps hc I b l hl r (i + 1) a4 h1 h' o hd' (by omega) t
      refine ⟨i', a', ?_⟩
      rw [← e2]
      rw [lrun_atC loop28_0]
      simp (implicitDefEqProofs := false) (disch := omega) only [go_sem, Nat.reduceAdd, Nat.reduceSub, Nat.reduceMul, Nat.reduceLT, Nat.reduceLeDiff, Nat.reduceEqDiff, List.drop_zero, List.take_succ_cons, List.take_zero, List.drop_succ_cons, Bool.and_true, Bool.true_and, Bool.and_false, Bool.false_and, BitVec.reduceOfInt, Nat.zero_add, Nat.mul_one, Nat.add_zero, Int.zero_add, Int.reduceToNat, Nat.reducePow, ↓reduceIte, reduceCtorEq, Int.reduceLE, Int.reduceLT, Int.reduceEq, Int.reduceNe, Int.reduceAdd, Int.reduceSub, Int.reduceMul, Int.reduceNeg, Nat.reduceBEq, show regOf Try.f28 2 = Code.region _ _ _ from rfl, show regOf Try.f28 3 = Code.region _ _ _ from rfl, show regOf Try.f28 4 = Code.region _ _ _ from rfl, show regOf Try.f28 6 = Code.region _ _ _ from rfl, List.getElem?_map, ht, hx, Option.map_some, hc, List.nil_append, List.cons_append, e]
      all_goals (congr 1 <;> simp only [List.cons.injEq, AV.val.injEq, Value.int.injEq, Value.bool.injEq, true_and, and_true] <;> omega)
theorem idxf_a (f : FuncId) (caps : List AV) (hc : callable Try.prog f = true) (k g : Nat) (l : List Nm) (I : AHeap → Prop) (hIk : ∀ h, I h → hget h k = .arr 1 (l.map sV) g) (hl : l.length ≤ 1000000) : ∀ (r : List Nm) (i : Nat) (a4 : AV) (h h' : AHeap) (o : Option Nat), l.drop i = r → i ≤ l.length → I h → Runs f caps I r i h o h' → ∃ (i' : Int) (a' : AV),
    lrun Try.prog md fg (fg 28) (loopOf Try.f28 0) (fg 28 1) ([.arr k 0 l.length g 1, .clo f [] caps, .unk, .unk, a4, .unk, .unk, .int l.length, .int i, .unk, .unk, .unk, .unk, .unk, .unk, .unk, .unk, .unk, .unk]) h = some (match o with | some j => (.ret, [.arr k 0 l.length g 1, .clo f [] caps, .unk, .unk, .int j, .unk, .unk, .int l.length, .int i', .unk, .unk, .unk, .unk, .unk, .unk, .unk, .unk, .unk, .unk], h') | none => (.exit 0, [.arr k 0 l.length g 1, .clo f [] caps, .unk, .unk, a', .unk, .unk, .int l.length, .int i', .unk, .unk, .unk, .unk, .unk, .unk, .unk, .unk, .unk, .unk], h'))
  | [], i, a4, h, h', o, hdr, hi, hI0, hR => by
    have : i = l.length := by have := congrArg List.length hdr; simp at this; omega
    subst this
    cases hR
    refine ⟨(l.length : Int), a4, ?_⟩
    dsimp only
    rw [lrun_atC loop28_0]
    simp (implicitDefEqProofs := false) (disch := omega) only [go_sem, Nat.reduceAdd, Nat.reduceSub, Nat.reduceMul, Nat.reduceLT, Nat.reduceLeDiff, Nat.reduceEqDiff, List.drop_zero, List.take_succ_cons, List.take_zero, List.drop_succ_cons, Bool.and_true, Bool.true_and, Bool.and_false, Bool.false_and, BitVec.reduceOfInt, Nat.zero_add, Nat.mul_one, Nat.add_zero, Int.zero_add, Int.reduceToNat, Nat.reducePow, ↓reduceIte, reduceCtorEq, Int.reduceLE, Int.reduceLT, Int.reduceEq, Int.reduceNe, Int.reduceAdd, Int.reduceSub, Int.reduceMul, Int.reduceNeg, Nat.reduceBEq, show regOf Try.f28 2 = Code.region _ _ _ from rfl]
  | s :: r, i, a4, h, h', o, hdr, hi, hI0, hR => by
    have hx : l[i]? = some s := by have := congrArg (·[0]?) hdr; simpa using this
    have hlt : i < l.length := (List.getElem?_eq_some_iff.1 hx).1
    have hd' : l.drop (i + 1) = r := by rw [← List.tail_drop, hdr]; rfl
    have ht : ((i : Int)).toNat = i := by omega
    have hk := hIk h hI0
    cases hR with
    | stop _ _ _ _ _ e hl1 hI =>
      refine ⟨(i : Int), .unk, ?_⟩
      dsimp only
      rw [lrun_atC loop28_0]
      simp (implicitDefEqProofs := false) (disch := omega) only [go_sem, Nat.reduceAdd, Nat.reduceSub, Nat.reduceMul, Nat.reduceLT, Nat.reduceLeDiff, Nat.reduceEqDiff, List.drop_zero, List.take_succ_cons, List.take_zero, List.drop_succ_cons, Bool.and_true, Bool.true_and, Bool.and_false, Bool.false_and, BitVec.reduceOfInt, Nat.zero_add, Nat.mul_one, Nat.add_zero, Int.zero_add, Int.reduceToNat, Nat.reducePow, ↓reduceIte, reduceCtorEq, Int.reduceLE, Int.reduceLT, Int.reduceEq, Int.reduceNe, Int.reduceAdd, Int.reduceSub, Int.reduceMul, Int.reduceNeg, Nat.reduceBEq, show regOf Try.f28 2 = Code.region _ _ _ from rfl, show regOf Try.f28 3 = Code.region _ _ _ from rfl, show regOf Try.f28 4 = Code.region _ _ _ from rfl, show regOf Try.f28 5 = Code.region _ _ _ from rfl, List.getElem?_map, ht, hx, hk, Option.map_some, hc, List.nil_append, List.cons_append, e]
    | next _ _ _ _ h1 _ _ e hl1 hI t =>
      obtain ⟨i', a', e2⟩ := idxf_a f caps hc k g l I hIk hl r (i + 1) a4 h1 h' o hd' (by omega) hI t
      refine ⟨i', a', ?_⟩
      rw [← e2]
      rw [lrun_atC loop28_0]
      simp (implicitDefEqProofs := false) (disch := omega) only [go_sem, Nat.reduceAdd, Nat.reduceSub, Nat.reduceMul, Nat.reduceLT, Nat.reduceLeDiff, Nat.reduceEqDiff, List.drop_zero, List.take_succ_cons, List.take_zero, List.drop_succ_cons, Bool.and_true, Bool.true_and, Bool.and_false, Bool.false_and, BitVec.reduceOfInt, Nat.zero_add, Nat.mul_one, Nat.add_zero, Int.zero_add, Int.reduceToNat, Nat.reducePow, ↓reduceIte, reduceCtorEq, Int.reduceLE, Int.reduceLT, Int.reduceEq, Int.reduceNe, Int.reduceAdd, Int.reduceSub, Int.reduceMul, Int.reduceNeg, Nat.reduceBEq, show regOf Try.f28 2 = Code.region _ _ _ from rfl, show regOf Try.f28 3 = Code.region _ _ _ from rfl, show regOf Try.f28 4 = Code.region _ _ _ from rfl, show regOf Try.f28 6 = Code.region _ _ _ from rfl, List.getElem?_map, ht, hx, hk, Option.map_some, hc, List.nil_append, List.cons_append, e]
      all_goals (congr 1 <;> simp only [List.cons.injEq, AV.val.injEq, Value.int.injEq, Value.bool.injEq, true_and, and_true] <;> omega)
def oI (o : Option Nat) : Int := match o with | some j => (j : Int) | none => -1
theorem idxf_c (f : FuncId) (caps : List AV) (hc : callable Try.prog f = true) (I : AHeap → Prop) (nv : AV) (l : List Nm) (hIk : ∀ h, I h → NV h nv l) (hl : l.length ≤ 1000000) (h h' : AHeap) (o : Option Nat) (hI : I h) (hR : Runs f caps I l 0 h o h') : doCall md (aval Try.prog md fg) 28 [nv, .clo f [] caps] h = some (.int (oI o), h') := by
  refine doCall_same md28 ?_ hR.len
  have key : (∃ b, nv = .slc b (l.map sV)) ∨ ∃ k g, nv = .arr k 0 l.length g 1 ∧ ∀ h, I h → hget h k = .arr 1 (l.map sV) g := by
    rcases hIk h hI with h1 | ⟨k, g, rfl, h2⟩
    · exact .inl h1
    · refine .inr ⟨k, g, rfl, fun h hI => ?_⟩
      rcases hIk h hI with ⟨b, h1⟩ | ⟨k', g', h1, h2⟩
      · cases h1
      · simp only [AV.arr.injEq, true_and, and_true] at h1
        obtain ⟨rfl, rfl⟩ := h1
        exact h2
  rcases key with ⟨b, rfl⟩ | ⟨k, g, rfl, hk⟩
  · obtain ⟨i', a', e⟩ := idxf_s f caps hc I b l hl l 0 (.int 0) h h' o (by simp) (by omega) hR
    simp only [Int.natCast_zero] at e
    rw [aval_of Try.func28 body28 Try.results28 Try.ntmps28 ok28]
    cases o with
    | none =>
      dsimp only at e
      simp (implicitDefEqProofs := false) (disch := omega) only [go_sem, Nat.reduceAdd, Nat.reduceSub, Nat.reduceMul, Nat.reduceLT, Nat.reduceLeDiff, Nat.reduceEqDiff, List.drop_zero, List.take_succ_cons, List.take_zero, List.drop_succ_cons, Bool.and_true, Bool.true_and, Bool.and_false, Bool.false_and, BitVec.reduceOfInt, Nat.zero_add, Nat.mul_one, Nat.add_zero, Int.zero_add, Int.reduceToNat, Nat.reducePow, ↓reduceIte, reduceCtorEq, Int.reduceLE, Int.reduceLT, Int.reduceEq, Int.reduceNe, Int.reduceAdd, Int.reduceSub, Int.reduceMul, Int.reduceNeg, Nat.reduceBEq, show regOf Try.f28 0 = Code.region _ _ _ from rfl, show regOf Try.f28 1 = Code.region _ _ _ from rfl, show regOf Try.f28 7 = Code.region _ _ _ from rfl, List.length_map, e, oI]
    | some j =>
      dsimp only at e
      simp (implicitDefEqProofs := false) (disch := omega) only [go_sem, Nat.reduceAdd, Nat.reduceSub, Nat.reduceMul, Nat.reduceLT, Nat.reduceLeDiff, Nat.reduceEqDiff, List.drop_zero, List.take_succ_cons, List.take_zero, List.drop_succ_cons, Bool.and_true, Bool.true_and, Bool.and_false, Bool.false_and, BitVec.reduceOfInt, Nat.zero_add, Nat.mul_one, Nat.add_zero, Int.zero_add, Int.reduceToNat, Nat.reducePow, ↓reduceIte, reduceCtorEq, Int.reduceLE, Int.reduceLT, Int.reduceEq, Int.reduceNe, Int.reduceAdd, Int.reduceSub, Int.reduceMul, Int.reduceNeg, Nat.reduceBEq, show regOf Try.f28 0 = Code.region _ _ _ from rfl, show regOf Try.f28 1 = Code.region _ _ _ from rfl, List.length_map, e, oI]
  · obtain ⟨i', a', e⟩ := idxf_a f caps hc k g l I hk hl l 0 (.int 0) h h' o (by simp) (by omega) hI hR
    simp only [Int.natCast_zero] at e
    rw [aval_of Try.func28 body28 Try.results28 Try.ntmps28 ok28]
    cases o with
    | none =>
      dsimp only at e
      simp (implicitDefEqProofs := false) (disch := omega) only [go_sem, Nat.reduceAdd, Nat.reduceSub, Nat.reduceMul, Nat.reduceLT, Nat.reduceLeDiff, Nat.reduceEqDiff, List.drop_zero, List.take_succ_cons, List.take_zero, List.drop_succ_cons, Bool.and_true, Bool.true_and, Bool.and_false, Bool.false_and, BitVec.reduceOfInt, Nat.zero_add, Nat.mul_one, Nat.add_zero, Int.zero_add, Int.reduceToNat, Nat.reducePow, ↓reduceIte, reduceCtorEq, Int.reduceLE, Int.reduceLT, Int.reduceEq, Int.reduceNe, Int.reduceAdd, Int.reduceSub, Int.reduceMul, Int.reduceNeg, Nat.reduceBEq, show regOf Try.f28 0 = Code.region _ _ _ from rfl, show regOf Try.f28 1 = Code.region _ _ _ from rfl, show regOf Try.f28 7 = Code.region _ _ _ from rfl, List.length_map, e, oI]
    | some j =>
      dsimp only at e
      simp (implicitDefEqProofs := false) (disch := omega) only [go_sem, Nat.reduceAdd, Nat.reduceSub, Nat.reduceMul, Nat.reduceLT, Nat.reduceLeDiff, Nat.reduceEqDiff, List.drop_zero, List.take_succ_cons, List.take_zero, List.drop_succ_cons, Bool.and_true, Bool.true_and, Bool.and_false, Bool.false_and, BitVec.reduceOfInt, Nat.zero_add, Nat.mul_one, Nat.add_zero, Int.zero_add, Int.reduceToNat, Nat.reducePow, ↓reduceIte, reduceCtorEq, Int.reduceLE, Int.reduceLT, Int.reduceEq, Int.reduceNe, Int.reduceAdd, Int.reduceSub, Int.reduceMul, Int.reduceNeg, Nat.reduceBEq, show regOf Try.f28 0 = Code.region _ _ _ from rfl, show regOf Try.f28 1 = Code.region _ _ _ from rfl, List.length_map, e, oI]
theorem conf_c (f : FuncId) (caps : List AV) (hc : callable Try.prog f = true) (I : AHeap → Prop) (nv : AV) (l : List Nm) (hIk : ∀ h, I h → NV h nv l) (hl : l.length ≤ 1000000) (h h' : AHeap) (o : Option Nat) (hI : I h) (hR : Runs f caps I l 0 h o h') : doCall md (aval Try.prog md fg) 31 [nv, .clo f [] caps] h = some (.val (.bool o.isSome), h') := by
  refine doCall_same md31 ?_ hR.len
  have c := idxf_c f caps hc I nv l hIk hl h h' o hI hR
  rw [aval_of Try.func31 body31 Try.results31 Try.ntmps31 ok31]
  cases o with
  | none =>
    simp only [oI] at c
    simp (implicitDefEqProofs := false) (disch := omega) only [go_sem, Nat.reduceAdd, Nat.reduceSub, Nat.reduceMul, Nat.reduceLT, Nat.reduceLeDiff, Nat.reduceEqDiff, List.drop_zero, List.take_succ_cons, List.take_zero, List.drop_succ_cons, Bool.and_true, Bool.true_and, Bool.and_false, Bool.false_and, BitVec.reduceOfInt, Nat.zero_add, Nat.mul_one, Nat.add_zero, Int.zero_add, Int.reduceToNat, Nat.reducePow, ↓reduceIte, reduceCtorEq, Int.reduceLE, Int.reduceLT, Int.reduceEq, Int.reduceNe, Int.reduceAdd, Int.reduceSub, Int.reduceMul, Int.reduceNeg, Nat.reduceBEq, show regOf Try.f31 0 = Code.region _ _ _ from rfl, show regOf Try.f31 1 = Code.region _ _ _ from rfl, c, Option.isSome_none]
  | some j =>
    simp only [oI] at c
    simp (implicitDefEqProofs := false) (disch := omega) only [go_sem, Nat.reduceAdd, Nat.reduceSub, Nat.reduceMul, Nat.reduceLT, Nat.reduceLeDiff, Nat.reduceEqDiff, List.drop_zero, List.take_succ_cons, List.take_zero, List.drop_succ_cons, Bool.and_true, Bool.true_and, Bool.and_false, Bool.false_and, BitVec.reduceOfInt, Nat.zero_add, Nat.mul_one, Nat.add_zero, Int.zero_add, Int.reduceToNat, Nat.reducePow, ↓reduceIte, reduceCtorEq, Int.reduceLE, Int.reduceLT, Int.reduceEq, Int.reduceNe, Int.reduceAdd, Int.reduceSub, Int.reduceMul, Int.reduceNeg, Nat.reduceBEq, show regOf Try.f31 0 = Code.region _ _ _ from rfl, show regOf Try.f31 1 = Code.region _ _ _ from rfl, c, Option.isSome_some]
end Go.Proofs.Ytgijlgdhogbgbaa
namespace Go.Proofs.Ytgijlgdhogbgbaa
open Go Go.Ab Go.Proofs
set_option maxRecDepth 100000
set_option linter.unusedSimpArgs false
set_option linter.unusedVariables false
theorem sb_get3 {h : AHeap} {n : Nat} (A B C D : AObj) (l : AHeap) (hn : h.length = n) : hget (h ++ A :: B :: C :: D :: l) (n + 3) = D := by
  subst hn; unfold hget; rw [List.getD_eq_getElem?_getD, List.getElem?_append_right (by omega), show h.length + 3 - h.length = 3 by omega]; rfl
theorem fits_mp1 (i : Nat) : fits 1 (AV.mp i) = true := rfl
theorem fits_clo1 (f : FuncId) (a b : List AV) : fits 1 (AV.clo f a b) = true := rfl
theorem cells_clo1 (f : FuncId) (a b : List AV) : (AV.clo f a b).cells = [.clo f a b] := rfl
theorem tzero_3 : tzero Try.prog 3 = some (.int 0) := by kernel_rfl
theorem sb_set3 {h : AHeap} {n : Nat} (A B C D E : AObj) (l : AHeap) (hn : h.length = n) : (h ++ A :: B :: C :: D :: l).set (n + 3) E = h ++ A :: B :: C :: E :: l := by
  subst hn; rw [List.set_append_right _ _ (by omega), show h.length + 3 - h.length = 3 by omega]; rfl
/-- What cyclic has in memory, behind what was there. -/
def capsC (h0 : AHeap) : List AV := [.ptr (h0.length + 2) 0, .ptr h0.length 0, .ptr (h0.length + 3) 0]
def cyM (h0 : AHeap) (s : MapS Int) : AHeap := h0 ++ [.vars [.ptr 4 0], .map (encM AV.int s.1) s.2, .vars [.mp (h0.length + 1)], .vars [.clo 42 [] (capsC h0)]]
theorem cyM_len (h0 : AHeap) (s : MapS Int) : (cyM h0 s).length = h0.length + 4 := by unfold cyM; simp
theorem cyM_tb {h0 : AHeap} {P : MapS Al} (hT : Tb h0 P) (s : MapS Int) : Tb (cyM h0 s) P := tb_app hT _
theorem cyM_0 (h0 : AHeap) (s : MapS Int) : hget (cyM h0 s) h0.length = .vars [.ptr 4 0] := sb_get0 _ _ rfl
theorem cyM_1 (h0 : AHeap) (s : MapS Int) : hget (cyM h0 s) (h0.length + 1) = .map (encM AV.int s.1) s.2 := sb_get1 _ _ _ rfl
theorem cyM_2 (h0 : AHeap) (s : MapS Int) : hget (cyM h0 s) (h0.length + 2) = .vars [.mp (h0.length + 1)] := sb_get2 _ _ _ _ rfl
theorem cyM_3 (h0 : AHeap) (s : MapS Int) : hget (cyM h0 s) (h0.length + 3) = .vars [.clo 42 [] (capsC h0)] := sb_get3 _ _ _ _ _ rfl
theorem cyM_put (h0 : AHeap) (s : MapS Int) (n : Nm) (v : Int) : amapPut Try.prog 93 (cyM h0 s) (.mp (h0.length + 1)) (sV n) (.int v) = some (cyM h0 (mset s n v)) := by
  rw [put_m AV.int (fun x => rfl) tmap_93 (cyM_1 h0 s) n v]
  unfold cyM
  rw [sb_set1 _ _ _ _ rfl]
theorem cyM_look (h0 : AHeap) (s : MapS Int) (n : Nm) : alookup Try.prog 93 (cyM h0 s) (.mp (h0.length + 1)) (sV n) false = some (.int (st s n)) := by
  have := (look_m AV.int tmap_93 tzero_3 (cyM_1 h0 s) n).2
  rw [this]
  unfold st
  cases mg s n <;> rfl
theorem callable_42 : callable Try.prog 42 = true := by kernel_rfl
theorem callD_31 {d : Option Tmp} {ty : TypeId} {pos : String} {aft : Array Edge} {g : Option (Nat × Bool)} {env : Env} (xs : Array Operand) (ts : Array TypeId) (h0 : AHeap) (v : AV) (h' : AHeap) (k : Env → AHeap → Option (Env × AHeap)) : callD Try.prog md ⟨d, .call ⟨.value (.func 31), xs, ts⟩, ty, pos, aft, g⟩ h0 (some (v, h')) d k env = k (aput env d v) h' := callD_eff _ _ _ _ _ rfl
theorem eff32 (d : Option Tmp) : (md 32 == 1 || md 32 == 3 || decide (100 ≤ md 32) && d == some (md 32 - 100)) = true := rfl
theorem eff31 (d : Option Tmp) : (md 31 == 1 || md 31 == 3 || decide (100 ≤ md 31) && d == some (md 31 - 100)) = true := rfl
/-- Some aliases that can be gone through. -/
def Good (al : List Al) : Prop := al.length ≤ 30 ∧ ∀ a ∈ al, a.ty.fit ∧ tsz a.ty ≤ 100000
def CY (al : List Al) (h0 : AHeap) (f : Nat) : Prop := ∀ (n : Nm) (s s' : MapS Int) (b : Bool), n ∈ keys (tbl al) → dfs (dep (tbl al)) f n s = some (b, s') → doCall md (aval Try.prog md fg) 42 (sV n :: capsC h0) (cyM h0 s) = some (.val (.bool b), cyM h0 s')
theorem runs_dfs {al : List Al} {h0 : AHeap} {f : Nat} (hC : CY al h0 f) (hT : Tb h0 (tbl al)) : ∀ (l : List Nm) (i : Nat) (s s' : MapS Int) (b : Bool), (∀ n ∈ l, n ∈ keys (tbl al)) → dfsL (dfs (dep (tbl al)) f) l s = some (b, s') → ∃ o, b = o.isSome ∧ Runs 42 (capsC h0) (fun h => ∃ j, h = h0 ++ j) l i (cyM h0 s) o (cyM h0 s')
  | [], i, s, s', b, _, h => by
    unfold dfsL at h
    cases h
    exact ⟨none, rfl, .nil _ _⟩
  | n :: r, i, s, s', b, hk, h => by
    unfold dfsL at h
    cases hd : dfs (dep (tbl al)) f n s with
    | none => rw [hd] at h; cases h
    | some p =>
      obtain ⟨b1, s1⟩ := p
      rw [hd] at h
      have e := hC n s s1 b1 (hk n (by simp)) hd
      have hl : (cyM h0 s1).length = (cyM h0 s).length := by rw [cyM_len, cyM_len]
      cases b1 with
      | true =>
        dsimp only at h
        cases h
        exact ⟨some i, rfl, .stop _ _ _ _ _ e hl ⟨_, rfl⟩⟩
      | false =>
        dsimp only at h
        obtain ⟨o, h1, h2⟩ := runs_dfs hC hT r (i + 1) s1 s' b (fun x hx => hk x (by simp [hx])) h
        exact ⟨o, h1, .next _ _ _ _ _ _ _ e hl ⟨_, rfl⟩ h2⟩
set_option maxHeartbeats 8000000 in
theorem cy_step {al : List Al} (hg : Good al) {h0 : AHeap} (hT : Tb h0 (tbl al)) {f : Nat} (hC : CY al h0 f) : CY al h0 (f + 1) := by
  intro n s s' b hn hd
  suffices e : aval Try.prog md fg 42 (sV n :: capsC h0) (cyM h0 s) = some (.val (.bool b), cyM h0 s') by
    exact doCall_same md42 e (by rw [cyM_len, cyM_len])
  rw [dfs] at hd
  have lk := fun s => cyM_look h0 s n
  have pt := fun s v => cyM_put h0 s n v
  have g0 := cyM_0 h0
  have g2 := cyM_2 h0
  have g3 := cyM_3 h0
  unfold capsC at g3 ⊢
  by_cases h1 : st s n = 1
  · rw [if_pos h1] at hd
    cases hd
    have lk := lk s
    rw [h1] at lk
    rw [aval_of Try.func42 body42 Try.results42 Try.ntmps42 ok42]
    simp (implicitDefEqProofs := false) (disch := omega) only [go_sem, Nat.reduceAdd, Nat.reduceSub, Nat.reduceMul, Nat.reduceLT, Nat.reduceLeDiff, Nat.reduceEqDiff, List.drop_zero, List.take_succ_cons, List.take_zero, List.drop_succ_cons, Bool.and_true, Bool.true_and, Bool.and_false, Bool.false_and, BitVec.reduceOfInt, Nat.zero_add, Nat.mul_one, Nat.add_zero, Int.zero_add, Int.reduceToNat, Nat.reducePow, ↓reduceIte, reduceCtorEq, Int.reduceLE, Int.reduceLT, Int.reduceEq, Int.reduceNe, Int.reduceAdd, Int.reduceSub, Int.reduceMul, Int.reduceNeg, Nat.reduceBEq, show regOf Try.f42 0 = Code.region _ _ _ from rfl, show regOf Try.f42 1 = Code.region _ _ _ from rfl, show regOf Try.f42 2 = Code.region _ _ _ from rfl, show regOf Try.f42 3 = Code.region _ _ _ from rfl, aop_lookup, g2, lk]
  · rw [if_neg h1] at hd
    by_cases h2 : st s n = 2
    · rw [if_pos h2] at hd
      cases hd
      have lk := lk s
      rw [h2] at lk
      rw [aval_of Try.func42 body42 Try.results42 Try.ntmps42 ok42]
      simp (implicitDefEqProofs := false) (disch := omega) only [go_sem, Nat.reduceAdd, Nat.reduceSub, Nat.reduceMul, Nat.reduceLT, Nat.reduceLeDiff, Nat.reduceEqDiff, List.drop_zero, List.take_succ_cons, List.take_zero, List.drop_succ_cons, Bool.and_true, Bool.true_and, Bool.and_false, Bool.false_and, BitVec.reduceOfInt, Nat.zero_add, Nat.mul_one, Nat.add_zero, Int.zero_add, Int.reduceToNat, Nat.reducePow, ↓reduceIte, reduceCtorEq, Int.reduceLE, Int.reduceLT, Int.reduceEq, Int.reduceNe, Int.reduceAdd, Int.reduceSub, Int.reduceMul, Int.reduceNeg, Nat.reduceBEq, show regOf Try.f42 0 = Code.region _ _ _ from rfl, show regOf Try.f42 1 = Code.region _ _ _ from rfl, show regOf Try.f42 2 = Code.region _ _ _ from rfl, show regOf Try.f42 4 = Code.region _ _ _ from rfl, show regOf Try.f42 5 = Code.region _ _ _ from rfl, aop_lookup, g2, lk]
    · rw [if_neg h2] at hd
      have lk := lk s
      have hgm : ∃ a, mg (tbl al) n = some a := by
        have := (mg_isSome (tbl al) n).2 hn
        cases h : mg (tbl al) n with
        | none => rw [h] at this; cases this
        | some a => exact ⟨a, rfl⟩
      obtain ⟨a, ha⟩ := hgm
      have hga := hg.2 a (tbl_wf ha).2
      have hdep : dep (tbl al) n = nmd (tbl al) a.ty := by unfold dep; rw [ha]
      cases hdl : dfsL (dfs (dep (tbl al)) f) (dep (tbl al) n) (mset s n 1) with
      | none => rw [hdl] at hd; cases hd
      | some p =>
        obtain ⟨b1, s2⟩ := p
        rw [hdl] at hd
        obtain ⟨o, hb, hR⟩ := runs_dfs hC hT (dep (tbl al) n) 0 (mset s n 1) s2 b1 (fun x hx => by rw [hdep] at hx; exact nmd_keys a.ty hx) hdl
        rw [hdep] at hR
        have hlen := nmd_len (tbl al) a.ty
        have c31 := conf_c 42 (capsC h0) callable_42 _ (.slc false ((nmd (tbl al) a.ty).map sV)) (nmd (tbl al) a.ty) (fun h _ => .inl ⟨false, rfl⟩) (by omega) _ _ _ ⟨_, rfl⟩ hR
        have hT1 := cyM_tb hT (mset s n 1)
        have c32 := NM_all a.ty hga.1 hga.2 (cyM h0 (mset s n 1)) (tbl al) hT1
        have l63 := fun s => (look_m alV tmap_63 tzero_38 (cyM_tb hT s).1 n).2
        rw [ha] at l63
        obtain ⟨nv, t2⟩ : ∃ nv, ∀ s, hget (cyM h0 s) 4 = .vars [.mp 2, nv, .mp 3] := by
          obtain ⟨_, nv, q2, _⟩ := hT
          exact ⟨nv, fun s => by unfold cyM; rw [hget_app _ (hlt_of q2 (by simp))]; exact q2⟩
        obtain ⟨s9, ps9, k9, p9, m9, n9, l9⟩ := a
        dsimp only at c32 c31
        rw [tmV_mk] at c32
        simp only [Option.map_some, Option.getD_some, alV_mk] at l63
        generalize hls : nmd (tbl al) (Tm.mk k9 p9 m9 n9 l9) = ls at *
        rw [← hb] at c31
        unfold capsC at c31
        clear hR hC hga ha hdep
        cases b1 with
        | true =>
          dsimp only at hd
          cases hd
          rw [aval_of Try.func42 body42 Try.results42 Try.ntmps42 ok42]
          simp (implicitDefEqProofs := false) (disch := omega) only [go_sem, Nat.reduceAdd, Nat.reduceSub, Nat.reduceMul, Nat.reduceLT, Nat.reduceLeDiff, Nat.reduceEqDiff, List.drop_zero, List.take_succ_cons, List.take_zero, List.drop_succ_cons, Bool.and_true, Bool.true_and, Bool.and_false, Bool.false_and, BitVec.reduceOfInt, Nat.zero_add, Nat.mul_one, Nat.add_zero, Int.zero_add, Int.reduceToNat, Nat.reducePow, ↓reduceIte, reduceCtorEq, Int.reduceLE, Int.reduceLT, Int.reduceEq, Int.reduceNe, Int.reduceAdd, Int.reduceSub, Int.reduceMul, Int.reduceNeg, Nat.reduceBEq, show regOf Try.f42 0 = Code.region _ _ _ from rfl, show regOf Try.f42 1 = Code.region _ _ _ from rfl, show regOf Try.f42 2 = Code.region _ _ _ from rfl, show regOf Try.f42 4 = Code.region _ _ _ from rfl, show regOf Try.f42 6 = Code.region _ _ _ from rfl, show regOf Try.f42 7 = Code.region _ _ _ from rfl, show regOf Try.f42 8 = Code.region _ _ _ from rfl, aop_lookup, aop_mapUpdate, Option.map_some, h1, h2, g0, g2, g3, lk, pt, t2, l63, c32, c31, callD_31, eff31, eff32, ↓tail_nil, ↓subs_nil_all, ↓List.forall_mem_cons, ↓all_nil, Bool.true_or, killAt_nil]
        | false =>
          dsimp only at hd
          cases hd
          rw [aval_of Try.func42 body42 Try.results42 Try.ntmps42 ok42]
          simp (implicitDefEqProofs := false) (disch := omega) only [go_sem, Nat.reduceAdd, Nat.reduceSub, Nat.reduceMul, Nat.reduceLT, Nat.reduceLeDiff, Nat.reduceEqDiff, List.drop_zero, List.take_succ_cons, List.take_zero, List.drop_succ_cons, Bool.and_true, Bool.true_and, Bool.and_false, Bool.false_and, BitVec.reduceOfInt, Nat.zero_add, Nat.mul_one, Nat.add_zero, Int.zero_add, Int.reduceToNat, Nat.reducePow, ↓reduceIte, reduceCtorEq, Int.reduceLE, Int.reduceLT, Int.reduceEq, Int.reduceNe, Int.reduceAdd, Int.reduceSub, Int.reduceMul, Int.reduceNeg, Nat.reduceBEq, show regOf Try.f42 0 = Code.region _ _ _ from rfl, show regOf Try.f42 1 = Code.region _ _ _ from rfl, show regOf Try.f42 2 = Code.region _ _ _ from rfl, show regOf Try.f42 4 = Code.region _ _ _ from rfl, show regOf Try.f42 6 = Code.region _ _ _ from rfl, show regOf Try.f42 7 = Code.region _ _ _ from rfl, show regOf Try.f42 9 = Code.region _ _ _ from rfl, show regOf Try.f42 10 = Code.region _ _ _ from rfl, aop_lookup, aop_mapUpdate, Option.map_some, h1, h2, g0, g2, g3, lk, pt, t2, l63, c32, c31, callD_31, eff31, eff32, ↓tail_nil, ↓subs_nil_all, ↓List.forall_mem_cons, ↓all_nil, Bool.true_or, killAt_nil]
theorem cy_all {al : List Al} (hg : Good al) {h0 : AHeap} (hT : Tb h0 (tbl al)) : ∀ f, CY al h0 f
  | 0 => by intro n s s' b hn hd; rw [dfs] at hd; cases hd
  | f + 1 => cy_step hg hT (cy_all hg hT f)
set_option maxHeartbeats 8000000 in
theorem cyclic_c {al : List Al} (hg : Good al) {h0 : AHeap} (hT : Tb h0 (tbl al)) (hk : (keys (tbl al)).length ≤ 1000) : ∃ b, doCall md (aval Try.prog md fg) 27 [.ptr 4 0] h0 = some (.val (.bool b), h0) ∧
    (b = true → greedy (keys (tbl al)) (dep (tbl al)) (keys (tbl al)).length [] = none) ∧
    (b = false → ∀ out, Took (keys (tbl al)) out → out.length < (keys (tbl al)).length → ∃ n, (keys (tbl al)).find? (rdy (dep (tbl al)) out) = some n) := by
  obtain ⟨b, s', hd, hb1, hb2⟩ := dfs_greedy (keys_nodup al) (dep := dep (tbl al)) (fun n hn k hk => by
    unfold dep at hk
    cases h : mg (tbl al) n with
    | none => rw [h] at hk; cases hk
    | some a => rw [h] at hk; exact nmd_keys a.ty hk)
  refine ⟨b, ?_, hb1, hb2⟩
  obtain ⟨o, hb, hR⟩ := runs_dfs (cy_all hg hT _) hT (keys (tbl al)) 0 ([], 0) s' b (fun n hn => hn) hd
  have hT1 := cyM_tb hT ([], 0)
  obtain ⟨_, nv, t2, t3⟩ := hT1
  have hI : ∀ h, (∃ j, h = h0 ++ j) → NV h nv (keys (tbl al)) := by
    rintro h ⟨j, rfl⟩
    obtain ⟨_, nv', t2', t3'⟩ := hT
    have : nv = nv' := by
      unfold cyM at t2
      rw [hget_app _ (hlt_of t2' (by simp)), t2'] at t2
      simpa using t2.symm
    subst this
    exact nl_nv (nl_app t3' j)
  have c31 := conf_c 42 (capsC h0) callable_42 _ nv (keys (tbl al)) hI (by omega) (cyM h0 ([], 0)) (cyM h0 s') o ⟨_, rfl⟩ hR
  rw [← hb] at c31
  have e : aval Try.prog md fg 27 [.ptr 4 0] h0 = some (.val (.bool b), cyM h0 s') := by
    unfold capsC at c31
    have g0 := cyM_0 h0 ([], 0)
    have g3 := cyM_3 h0 ([], 0)
    unfold capsC at g3
    have hcy : cyM h0 ([], 0) = h0 ++ [.vars [.ptr 4 0], .map [] 0, .vars [.mp (h0.length + 1)], .vars [.clo 42 [] [.ptr (h0.length + 2) 0, .ptr h0.length 0, .ptr (h0.length + 3) 0]]] := rfl
    rw [hcy] at c31 g0 g3 t2
    generalize cyM h0 s' = H2 at *
    rw [aval_of Try.func27 body27 Try.results27 Try.ntmps27 ok27]
    simp (implicitDefEqProofs := false) (disch := omega) only [go_sem, Nat.reduceAdd, Nat.reduceSub, Nat.reduceMul, Nat.reduceLT, Nat.reduceLeDiff, Nat.reduceEqDiff, List.drop_zero, List.take_succ_cons, List.take_zero, List.drop_succ_cons, Bool.and_true, Bool.true_and, Bool.and_false, Bool.false_and, BitVec.reduceOfInt, Nat.zero_add, Nat.mul_one, Nat.add_zero, Int.zero_add, Int.reduceToNat, Nat.reducePow, ↓reduceIte, reduceCtorEq, Int.reduceLE, Int.reduceLT, Int.reduceEq, Int.reduceNe, Int.reduceAdd, Int.reduceSub, Int.reduceMul, Int.reduceNeg, Nat.reduceBEq, show regOf Try.f27 0 = Code.region _ _ _ from rfl, show regOf Try.f27 1 = Code.region _ _ _ from rfl, show regOf Try.f27 2 = Code.region _ _ _ from rfl, show regOf Try.f27 3 = Code.region _ _ _ from rfl, show regOf Try.f27 4 = Code.region _ _ _ from rfl, aop_makeMap0, isMapT_93, fits_mp1, fits_clo1, cells_mp, cells_clo1, Option.map_some, List.append_assoc, List.cons_append, List.nil_append, List.length_append, List.length_cons, List.length_nil, sb_get0, sb_get1, sb_get2, sb_get3, sb_set0, sb_set1, sb_set2, sb_set3, g0, g3, t2, c31, callD_31, eff31, eff32, ↓tail_nil, ↓subs_nil_all, ↓List.forall_mem_cons, ↓all_nil, Bool.true_or, killAt_nil]
  have := doCall_ref (by decide) (by decide) (by decide) e rfl (by unfold cyM; exact gcOk_append h0 _)
  rw [this]
  unfold cyM
  rw [List.take_left' rfl]
end Go.Proofs.Ytgijlgdhogbgbaa
