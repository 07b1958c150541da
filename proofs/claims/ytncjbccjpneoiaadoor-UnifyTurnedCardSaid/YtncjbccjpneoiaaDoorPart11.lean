/- Parts of the proof, each with its own heading: The plain law of solving by links: shapes, what nodes stand for, links. The plain law of Unify: what its loop keeps. The store as shapes, roots and ranks; find. walk in general. walk as a whole. become in general. top and same in general. Unify: the pairs of kids. -/
import Derived.Test.YtncjbccjpneoiaaDoorPart10
set_option linter.unusedSimpArgs false
set_option linter.unusedVariables false
namespace Go.Proofs.YtncjbccjpneoiaaDoor
open Go Go.Ab Go.Proofs
set_option maxRecDepth 100000
set_option linter.unusedSimpArgs false
set_option linter.unusedVariables false
structure Sh where
  kind : Int
  pkg : List UInt8
  name : List UInt8
  kids : List Nat
def Con (sh : List Sh) (M : Nat → Tm) : Prop := ∀ (i : Nat) (s : Sh), sh[i]? = some s → s.kind ≠ 1 → M i = .mk s.kind s.pkg s.name 0 (s.kids.map M)
def Mod (sh : List Sh) (rt : Nat → Nat) (M : Nat → Tm) : Prop := (∀ i, i < sh.length → M i = M (rt i)) ∧ Con sh M
structure Ok (sh : List Sh) (rt r : Nat → Nat) : Prop where
  lt : ∀ i, i < sh.length → rt i < sh.length
  idem : ∀ i, i < sh.length → rt (rt i) = rt i
  con : ∀ (i : Nat) (s : Sh), sh[i]? = some s → s.kind ≠ 1 → rt i = i
  kid : ∀ (i : Nat) (s : Sh) (k : Nat), sh[i]? = some s → k ∈ s.kids → k < sh.length ∧ r k < r i
  le : ∀ i, i < sh.length → r (rt i) ≤ r i
  var : ∀ (i : Nat) (s : Sh), sh[i]? = some s → s.kind = 1 → s.kids = []
  rig : ∀ (i : Nat) (s : Sh), sh[i]? = some s → s.kind ≠ 5
theorem lt_of_at {α : Type} {l : List α} {i : Nat} {x : α} (h : l[i]? = some x) : i < l.length := (List.getElem?_eq_some_iff.1 h).1
theorem at_of_lt {α : Type} {l : List α} {i : Nat} (h : i < l.length) : ∃ x, l[i]? = some x := ⟨l[i], List.getElem?_eq_getElem h⟩
inductive Rch (sh : List Sh) (rt : Nat → Nat) : Nat → Nat → Prop
  | refl (x : Nat) : Rch sh rt x x
  | kid {x k v : Nat} {s : Sh} : sh[x]? = some s → k ∈ s.kids → Rch sh rt (rt k) v → Rch sh rt x v
theorem tszs_mem : ∀ {l : List Tm} {t : Tm}, t ∈ l → tsz t ≤ tszs l
  | [], t, h => by cases h
  | a :: r, t, h => by
    rw [tszs]
    rcases List.mem_cons.1 h with rfl | h
    · omega
    · have := tszs_mem h; omega
theorem rch_lt {sh : List Sh} {rt r : Nat → Nat} (ok : Ok sh rt r) {M : Nat → Tm} (hm : Mod sh rt M) {x v : Nat} (h : Rch sh rt x v) : x = v ∨ tsz (M v) < tsz (M x) := by
  induction h with
  | refl x => exact .inl rfl
  | @kid x k v s hx hk _ ih =>
    right
    have hc : s.kind ≠ 1 := fun c => by rw [ok.var _ _ hx c] at hk; cases hk
    have e := hm.2 x s hx hc
    have e2 := hm.1 k (ok.kid x s k hx hk).1
    have : tsz (M k) ≤ tszs (s.kids.map M) := tszs_mem (List.mem_map.2 ⟨k, hk, rfl⟩)
    rw [e, tsz]
    rcases ih with ih | ih
    · rw [← ih, ← e2]; omega
    · rw [e2] at this; omega
def bnd (rt : Nat → Nat) (v t : Nat) : Nat → Nat := fun k => if rt k = v then t else rt k
open Classical in
noncomputable def bndR (sh : List Sh) (rt r : Nat → Nat) (v t : Nat) : Nat → Nat := fun k => r k + if Rch sh rt (rt k) v then r t + 1 else 0
theorem bnd_mod {sh : List Sh} {rt : Nat → Nat} {M : Nat → Tm} (hm : Mod sh rt M) {v t : Nat} (e : M v = M t) : Mod sh (bnd rt v t) M := by
  refine ⟨fun i hi => ?_, hm.2⟩
  unfold bnd
  split
  · rename_i h; rw [hm.1 i hi, h, e]
  · exact hm.1 i hi
theorem bnd_back {sh : List Sh} {rt : Nat → Nat} {M : Nat → Tm} {v t : Nat} (hv : v < sh.length) (hr : rt v = v) (hm : Mod sh (bnd rt v t) M) : Mod sh rt M := by
  refine ⟨fun i hi => ?_, hm.2⟩
  have h1 := hm.1 i hi
  have h2 := hm.1 v hv
  simp only [bnd, hr, if_true] at h2
  unfold bnd at h1
  split at h1
  · rename_i h; rw [h1, h, h2]
  · exact h1
theorem bndR_lt {sh : List Sh} {rt r : Nat → Nat} {v t i j : Nat} (e : rt j = rt i) (h : r j < r i) : bndR sh rt r v t j < bndR sh rt r v t i := by
  unfold bndR; rw [e]; omega
theorem bndR_t {sh : List Sh} {rt r : Nat → Nat} {v t : Nat} (hr : rt v = v) (ht : rt t = t) (hn : ¬ Rch sh rt t v) : bndR sh rt r v t t < bndR sh rt r v t v := by
  unfold bndR
  rw [ht, if_neg hn, hr, if_pos (.refl v)]; omega
theorem bnd_ok {sh : List Sh} {rt r : Nat → Nat} (ok : Ok sh rt r) {v t : Nat} {s : Sh} (hv : sh[v]? = some s) (hk : s.kind = 1) (hr : rt v = v) (htl : t < sh.length) (ht : rt t = t) (hn : ¬ Rch sh rt t v) : Ok sh (bnd rt v t) (bndR sh rt r v t) := by
  have hne : t ≠ v := fun e => hn (e ▸ .refl t)
  refine ⟨fun i hi => ?_, fun i hi => ?_, fun i s' hi hc => ?_, fun i s' k hi hk' => ?_, fun i hi => ?_, ok.var, ok.rig⟩
  · unfold bnd; split
    · exact htl
    · exact ok.lt i hi
  · by_cases h : rt i = v
    · have : bnd rt v t i = t := if_pos h
      rw [this]; unfold bnd; rw [if_neg (by rw [ht]; exact hne), ht]
    · have : bnd rt v t i = rt i := if_neg h
      rw [this]; unfold bnd; rw [ok.idem i hi, if_neg h]
  · have e := ok.con i s' hi hc
    have : i ≠ v := fun e2 => by subst e2; rw [hv] at hi; simp only [Option.some.injEq] at hi; subst hi; exact hc hk
    unfold bnd; rw [if_neg (by rw [e]; exact this), e]
  · obtain ⟨a, b⟩ := ok.kid i s' k hi hk'
    refine ⟨a, ?_⟩
    have hc : s'.kind ≠ 1 := fun c => by rw [ok.var _ _ hi c] at hk'; cases hk'
    have e := ok.con i s' hi hc
    unfold bndR
    rw [e]
    by_cases h : Rch sh rt (rt k) v
    · rw [if_pos h, if_pos (.kid hi hk' h)]; omega
    · rw [if_neg h]; omega
  · by_cases h : rt i = v
    · have : bnd rt v t i = t := if_pos h
      rw [this]; unfold bndR
      rw [ht, if_neg hn, h, if_pos (.refl v)]; omega
    · have : bnd rt v t i = rt i := if_neg h
      rw [this]; unfold bndR
      rw [ok.idem i hi]
      have := ok.le i hi
      omega
noncomputable def den (sh : List Sh) (rt : Nat → Nat) (th : Nat → Tm) : Nat → Nat → Tm
  | 0, i => th i
  | f + 1, i => match sh[rt i]? with
    | none => th i
    | some s => if s.kind = 1 then th (rt i) else .mk s.kind s.pkg s.name 0 (s.kids.map (den sh rt th f))
theorem den_fuel {sh : List Sh} {rt r : Nat → Nat} (ok : Ok sh rt r) (th : Nat → Tm) : ∀ (f g i : Nat), i < sh.length → r i < f → r i < g → den sh rt th f i = den sh rt th g i
  | 0, g, i, _, h, _ => by omega
  | f + 1, 0, i, _, _, h => by omega
  | f + 1, g + 1, i, hi, h1, h2 => by
    have hl := ok.lt i hi
    have hle := ok.le i hi
    obtain ⟨s, hs⟩ := at_of_lt hl
    simp only [den, hs]
    split
    · rfl
    · congr 1
      refine List.map_congr_left fun k hk => ?_
      obtain ⟨a, b⟩ := ok.kid _ s k hs hk
      exact den_fuel ok th f g k a (by omega) (by omega)
theorem ex_mod {sh : List Sh} {rt r : Nat → Nat} (ok : Ok sh rt r) (th : Nat → Tm) : ∃ M, Mod sh rt M ∧ ∀ (v : Nat) (s : Sh), sh[v]? = some s → s.kind = 1 → rt v = v → M v = th v := by
  refine ⟨fun i => den sh rt th (r i + 1) i, ⟨fun i hi => ?_, fun i s hi hc => ?_⟩, fun v s hv hk hr => ?_⟩
  · have e1 : den sh rt th (r i + 1) i = den sh rt th (r i + 1) (rt i) := by
      obtain ⟨s, hs⟩ := at_of_lt (ok.lt i hi)
      simp only [den, ok.idem i hi, hs]
    show den sh rt th (r i + 1) i = den sh rt th (r (rt i) + 1) (rt i)
    rw [e1]
    have := ok.le i hi
    exact den_fuel ok th _ _ _ (ok.lt i hi) (by omega) (by omega)
  · show den sh rt th (r i + 1) i = _
    simp only [den, ok.con i s hi hc, hi, if_neg hc]
    congr 1
    refine List.map_congr_left fun k hk => ?_
    obtain ⟨a, b⟩ := ok.kid _ s k hi hk
    show den sh rt th (r i) k = den sh rt th (r k + 1) k
    exact den_fuel ok th _ _ k a (by omega) (by omega)
  · show den sh rt th (r v + 1) v = _
    simp only [den, hr, hv, if_pos hk]
theorem mod_ext {sh : List Sh} {rt r : Nat → Nat} (ok : Ok sh rt r) {M N : Nat → Tm} (hM : Mod sh rt M) (hN : Mod sh rt N) (hv : ∀ (v : Nat) (s : Sh), sh[v]? = some s → s.kind = 1 → rt v = v → M v = N v) : ∀ (f i : Nat), i < sh.length → r i < f → M i = N i
  | 0, i, _, h => by omega
  | f + 1, i, hi, h => by
    rw [hM.1 i hi, hN.1 i hi]
    have hl := ok.lt i hi
    have hle := ok.le i hi
    obtain ⟨s, hs⟩ := at_of_lt hl
    by_cases hk : s.kind = 1
    · exact hv _ s hs hk (ok.idem i hi)
    · rw [hM.2 _ s hs hk, hN.2 _ s hs hk]
      congr 1
      refine List.map_congr_left fun k hk' => ?_
      obtain ⟨a, b⟩ := ok.kid _ s k hs hk'
      exact mod_ext ok hM hN hv f k a (by omega)
def eqN : Nat → Tm → Tm → Prop
  | 0, _, _ => True
  | n + 1, a, b => a.kind = b.kind ∧ a.pkg = b.pkg ∧ a.name = b.name ∧ a.n = b.n ∧ a.kids.length = b.kids.length ∧ ∀ (j : Nat) x y, a.kids[j]? = some x → b.kids[j]? = some y → eqN n x y
theorem eqN_refl : ∀ (n : Nat) (a : Tm), eqN n a a
  | 0, _ => trivial
  | n + 1, a => ⟨rfl, rfl, rfl, rfl, rfl, fun j x y h1 h2 => by rw [h1] at h2; cases h2; exact eqN_refl n x⟩
theorem eqN_symm : ∀ (n : Nat) {a b : Tm}, eqN n a b → eqN n b a
  | 0, _, _, _ => trivial
  | n + 1, a, b, ⟨h1, h2, h3, h4, h5, h6⟩ => ⟨h1.symm, h2.symm, h3.symm, h4.symm, h5.symm, fun j x y hx hy => eqN_symm n (h6 j y x hy hx)⟩
theorem eqN_trans : ∀ (n : Nat) {a b c : Tm}, eqN n a b → eqN n b c → eqN n a c
  | 0, _, _, _, _, _ => trivial
  | n + 1, a, b, c, ⟨h1, h2, h3, h4, h5, h6⟩, ⟨k1, k2, k3, k4, k5, k6⟩ => ⟨h1.trans k1, h2.trans k2, h3.trans k3, h4.trans k4, h5.trans k5, fun j x y hx hy => by
    have hj := lt_of_at hx
    obtain ⟨z, hz⟩ := at_of_lt (l := b.kids) (i := j) (by omega)
    exact eqN_trans n (h6 j x z hx hz) (k6 j z y hz hy)⟩
theorem eqN_eq : ∀ (n : Nat) (a b : Tm), tsz a ≤ n → eqN n a b → a = b
  | 0, .mk k p m x l, b, h, _ => by rw [tsz] at h; omega
  | n + 1, .mk k p m x l, .mk k' p' m' x' l', h, ⟨h1, h2, h3, h4, h5, h6⟩ => by
    dsimp only [Tm.kind, Tm.pkg, Tm.name, Tm.n, Tm.kids] at h1 h2 h3 h4 h5 h6
    subst h1; subst h2; subst h3; subst h4
    rw [tsz] at h
    congr 1
    apply List.ext_getElem?
    intro j
    by_cases hj : j < l.length
    · obtain ⟨a, ha⟩ := at_of_lt hj
      obtain ⟨b, hb⟩ := at_of_lt (l := l') (i := j) (by omega)
      have := tszs_mem (List.mem_of_getElem? ha)
      rw [ha, hb, eqN_eq n a b (by omega) (h6 j a b ha hb)]
    · rw [List.getElem?_eq_none (by omega), List.getElem?_eq_none (by omega)]
def topO : List (Nat × Nat) → Nat → Nat
  | [], x => x
  | p :: r, x => if x = p.1 then topO r p.2 else topO r x
theorem topO_mem : ∀ (one : List (Nat × Nat)) (x : Nat), topO one x = x ∨ ∃ p ∈ one, topO one x = p.2
  | [], x => .inl rfl
  | p :: r, x => by
    unfold topO
    split
    · rcases topO_mem r p.2 with h | ⟨q, h1, h2⟩
      · exact .inr ⟨p, List.mem_cons_self .., h⟩
      · exact .inr ⟨q, List.mem_cons_of_mem _ h1, h2⟩
    · rcases topO_mem r x with h | ⟨q, h1, h2⟩
      · exact .inl h
      · exact .inr ⟨q, List.mem_cons_of_mem _ h1, h2⟩
theorem topO_notin : ∀ (one : List (Nat × Nat)) (x : Nat), (∀ p ∈ one, x ≠ p.1) → topO one x = x
  | [], x, _ => rfl
  | p :: r, x, h => by
    unfold topO
    rw [if_neg (h p (List.mem_cons_self ..))]
    exact topO_notin r x fun q hq => h q (List.mem_cons_of_mem _ hq)
structure Eqv (E : Nat → Nat → Prop) : Prop where
  rfl' : ∀ a, E a a
  symm : ∀ {a b}, E a b → E b a
  trans : ∀ {a b c}, E a b → E b c → E a c
theorem topO_eqv {E : Nat → Nat → Prop} (he : Eqv E) : ∀ (one : List (Nat × Nat)) (x : Nat), (∀ p ∈ one, E p.1 p.2) → E x (topO one x)
  | [], x, _ => he.rfl' x
  | p :: r, x, h => by
    unfold topO
    split
    · rename_i e
      rw [e]
      exact he.trans (h p (List.mem_cons_self ..)) (topO_eqv he r p.2 fun q hq => h q (List.mem_cons_of_mem _ hq))
    · exact topO_eqv he r x fun q hq => h q (List.mem_cons_of_mem _ hq)
theorem topO_M (M : Nat → Tm) (one : List (Nat × Nat)) (x : Nat) (h : ∀ p ∈ one, M p.1 = M p.2) : M x = M (topO one x) :=
  topO_eqv (E := fun a b => M a = M b) ⟨fun _ => rfl, fun h => h.symm, fun h k => h.trans k⟩ one x h
def Ord : List (Nat × Nat) → Prop
  | [] => True
  | p :: r => p.2 ≠ p.1 ∧ (∀ q ∈ r, q.1 ≠ p.1 ∧ q.2 ≠ p.1) ∧ Ord r
theorem ord_topO : ∀ (one : List (Nat × Nat)) (x : Nat), Ord one → ∀ p ∈ one, topO one x ≠ p.1
  | [], x, _, p, hp => by cases hp
  | q :: r, x, ho, p, hp => by
    obtain ⟨h1, h2, h3⟩ := ho
    unfold topO
    rcases List.mem_cons.1 hp with rfl | hp
    · split
      · rcases topO_mem r p.2 with e | ⟨z, hz, e⟩
        · rw [e]; exact h1
        · rw [e]; exact (h2 z hz).2
      · rename_i hx
        rcases topO_mem r x with e | ⟨z, hz, e⟩
        · rw [e]; exact hx
        · rw [e]; exact (h2 z hz).2
    · split
      · exact ord_topO r _ h3 p hp
      · exact ord_topO r _ h3 p hp
theorem ord_add : ∀ (one : List (Nat × Nat)) (x y : Nat), Ord one → (∀ p ∈ one, x ≠ p.1) → (∀ p ∈ one, y ≠ p.1) → y ≠ x → Ord (one ++ [(x, y)])
  | [], x, y, _, _, _, h => ⟨h, by simp, trivial⟩
  | p :: r, x, y, ⟨h1, h2, h3⟩, hx, hy, h => by
    refine ⟨h1, fun q hq => ?_, ord_add r x y h3 (fun q hq => hx q (List.mem_cons_of_mem _ hq)) (fun q hq => hy q (List.mem_cons_of_mem _ hq)) h⟩
    rcases List.mem_append.1 hq with hq | hq
    · exact h2 q hq
    · rw [List.mem_singleton.1 hq]
      exact ⟨hx p (List.mem_cons_self ..), hy p (List.mem_cons_self ..)⟩
structure Ext (sh : List Sh) (rt : Nat → Nat) (one todo : List (Nat × Nat)) (E : Nat → Nat → Prop) : Prop where
  eqv : Eqv E
  rt : ∀ i, i < sh.length → E i (rt i)
  one : ∀ p ∈ one, E p.1 p.2
  todo : ∀ p ∈ todo, E p.1 p.2
def sigEq (s s' : Sh) : Prop := s.kind = s'.kind ∧ s.pkg = s'.pkg ∧ s.name = s'.name ∧ s.kids.length = s'.kids.length
structure UI (sh : List Sh) (rt0 : Nat → Nat) (a b : Nat) (rt : Nat → Nat) (one todo : List (Nat × Nat)) : Prop where
  gen : ∀ M, Mod sh rt0 M → M a = M b → Mod sh rt M ∧ (∀ p ∈ one, M p.1 = M p.2) ∧ ∀ p ∈ todo, M p.1 = M p.2
  back : ∀ M, Mod sh rt M → Mod sh rt0 M
  snd : ∀ E, Ext sh rt one todo E → E a b ∧ ∀ p ∈ one, ∀ (s s' : Sh), sh[p.1]? = some s → sh[p.2]? = some s' → ∀ (j : Nat) x y, s.kids[j]? = some x → s'.kids[j]? = some y → E x y
  sig : ∀ p ∈ one, ∃ (s s' : Sh), sh[p.1]? = some s ∧ sh[p.2]? = some s' ∧ s.kind ≠ 1 ∧ sigEq s s'
  ord : Ord one
  bds : ∀ p ∈ todo, p.1 < sh.length ∧ p.2 < sh.length
theorem ui_start {sh : List Sh} {rt : Nat → Nat} {a b : Nat} (ha : a < sh.length) (hb : b < sh.length) : UI sh rt a b rt [] [(a, b)] :=
  ⟨fun M hm e => ⟨hm, by simp, by simpa using e⟩, fun M h => h, fun E h => ⟨h.todo (a, b) (by simp), by simp⟩, by simp, trivial, by simp [ha, hb]⟩
section
variable {sh : List Sh} {rt0 rt r : Nat → Nat} {a b p q : Nat} {one todo : List (Nat × Nat)}
theorem top_root' (ok : Ok sh rt r) (u : UI sh rt0 a b rt one todo) (hp : p < sh.length) : topO one (rt p) < sh.length ∧ rt (topO one (rt p)) = topO one (rt p) := by
  rcases topO_mem one (rt p) with e | ⟨z, hz, e⟩
  · rw [e]; exact ⟨ok.lt p hp, ok.idem p hp⟩
  · rw [e]
    obtain ⟨s, s', h1, h2, h3, h4⟩ := u.sig z hz
    exact ⟨lt_of_at h2, ok.con _ s' h2 (h4.1 ▸ h3)⟩
theorem u_E (u : UI sh rt0 a b rt one (todo ++ [(p, q)])) {E : Nat → Nat → Prop} (he : Eqv E) (hr : ∀ i, i < sh.length → E i (rt i)) (ho : ∀ z ∈ one, E z.1 z.2) (i : Nat) (hi : i < sh.length) : E i (topO one (rt i)) :=
  he.trans (hr i hi) (topO_eqv he one _ ho)
theorem u_M {M : Nat → Tm} (hm : Mod sh rt M) (ho : ∀ z ∈ one, M z.1 = M z.2) (i : Nat) (hi : i < sh.length) : M i = M (topO one (rt i)) :=
  (hm.1 i hi).trans (topO_M M one _ ho)
theorem ui_pq (u : UI sh rt0 a b rt one (todo ++ [(p, q)])) : p < sh.length ∧ q < sh.length := u.bds (p, q) (by simp)
theorem ui_tops (u : UI sh rt0 a b rt one (todo ++ [(p, q)])) {M : Nat → Tm} (hm : Mod sh rt0 M) (e : M a = M b) : Mod sh rt M ∧ M (topO one (rt p)) = M (topO one (rt q)) := by
  obtain ⟨h1, h2, h3⟩ := u.gen M hm e
  obtain ⟨hp, hq⟩ := ui_pq u
  exact ⟨h1, by rw [← u_M h1 h2 p hp, ← u_M h1 h2 q hq]; exact h3 (p, q) (by simp)⟩
theorem ui_same (u : UI sh rt0 a b rt one (todo ++ [(p, q)])) (h : topO one (rt p) = topO one (rt q)) : UI sh rt0 a b rt one todo := by
  obtain ⟨hp, hq⟩ := ui_pq u
  refine ⟨fun M hm e => ?_, u.back, fun E he => ?_, u.sig, u.ord, fun z hz => u.bds z (by simp [hz])⟩
  · obtain ⟨h1, h2, h3⟩ := u.gen M hm e
    exact ⟨h1, h2, fun z hz => h3 z (by simp [hz])⟩
  · refine u.snd E ⟨he.eqv, he.rt, he.one, fun z hz => ?_⟩
    rcases List.mem_append.1 hz with hz | hz
    · exact he.todo z hz
    · rw [List.mem_singleton.1 hz]
      exact he.eqv.trans (u_E u he.eqv he.rt he.one p hp) (h ▸ he.eqv.symm (u_E u he.eqv he.rt he.one q hq))
theorem ui_bnd (u : UI sh rt0 a b rt one (todo ++ [(p, q)])) {v t : Nat} (hv : v < sh.length) (hrv : rt v = v) (h : (topO one (rt p) = v ∧ topO one (rt q) = t) ∨ (topO one (rt q) = v ∧ topO one (rt p) = t)) : UI sh rt0 a b (bnd rt v t) one todo := by
  obtain ⟨hp, hq⟩ := ui_pq u
  refine ⟨fun M hm e => ?_, fun M hm => u.back M (bnd_back hv hrv hm), fun E he => ?_, u.sig, u.ord, fun z hz => u.bds z (by simp [hz])⟩
  · obtain ⟨h1, h2, h3⟩ := u.gen M hm e
    obtain ⟨_, h4⟩ := ui_tops u hm e
    refine ⟨bnd_mod h1 ?_, h2, fun z hz => h3 z (by simp [hz])⟩
    rcases h with ⟨rfl, rfl⟩ | ⟨rfl, rfl⟩
    · exact h4
    · exact h4.symm
  · have hvt : E v t := by have := he.rt v hv; simp only [bnd, hrv, if_true] at this; exact this
    have hrt : ∀ i, i < sh.length → E i (rt i) := fun i hi => by
      have := he.rt i hi
      unfold bnd at this
      split at this
      · rename_i e; rw [e]; exact he.eqv.trans this (he.eqv.symm hvt)
      · exact this
    refine u.snd E ⟨he.eqv, hrt, he.one, fun z hz => ?_⟩
    rcases List.mem_append.1 hz with hz | hz
    · exact he.todo z hz
    · rw [List.mem_singleton.1 hz]
      have e1 := u_E u he.eqv hrt he.one p hp
      have e2 := u_E u he.eqv hrt he.one q hq
      rcases h with ⟨h1, h2⟩ | ⟨h1, h2⟩
      · rw [h1] at e1; rw [h2] at e2
        exact he.eqv.trans (he.eqv.trans e1 hvt) (he.eqv.symm e2)
      · rw [h1] at e2; rw [h2] at e1
        exact he.eqv.trans (he.eqv.trans e1 (he.eqv.symm hvt)) (he.eqv.symm e2)
theorem kids_eq {s s' : Sh} {M : Nat → Tm} (h : s.kids.map M = s'.kids.map M) (j x y : Nat) (hx : s.kids[j]? = some x) (hy : s'.kids[j]? = some y) : M x = M y := by
  have := congrArg (·[j]?) h
  simpa [hx, hy] using this
theorem ui_one (u : UI sh rt0 a b rt one (todo ++ [(p, q)])) {x y : Nat} (hx : topO one (rt p) = x) (hy : topO one (rt q) = y) (hne : x ≠ y) {s s' : Sh} (h1 : sh[x]? = some s) (h2 : sh[y]? = some s') (hk : s.kind ≠ 1) (hs : sigEq s s') (hb : ∀ k ∈ s.kids, k < sh.length) (hb' : ∀ k ∈ s'.kids, k < sh.length) : UI sh rt0 a b rt (one ++ [(x, y)]) (todo ++ (s.kids.zip s'.kids).reverse) := by
  obtain ⟨hp, hq⟩ := ui_pq u
  refine ⟨fun M hm e => ?_, u.back, fun E he => ?_, fun z hz => ?_, ?_, fun z hz => ?_⟩
  · obtain ⟨k1, k2, k3⟩ := u.gen M hm e
    obtain ⟨_, h4⟩ := ui_tops u hm e
    rw [hx, hy] at h4
    refine ⟨k1, fun z hz => ?_, fun z hz => ?_⟩
    · rcases List.mem_append.1 hz with hz | hz
      · exact k2 z hz
      · rw [List.mem_singleton.1 hz]; exact h4
    · rcases List.mem_append.1 hz with hz | hz
      · exact k3 z (by simp [hz])
      · rw [List.mem_reverse] at hz
        rw [k1.2 x s h1 hk, k1.2 y s' h2 (hs.1 ▸ hk)] at h4
        simp only [Tm.mk.injEq] at h4
        obtain ⟨j, hj⟩ := List.mem_iff_getElem?.1 hz
        rw [List.getElem?_zip_eq_some] at hj
        exact kids_eq h4.2.2.2.2 j _ _ hj.1 hj.2
  · have hxy : E x y := he.one (x, y) (by simp)
    have ho : ∀ z ∈ one, E z.1 z.2 := fun z hz => he.one z (by simp [hz])
    obtain ⟨r1, r2⟩ := u.snd E ⟨he.eqv, he.rt, ho, fun z hz => by
      rcases List.mem_append.1 hz with hz | hz
      · exact he.todo z (by simp [hz])
      · rw [List.mem_singleton.1 hz]
        have e1 := u_E u he.eqv he.rt ho p hp
        have e2 := u_E u he.eqv he.rt ho q hq
        rw [hx] at e1; rw [hy] at e2
        exact he.eqv.trans (he.eqv.trans e1 hxy) (he.eqv.symm e2)⟩
    refine ⟨r1, fun z hz => ?_⟩
    rcases List.mem_append.1 hz with hz | hz
    · exact r2 z hz
    · rw [List.mem_singleton.1 hz]
      intro t t' ht ht' j c d hc hd
      dsimp only at ht ht'
      rw [h1] at ht; rw [h2] at ht'
      cases ht; cases ht'
      exact he.todo (c, d) (by
        rw [List.mem_append, List.mem_reverse]
        exact .inr (List.mem_of_getElem? (i := j) (List.getElem?_zip_eq_some.2 ⟨hc, hd⟩)))
  · rcases List.mem_append.1 hz with hz | hz
    · exact u.sig z hz
    · rw [List.mem_singleton.1 hz]; exact ⟨s, s', h1, h2, hk, hs⟩
  · refine ord_add one x y u.ord (fun z hz => ?_) (fun z hz => ?_) (Ne.symm hne)
    · rw [← hx]; exact ord_topO one _ u.ord z hz
    · rw [← hy]; exact ord_topO one _ u.ord z hz
  · rcases List.mem_append.1 hz with hz | hz
    · exact u.bds z (by simp [hz])
    · rw [List.mem_reverse] at hz
      have := List.of_mem_zip hz
      exact ⟨hb _ this.1, hb' _ this.2⟩
theorem ui_end (u : UI sh rt0 a b rt one []) {M : Nat → Tm} (hm : Mod sh rt M) : M a = M b := by
  have hE : ∀ n, Eqv fun x y => eqN n (M x) (M y) := fun n => ⟨fun _ => eqN_refl n _, fun h => eqN_symm n h, fun h k => eqN_trans n h k⟩
  have hr : ∀ n i, i < sh.length → eqN n (M i) (M (rt i)) := fun n i hi => by rw [← hm.1 i hi]; exact eqN_refl n _
  have key : ∀ n, ∀ z ∈ one, eqN n (M z.1) (M z.2) := fun n => by
    induction n with
    | zero => exact fun _ _ => trivial
    | succ n ih =>
      intro z hz
      obtain ⟨s, s', h1, h2, h3, h4, h5, h6, h7⟩ := u.sig z hz
      have := (u.snd _ ⟨hE n, hr n, ih, by simp⟩).2 z hz s s' h1 h2
      rw [hm.2 _ s h1 h3, hm.2 _ s' h2 (h4 ▸ h3)]
      refine ⟨h4, h5, h6, rfl, by simp [Tm.kids, h7], fun j x y hx hy => ?_⟩
      simp only [Tm.kids, List.getElem?_map, Option.map_eq_some_iff] at hx hy
      obtain ⟨c, hc, rfl⟩ := hx
      obtain ⟨d, hd, rfl⟩ := hy
      exact this j c d hc hd
  exact eqN_eq (tsz (M a)) _ _ (Nat.le_refl _) (u.snd _ ⟨hE _, hr _, key _, by simp⟩).1
theorem ui_no_var (ok : Ok sh rt r) (u : UI sh rt0 a b rt one (todo ++ [(p, q)])) {v t : Nat} (hvt : t ≠ v) (h : (topO one (rt p) = v ∧ topO one (rt q) = t) ∨ (topO one (rt q) = v ∧ topO one (rt p) = t)) (hr : Rch sh rt t v) : ∀ M, Mod sh rt0 M → M a ≠ M b := fun M hm e => by
  obtain ⟨h1, h4⟩ := ui_tops u hm e
  have : M v = M t := by
    rcases h with ⟨rfl, rfl⟩ | ⟨rfl, rfl⟩
    · exact h4
    · exact h4.symm
  rcases rch_lt ok h1 hr with e | e
  · exact hvt e
  · rw [this] at e; omega
theorem ui_no_sig (u : UI sh rt0 a b rt one (todo ++ [(p, q)])) {s s' : Sh} (h1 : sh[topO one (rt p)]? = some s) (h2 : sh[topO one (rt q)]? = some s') (hk : s.kind ≠ 1) (hk' : s'.kind ≠ 1) (hs : ¬ sigEq s s') : ∀ M, Mod sh rt0 M → M a ≠ M b := fun M hm e => by
  obtain ⟨m1, h4⟩ := ui_tops u hm e
  rw [m1.2 _ s h1 hk, m1.2 _ s' h2 hk'] at h4
  simp only [Tm.mk.injEq] at h4
  refine hs ⟨h4.1, h4.2.1, h4.2.2.1, ?_⟩
  have := congrArg List.length h4.2.2.2.2
  simpa using this
end
def ints (l : List Nat) : List Int := l.map fun (k : Nat) => (k : Int)
theorem ints_len (l : List Nat) : (ints l).length = l.length := List.length_map _
def KB (h : AHeap) (S B : Nat) (v : AV) (kl : List Int) : Prop := (v = .slc true [] ∧ kl = []) ∨ ∃ K g, v = .arr K 0 kl.length g 1 ∧ hget h K = .arr 1 (kl.map AV.int) g ∧ K ≠ S ∧ K < B
theorem KB.kf {h H : AHeap} {S B : Nat} (k : Kf S h H) {v : AV} {kl : List Int} (x : KB h S B v kl) : KB H S B v kl := by
  rcases x with x | ⟨K, g, e1, e2, e3, e4⟩
  · exact .inl x
  · exact .inr ⟨K, g, e1, k.2 K _ e2 (by simp) e3 (by simp), e3, e4⟩
theorem KB.kw {h H : AHeap} {S B T : Nat} (hT : B ≤ T) (k : Kw S T h H) {v : AV} {kl : List Int} (x : KB h S B v kl) : KB H S B v kl := by
  rcases x with x | ⟨K, g, e1, e2, e3, e4⟩
  · exact .inl x
  · exact .inr ⟨K, g, e1, k.2 K _ e2 (by simp) e3 (by omega) (by simp), e3, e4⟩
theorem KB.mono {h : AHeap} {S B B' : Nat} (hB : B ≤ B') {v : AV} {kl : List Int} (x : KB h S B v kl) : KB h S B' v kl := by
  rcases x with x | ⟨K, g, e1, e2, e3, e4⟩
  · exact .inl x
  · exact .inr ⟨K, g, e1, e2, e3, by omega⟩
theorem KB.kd {h : AHeap} {S B : Nat} {v : AV} {kl : List Int} (x : KB h S B v kl) : KD h v kl := by
  rcases x with x | ⟨K, g, e1, e2, e3, e4⟩
  · exact .inl x
  · exact .inr ⟨K, g, e1, e2⟩
structure NR1 (h : AHeap) (S B : Nat) (sh : List Sh) (rt r : Nat → Nat) (vis : Nat → Bool) (w : Int) (i : Nat) (n : Nd) (s : Sh) : Prop where
  kind : n.kind = s.kind
  pkg : n.pkg = s.pkg
  name : n.name = s.name
  kids : KB h S B n.kids (ints s.kids)
  to : ∃ j : Nat, n.to = (j : Int) ∧ j < sh.length ∧ rt j = rt i ∧ (j = i ∨ r j < r i) ∧ (rt i = i → j = i) ∧ (j = i → rt i = i)
  mark : n.mark = w ↔ vis i = true
  le : n.mark ≤ w
def NR (h : AHeap) (S B : Nat) (sh : List Sh) (rt r : Nat → Nat) (vis : Nat → Bool) (w : Int) (ns : List Nd) : Prop :=
  ns.length = sh.length ∧ ∀ (i : Nat) (n : Nd) (s : Sh), ns[i]? = some n → sh[i]? = some s → NR1 h S B sh rt r vis w i n s
theorem NR1.kf {h H : AHeap} {S B : Nat} (k : Kf S h H) {sh : List Sh} {rt r : Nat → Nat} {vis : Nat → Bool} {w : Int} {i : Nat} {n : Nd} {s : Sh} (x : NR1 h S B sh rt r vis w i n s) : NR1 H S B sh rt r vis w i n s :=
  ⟨x.kind, x.pkg, x.name, x.kids.kf k, x.to, x.mark, x.le⟩
theorem NR.kf {h H : AHeap} {S B : Nat} (k : Kf S h H) {sh : List Sh} {rt r : Nat → Nat} {vis : Nat → Bool} {w : Int} {ns : List Nd} (x : NR h S B sh rt r vis w ns) : NR H S B sh rt r vis w ns :=
  ⟨x.1, fun i n s h1 h2 => (x.2 i n s h1 h2).kf k⟩
theorem NR1.kw {h H : AHeap} {S B T : Nat} (hT : B ≤ T) (k : Kw S T h H) {sh : List Sh} {rt r : Nat → Nat} {vis : Nat → Bool} {w : Int} {i : Nat} {n : Nd} {s : Sh} (x : NR1 h S B sh rt r vis w i n s) : NR1 H S B sh rt r vis w i n s :=
  ⟨x.kind, x.pkg, x.name, x.kids.kw hT k, x.to, x.mark, x.le⟩
theorem NR.kw {h H : AHeap} {S B T : Nat} (hT : B ≤ T) (k : Kw S T h H) {sh : List Sh} {rt r : Nat → Nat} {vis : Nat → Bool} {w : Int} {ns : List Nd} (x : NR h S B sh rt r vis w ns) : NR H S B sh rt r vis w ns :=
  ⟨x.1, fun i n s h1 h2 => (x.2 i n s h1 h2).kw hT k⟩
theorem NR.next {h : AHeap} {S B : Nat} {sh : List Sh} {rt r : Nat → Nat} {vis : Nat → Bool} {w : Int} {ns : List Nd} (x : NR h S B sh rt r vis w ns) : NR h S B sh rt r (fun _ => false) (w + 1) ns :=
  ⟨x.1, fun i n s h1 h2 => by
    have y := x.2 i n s h1 h2
    have := y.le
    exact ⟨y.kind, y.pkg, y.name, y.kids, y.to, by simp; omega, by omega⟩⟩
theorem NR.at {h : AHeap} {S B : Nat} {sh : List Sh} {rt r : Nat → Nat} {vis : Nat → Bool} {w : Int} {ns : List Nd} (x : NR h S B sh rt r vis w ns) {i : Nat} (hi : i < sh.length) : ∃ (n : Nd) (s : Sh), ns[i]? = some n ∧ sh[i]? = some s ∧ NR1 h S B sh rt r vis w i n s := by
  obtain ⟨n, hn⟩ := at_of_lt (l := ns) (i := i) (by rw [x.1]; exact hi)
  obtain ⟨s, hs⟩ := at_of_lt hi
  exact ⟨n, s, hn, hs, x.2 i n s hn hs⟩
theorem NR.set {h : AHeap} {S B : Nat} {sh : List Sh} {rt r : Nat → Nat} {vis : Nat → Bool} {w : Int} {ns : List Nd} (x : NR h S B sh rt r vis w ns) {i : Nat} {n : Nd} (hn : ∀ s, sh[i]? = some s → NR1 h S B sh rt r vis w i n s) : NR h S B sh rt r vis w (ns.set i n) := by
  refine ⟨by rw [List.length_set]; exact x.1, fun j m s h1 h2 => ?_⟩
  by_cases e : i = j
  · subst e
    have := lt_of_at h1
    rw [List.length_set] at this
    rw [List.getElem?_set_self this] at h1
    cases h1
    exact hn s h2
  · rw [List.getElem?_set_ne e] at h1
    exact x.2 j m s h1 h2
set_option maxHeartbeats 4000000 in
theorem find_loop {S B : Nat} {b : Int} {fl : Bool} {w : Int} {sh : List Sh} {rt r : Nat → Nat} {vis : Nat → Bool} : ∀ (N i : Nat) (h : AHeap) (ns : List Nd), r i < N → i < sh.length → SP h S ns b fl w → NR h S B sh rt r vis w ns →
    ∃ H ns', lrun Tryd.prog md fg (fg 64) (loopOf Tryd.f64 0) (fg 64 1) (((.ptr S 0) :: (.int i) :: .unk :: .unk :: .unk :: .unk :: .unk :: .unk :: .unk :: .unk :: .unk :: .unk :: .unk :: .unk :: .unk :: .unk :: .unk :: .unk :: .unk :: .unk :: .unk :: .unk :: .unk :: .unk :: .unk :: .unk :: .unk :: .unk :: .unk :: .unk :: .unk :: .unk :: .unk :: .unk :: .unk :: .unk :: .unk :: .unk :: .unk :: .unk :: .unk :: .unk :: .unk :: .unk :: .unk :: .unk :: [] : List AV)) h = some (.exit 0, ((.ptr S 0) :: (.int (rt i : Nat)) :: .unk :: .unk :: .unk :: .unk :: .unk :: .unk :: .unk :: .unk :: .unk :: .unk :: .unk :: .unk :: .unk :: .unk :: .unk :: .unk :: .unk :: .unk :: .unk :: .unk :: .unk :: .unk :: .unk :: .unk :: .unk :: .unk :: .unk :: .unk :: .unk :: .unk :: .unk :: .unk :: .unk :: .unk :: .unk :: .unk :: .unk :: .unk :: .unk :: .unk :: .unk :: .unk :: .unk :: .unk :: [] : List AV), H) ∧ SP H S ns' b fl w ∧ NR H S B sh rt r vis w ns' ∧ Kf S h H ∧ H.length = h.length
  | 0, i, h, ns, h0, _, _, _ => by omega
  | N + 1, i, h, ns, h0, hi, hs, hn => by
    obtain ⟨n, s, hx, hsx, hn1⟩ := hn.at hi
    obtain ⟨j, hj, hjl, hjr, hjd, hji, hjj⟩ := hn1.to
    obtain ⟨A, g, h1, h2⟩ := sp_arr hs (ne_of_at hx)
    have ht : ((i : Int)).toNat = i := by omega
    have hlt := lt_of_at hx
    by_cases hji' : j = i
    · subst hji'
      have e := hjj rfl
      obtain ⟨k, p, m, ks, l, t, mk⟩ := n
      dsimp only at hj
      subst hj
      refine ⟨h, ns, ?_, hs, hn, Kf.refl S h, rfl⟩
      rw [e]
      rw [lrun_atC loop64_0]
      simp (implicitDefEqProofs := false) (disch := omega) only [go_sem, seval, rgn Tryd.f64 1 rfl, h1, h2, List.getElem?_map, ht, hx, Option.map_some, ndV_mk]
    · have hd : r j < r i := by omega
      obtain ⟨n2, s2, hy, hsy, hn2⟩ := hn.at hjl
      obtain ⟨j2, hj2, hj2l, hj2r, hj2d, hj2i, hj2j⟩ := hn2.to
      have ht2 : ((j : Int)).toNat = j := by omega
      have hlt2 := lt_of_at hy
      have hne : ¬ ((j : Nat) : Int) = (i : Int) := by omega
      have hd2 : r j2 < r i := by rcases hj2d with e | e
                                  · rw [e]; exact hd
                                  · omega
      have hj2ne : j2 ≠ i := by rintro rfl; omega
      have hn1' := hn1
      obtain ⟨k, p, m, ks, l, t, mk⟩ := n
      obtain ⟨k2, p2, m2, ks2, l2, t2, mk2⟩ := n2
      dsimp only at hj hj2
      subst hj; subst hj2
      obtain ⟨z1, z2⟩ := sp_set h1 h2 i ⟨k, p, m, ks, l, (j2 : Int), mk⟩
      have hNR : NR h S B sh rt r vis w (ns.set i ⟨k, p, m, ks, l, (j2 : Int), mk⟩) := hn.set fun s' hs' => by
        rw [hsx] at hs'; cases hs'
        exact ⟨hn1.kind, hn1.pkg, hn1.name, hn1.kids, ⟨j2, rfl, hj2l, hj2r.trans hjr, .inr hd2, fun e => absurd (hji e) hji', fun e => absurd e hj2ne⟩, hn1.mark, hn1.le⟩
      have hA := hlt_of h2 (by simp)
      have hAS : ¬ A = S := by rintro rfl; rw [h2] at h1; cases h1
      obtain ⟨H, ns', c1, c2, c3, c4, c5⟩ := find_loop N j2 _ _ (by omega) hj2l z1 (hNR.kf z2)
      refine ⟨H, ns', ?_, c2, c3, z2.trans c4, by rw [c5, List.length_set]⟩
      rw [← hjr, ← hj2r, ← c1]
      have hgt : (ns.map ndV)[i]? = some (.agg [.int k, .str (txt p), .str (txt m), ks, .int l, .int (j : Int), .int mk]) := by rw [List.getElem?_map, hx]; rfl
      have hstp : septr true 1 (.int (j2 : Int)) g 7 i 5 h A (.arr 7 (ns.map ndV) g) = some (h.set A (.arr 7 ((ns.set i ⟨k, p, m, ks, l, (j2 : Int), mk⟩).map ndV) g)) := by
        rw [← map_set']
        simp [septr, hgt, AV.cells, patch, putAt, ndV]
      have y1 : hget (h.set A (.arr 7 ((ns.set i ⟨k, p, m, ks, l, (j2 : Int), mk⟩).map ndV) g)) S = .vars [.arr A 0 ns.length g 7, .int b, .val (.bool fl), .int w] := by rw [hget_set_ne hAS]; exact h1
      have y2 : hget (h.set A (.arr 7 ((ns.set i ⟨k, p, m, ks, l, (j2 : Int), mk⟩).map ndV) g)) A = .arr 7 ((ns.set i ⟨k, p, m, ks, l, (j2 : Int), mk⟩).map ndV) g := hget_set_eq hA
      have y3 : (ns.set i ⟨k, p, m, ks, l, (j2 : Int), mk⟩)[i]? = some ⟨k, p, m, ks, l, (j2 : Int), mk⟩ := List.getElem?_set_self hlt
      rw [lrun_atC loop64_0]
      simp (implicitDefEqProofs := false) (disch := omega) only [go_sem, seval, rgn Tryd.f64 1 rfl, rgn Tryd.f64 2 rfl, rgn Tryd.f64 3 rfl, h1, h2, List.getElem?_map, ht, ht2, hx, hy, Option.map_some, ndV_mk, hne, hstp, y1, y2, y3, thenDraw_store]
theorem find_c {h : AHeap} {S B : Nat} {ns : List Nd} {b : Int} {fl : Bool} {w : Int} {sh : List Sh} {rt r : Nat → Nat} {vis : Nat → Bool} {i : Nat} (hi : i < sh.length) (hs : SP h S ns b fl w) (hn : NR h S B sh rt r vis w ns) :
    ∃ H ns', doCall md (aval Tryd.prog md fg) 64 [.ptr S 0, .int i] h = some (.int (rt i : Nat), H) ∧ SP H S ns' b fl w ∧ NR H S B sh rt r vis w ns' ∧ Kf S h H ∧ H.length = h.length := by
  obtain ⟨H, ns', c1, c2, c3, c4, c5⟩ := find_loop (r i + 1) i h ns (by omega) hi hs hn
  refine ⟨H, ns', doCall_same md64 ?_ c5, c2, c3, c4, c5⟩
  rw [aval_of Tryd.func64 body64 Tryd.results64 Tryd.ntmps64 ok64]
  simp (implicitDefEqProofs := false) (disch := omega) only [go_sem, seval, rgn Tryd.f64 0 rfl, rgn Tryd.f64 4 rfl, c1]
theorem Kf.agree {S : Nat} {h H H' : AHeap} (k : Kf S h H) (hl : h.length ≤ H'.length) (ha : ∀ j, j < h.length → hget H' j = hget H j) : Kf S h H' :=
  ⟨hl, fun j o e h1 h2 h3 => by rw [ha j (hlt_of e h1)]; exact k.2 j o e h1 h2 h3⟩
theorem KB.agree {h H : AHeap} {S B m : Nat} (hB : B ≤ m) (ha : ∀ j, j < m → hget H j = hget h j) {v : AV} {kl : List Int} (x : KB h S B v kl) : KB H S B v kl := by
  rcases x with x | ⟨K, g, e1, e2, e3, e4⟩
  · exact .inl x
  · exact .inr ⟨K, g, e1, by rw [ha K (by omega)]; exact e2, e3, e4⟩
theorem NR.agree {h H : AHeap} {S B m : Nat} (hB : B ≤ m) (ha : ∀ j, j < m → hget H j = hget h j) {sh : List Sh} {rt r : Nat → Nat} {vis : Nat → Bool} {w : Int} {ns : List Nd} (x : NR h S B sh rt r vis w ns) : NR H S B sh rt r vis w ns :=
  ⟨x.1, fun i n s h1 h2 => by
    have y := x.2 i n s h1 h2
    exact ⟨y.kind, y.pkg, y.name, y.kids.agree hB ha, y.to, y.mark, y.le⟩⟩
theorem doCall_sp5 {f : FuncId} {vs : List AV} {h H : AHeap} {r : AV} {S : Nat} {ns0 ns : List Nd} {b0 b : Int} {f0 f1 : Bool} {w0 w : Int} (hm : md f = 1) (e : aval Tryd.prog md fg f vs h = some (r, H)) (h0 : SP h S ns0 b0 f0 w0) (h1 : SP H S ns b f1 w) (hl : h.length ≤ H.length) :
    ∃ H', doCall md (aval Tryd.prog md fg) f vs h = some (r, H') ∧ SP H' S ns b f1 w ∧ h.length ≤ H'.length ∧ ∀ j, j < h.length → hget H' j = hget H j := by
  obtain ⟨nv0, a1, a2⟩ := h0
  have hS := hlt_of a1 (by simp)
  rw [doCall_0 (by omega)]
  unfold doCall0
  rw [if_neg (by omega), rated_id (by omega), e]
  dsimp only
  split
  · rename_i hg
    obtain ⟨nv, c1, c2⟩ := h1
    refine ⟨_, rfl, ⟨nv, by rw [hget_take hS]; exact c1, ?_⟩, by rw [List.length_take]; omega, fun j hj => hget_take hj⟩
    rcases c2 with c2 | ⟨A, g, rfl, c2⟩
    · exact .inl c2
    · refine .inr ⟨A, g, rfl, ?_⟩
      have hA : A < h.length := by
        rcases hg.2 S hS with e1 | e1
        · have : hget H S = hget h S := by unfold hget; rw [List.getD_eq_getElem?_getD, e1, ← List.getD_eq_getElem?_getD]
          rw [c1, a1] at this
          simp only [AObj.vars.injEq, List.cons.injEq] at this
          rcases a2 with ⟨_, a2⟩ | ⟨A', g', a2, a3⟩
          · rw [a2] at this; cases this.1
          · rw [a2] at this
            have h5 := this.1
            simp only [AV.arr.injEq] at h5
            rw [h5.1]; exact hlt_of a3 (by simp)
        · rw [c1] at e1
          simp only [belowO, belowL, below, Bool.and_eq_true, decide_eq_true_eq] at e1
          exact e1.1
      rw [hget_take hA]; exact c2
  · exact ⟨_, rfl, h1, hl, fun _ _ => rfl⟩
def wt : List Sh → (Nat → Bool) → Nat → Nat
  | [], _, _ => 0
  | s :: r, P, i => (if P i = true then 0 else s.kids.length) + wt r P (i + 1)
def upd (P : Nat → Bool) (x : Nat) : Nat → Bool := fun k => if k = x then true else P k
theorem wt_upd_out : ∀ (sh : List Sh) (P : Nat → Bool) (i x : Nat), x < i → wt sh (upd P x) i = wt sh P i
  | [], P, i, x, _ => rfl
  | s :: r, P, i, x, h => by
    unfold wt
    rw [wt_upd_out r P (i + 1) x (by omega)]
    have : upd P x i = P i := if_neg (by omega)
    rw [this]
theorem wt_upd : ∀ (sh : List Sh) (P : Nat → Bool) (i x : Nat) (s : Sh), sh[x]? = some s → P (i + x) = false → wt sh (upd P (i + x)) i + s.kids.length = wt sh P i
  | [], P, i, x, s, h, _ => by simp at h
  | a :: r, P, i, 0, s, h, hp => by
    simp at h
    subst h
    rw [Nat.add_zero] at hp ⊢
    unfold wt
    rw [wt_upd_out r P (i + 1) i (by omega), hp]
    have : upd P i i = true := if_pos rfl
    rw [this]; simp; omega
  | a :: r, P, i, x + 1, s, h, hp => by
    have := wt_upd r P (i + 1) x s (by simpa using h) (by rw [← hp]; congr 1; omega)
    unfold wt
    have e : i + (x + 1) = i + 1 + x := by omega
    have : upd P (i + (x + 1)) i = P i := if_neg (by omega)
    rw [this, e]; omega
theorem wt_le : ∀ (sh : List Sh) (P : Nat → Bool) (i : Nat), wt sh P i ≤ wt sh (fun _ => false) i
  | [], P, i => Nat.le_refl _
  | s :: r, P, i => by
    unfold wt
    have := wt_le r P (i + 1)
    split
    · simp; omega
    · simp; omega
theorem ints_append (a b : List Nat) : ints (a ++ b) = ints a ++ ints b := List.map_append
section
variable {h hF : AHeap} {S T gT : Nat} {ns : List Nd} {b w : Int} {fl : Bool} {st : List Nat} {rest : List Int} {x i : Nat}
set_option maxHeartbeats 8000000
theorem w2_skip (cf : doCall md (aval Tryd.prog md fg) 64 [.ptr S 0, .int x] h = some (.int i, hF)) (hs : SP hF S ns b fl w) (f : FuncId) (caps : List AV) (hT : TI h T gT (ints (st ++ [x]) ++ rest)) (hTF : TI hF T gT (ints (st ++ [x]) ++ rest)) (hst : st.length ≤ 100000) {n : Nd} (hx : ns[i]? = some n) (hmk : n.mark = w) :
    lrun Tryd.prog md fg (fg 65) (loopOf Tryd.f65 0) (fg 65 1) (((.ptr S 0) :: .unk :: (.clo f [] caps) :: .unk :: .unk :: .unk :: (.val (.bool false)) :: (.arr T 0 (st ++ [x]).length gT 1) :: .unk :: .unk :: .unk :: .unk :: .unk :: .unk :: .unk :: .unk :: .unk :: .unk :: .unk :: .unk :: .unk :: .unk :: .unk :: .unk :: .unk :: .unk :: .unk :: .unk :: .unk :: .unk :: .unk :: .unk :: .unk :: .unk :: .unk :: .unk :: .unk :: .unk :: .unk :: .unk :: .unk :: .unk :: .unk :: .unk :: .unk :: .unk :: .unk :: .unk :: .unk :: .unk :: .unk :: .unk :: .unk :: .unk :: .unk :: .unk :: .unk :: .unk :: .unk :: .unk :: .unk :: .unk :: .unk :: .unk :: .unk :: .unk :: .unk :: .unk :: .unk :: .unk :: .unk :: .unk :: [] : List AV)) h = lrun Tryd.prog md fg (fg 65) (loopOf Tryd.f65 0) (fg 65 1) (((.ptr S 0) :: .unk :: (.clo f [] caps) :: .unk :: .unk :: .unk :: (.val (.bool false)) :: (.arr T 0 st.length gT 1) :: .unk :: .unk :: .unk :: .unk :: .unk :: .unk :: .unk :: .unk :: .unk :: .unk :: .unk :: .unk :: .unk :: .unk :: .unk :: .unk :: .unk :: .unk :: .unk :: .unk :: .unk :: .unk :: .unk :: .unk :: .unk :: .unk :: .unk :: .unk :: .unk :: .unk :: .unk :: .unk :: .unk :: .unk :: .unk :: .unk :: .unk :: .unk :: .unk :: .unk :: .unk :: .unk :: .unk :: .unk :: .unk :: .unk :: .unk :: .unk :: .unk :: .unk :: .unk :: .unk :: .unk :: .unk :: .unk :: .unk :: .unk :: .unk :: .unk :: .unk :: .unk :: .unk :: .unk :: .unk :: [] : List AV)) hF := by
  obtain ⟨A, g, h1, h2'⟩ := sp_arr hs (ne_of_at hx)
  have hlt := (List.getElem?_eq_some_iff.1 hx).1
  have ht : ((i : Int)).toNat = i := by omega
  unfold TI at hT hTF
  have hlen : (st ++ [x]).length = st.length + 1 := by simp
  have hlast : ((ints (st ++ [x]) ++ rest).map AV.int)[st.length]? = some (.int x) := by simp [ints]
  obtain ⟨k, p, m, ks, l, t, mk⟩ := n
  dsimp only at hmk
  subst hmk
  have hl1 : (((st.length + 1 : Nat) : Int) - 1).toNat = st.length := by omega
  have hl2 : (((st.length : Nat) : Int) + 1 - 1).toNat = st.length := by omega
  rw [hlen]
  rw [lrun_atC loop65_0]
  simp (implicitDefEqProofs := false) (disch := omega) only [go_sem, seval, rgn Tryd.f65 3 rfl, rgn Tryd.f65 4 rfl, rgn Tryd.f65 5 rfl, rgn Tryd.f65 6 rfl, hT, hTF, hlast, hl1, hl2, cf, h1, h2', List.getElem?_map, ht, hx, Option.map_some, ndV_mk, Nat.sub_zero]
theorem w2_false (cf : doCall md (aval Tryd.prog md fg) 64 [.ptr S 0, .int x] h = some (.int i, hF)) (hs : SP hF S ns b fl w) (f : FuncId) (caps : List AV) (hc : callable Tryd.prog f = true) (hT : TI h T gT (ints (st ++ [x]) ++ rest)) (hTF : TI hF T gT (ints (st ++ [x]) ++ rest)) (hst : st.length ≤ 100000) {n : Nd} (hx : ns[i]? = some n) (hmk : n.mark ≠ w)
    (ns2 : List Nd) (hcl : ∀ h1, SP h1 S (ns.set i (mkN w n)) b fl w → Kf S hF h1 → ∃ h2, doCall md (aval Tryd.prog md fg) f (.int i :: caps) h1 = some (.val (.bool false), h2) ∧ SP h2 S ns2 b fl w ∧ Kf S h1 h2) :
    (∃ h2 a7, lrun Tryd.prog md fg (fg 65) (loopOf Tryd.f65 0) (fg 65 1) (((.ptr S 0) :: .unk :: (.clo f [] caps) :: .unk :: .unk :: .unk :: (.val (.bool false)) :: (.arr T 0 (st ++ [x]).length gT 1) :: .unk :: .unk :: .unk :: .unk :: .unk :: .unk :: .unk :: .unk :: .unk :: .unk :: .unk :: .unk :: .unk :: .unk :: .unk :: .unk :: .unk :: .unk :: .unk :: .unk :: .unk :: .unk :: .unk :: .unk :: .unk :: .unk :: .unk :: .unk :: .unk :: .unk :: .unk :: .unk :: .unk :: .unk :: .unk :: .unk :: .unk :: .unk :: .unk :: .unk :: .unk :: .unk :: .unk :: .unk :: .unk :: .unk :: .unk :: .unk :: .unk :: .unk :: .unk :: .unk :: .unk :: .unk :: .unk :: .unk :: .unk :: .unk :: .unk :: .unk :: .unk :: .unk :: .unk :: .unk :: [] : List AV)) h = some (.ret, ((.ptr S 0) :: .unk :: (.clo f [] caps) :: .unk :: .unk :: .unk :: (.val (.bool false)) :: (a7) :: .unk :: .unk :: .unk :: .unk :: .unk :: .unk :: .unk :: .unk :: .unk :: .unk :: .unk :: .unk :: .unk :: .unk :: .unk :: .unk :: .unk :: .unk :: .unk :: .unk :: .unk :: .unk :: .unk :: .unk :: .unk :: .unk :: .unk :: .unk :: .unk :: .unk :: .unk :: .unk :: .unk :: .unk :: .unk :: .unk :: .unk :: .unk :: .unk :: .unk :: .unk :: .unk :: .unk :: .unk :: .unk :: .unk :: .unk :: .unk :: .unk :: .unk :: .unk :: .unk :: .unk :: .unk :: .unk :: .unk :: .unk :: .unk :: .unk :: .unk :: .unk :: .unk :: .unk :: .unk :: [] : List AV), h2) ∧ SP h2 S ns2 b fl w ∧ Kf S hF h2) := by
  obtain ⟨A, g, h1, h2'⟩ := sp_arr hs (ne_of_at hx)
  have hlt := (List.getElem?_eq_some_iff.1 hx).1
  have ht : ((i : Int)).toNat = i := by omega
  obtain ⟨s1, s2⟩ := sp_set h1 h2' i (mkN w n)
  obtain ⟨h3, c1, c2, c3⟩ := hcl _ s1 s2
  unfold TI at hT hTF
  have hlen : (st ++ [x]).length = st.length + 1 := by simp
  have hlast : ((ints (st ++ [x]) ++ rest).map AV.int)[st.length]? = some (.int x) := by simp [ints]
  obtain ⟨k, p, m, ks, l, t, mk⟩ := n
  dsimp only at hmk
  have hgt : (ns.map ndV)[i]? = some (.agg [.int k, .str (txt p), .str (txt m), ks, .int l, .int t, .int mk]) := by rw [List.getElem?_map, hx]; rfl
  have hstp : septr true 1 (.int w) g 7 i 6 hF A (.arr 7 (ns.map ndV) g) = some (hF.set A (.arr 7 ((ns.set i (mkN w ⟨k, p, m, ks, l, t, mk⟩)).map ndV) g)) := by
    rw [← map_set']
    simp [septr, hgt, AV.cells, patch, putAt, ndV, mkN]
  have hl1 : (((st.length + 1 : Nat) : Int) - 1).toNat = st.length := by omega
  have hl2 : (((st.length : Nat) : Int) + 1 - 1).toNat = st.length := by omega
  refine ⟨h3, .arr T 0 st.length gT 1, ?_, c2, s2.trans c3⟩
  rw [hlen]
  rw [lrun_atC loop65_0]
  simp (implicitDefEqProofs := false) (disch := omega) only [go_sem, seval, rgn Tryd.f65 3 rfl, rgn Tryd.f65 4 rfl, rgn Tryd.f65 5 rfl, rgn Tryd.f65 6 rfl, rgn Tryd.f65 7 rfl, rgn Tryd.f65 8 rfl, rgn Tryd.f65 9 rfl, hT, hTF, hlast, hl1, hl2, cf, h1, h2', List.getElem?_map, ht, hx, Option.map_some, ndV_mk, hmk, hstp, hc, List.nil_append, List.cons_append, c1, thenDraw_store, Nat.sub_zero]
theorem w2_true (cf : doCall md (aval Tryd.prog md fg) 64 [.ptr S 0, .int x] h = some (.int i, hF)) (hs : SP hF S ns b fl w) (f : FuncId) (caps : List AV) (hc : callable Tryd.prog f = true) (hT : TI h T gT (ints (st ++ [x]) ++ rest)) (hTF : TI hF T gT (ints (st ++ [x]) ++ rest)) (hst : st.length ≤ 100000) (hTS : T ≠ S) {n : Nd} (hx : ns[i]? = some n) (hmk : n.mark ≠ w)
    (ns2 : List Nd) (hcl : ∀ h1, SP h1 S (ns.set i (mkN w n)) b fl w → Kf S hF h1 → ∃ h2, doCall md (aval Tryd.prog md fg) f (.int i :: caps) h1 = some (.val (.bool true), h2) ∧ SP h2 S ns2 b fl w ∧ Kf S h1 h2) {n2 : Nd} (hx2 : ns2[i]? = some n2) {kl : List Nat} (hkl : kl.length ≤ 100000) (hkd : ∀ h1 h2, Kf S hF h1 → Kf S h1 h2 → KD h2 n2.kids (ints kl)) :
    ∃ h4, lrun Tryd.prog md fg (fg 65) (loopOf Tryd.f65 0) (fg 65 1) (((.ptr S 0) :: .unk :: (.clo f [] caps) :: .unk :: .unk :: .unk :: (.val (.bool false)) :: (.arr T 0 (st ++ [x]).length gT 1) :: .unk :: .unk :: .unk :: .unk :: .unk :: .unk :: .unk :: .unk :: .unk :: .unk :: .unk :: .unk :: .unk :: .unk :: .unk :: .unk :: .unk :: .unk :: .unk :: .unk :: .unk :: .unk :: .unk :: .unk :: .unk :: .unk :: .unk :: .unk :: .unk :: .unk :: .unk :: .unk :: .unk :: .unk :: .unk :: .unk :: .unk :: .unk :: .unk :: .unk :: .unk :: .unk :: .unk :: .unk :: .unk :: .unk :: .unk :: .unk :: .unk :: .unk :: .unk :: .unk :: .unk :: .unk :: .unk :: .unk :: .unk :: .unk :: .unk :: .unk :: .unk :: .unk :: .unk :: .unk :: [] : List AV)) h = lrun Tryd.prog md fg (fg 65) (loopOf Tryd.f65 0) (fg 65 1) (((.ptr S 0) :: .unk :: (.clo f [] caps) :: .unk :: .unk :: .unk :: (.val (.bool false)) :: (.arr T 0 (st ++ kl).length (gT + 1) 1) :: .unk :: .unk :: .unk :: .unk :: .unk :: .unk :: .unk :: .unk :: .unk :: .unk :: .unk :: .unk :: .unk :: .unk :: .unk :: .unk :: .unk :: .unk :: .unk :: .unk :: .unk :: .unk :: .unk :: .unk :: .unk :: .unk :: .unk :: .unk :: .unk :: .unk :: .unk :: .unk :: .unk :: .unk :: .unk :: .unk :: .unk :: .unk :: .unk :: .unk :: .unk :: .unk :: .unk :: .unk :: .unk :: .unk :: .unk :: .unk :: .unk :: .unk :: .unk :: .unk :: .unk :: .unk :: .unk :: .unk :: .unk :: .unk :: .unk :: .unk :: .unk :: .unk :: .unk :: .unk :: [] : List AV)) h4 ∧ TI h4 T (gT + 1) (ints (st ++ kl)) ∧ SP h4 S ns2 b fl w ∧ Kw S T hF h4 := by
  obtain ⟨A, g, h1, h2'⟩ := sp_arr hs (ne_of_at hx)
  have hlt := (List.getElem?_eq_some_iff.1 hx).1
  have ht : ((i : Int)).toNat = i := by omega
  obtain ⟨s1, s2⟩ := sp_set h1 h2' i (mkN w n)
  obtain ⟨h3, c1, c2, c3⟩ := hcl _ s1 s2
  unfold TI at hT hTF
  have hlen : (st ++ [x]).length = st.length + 1 := by simp
  have hlast : ((ints (st ++ [x]) ++ rest).map AV.int)[st.length]? = some (.int x) := by simp [ints]
  obtain ⟨k, p, m, ks, l, t, mk⟩ := n
  dsimp only at hmk
  have hgt : (ns.map ndV)[i]? = some (.agg [.int k, .str (txt p), .str (txt m), ks, .int l, .int t, .int mk]) := by rw [List.getElem?_map, hx]; rfl
  have hstp : septr true 1 (.int w) g 7 i 6 hF A (.arr 7 (ns.map ndV) g) = some (hF.set A (.arr 7 ((ns.set i (mkN w ⟨k, p, m, ks, l, t, mk⟩)).map ndV) g)) := by
    rw [← map_set']
    simp [septr, hgt, AV.cells, patch, putAt, ndV, mkN]
  have hl1 : (((st.length + 1 : Nat) : Int) - 1).toNat = st.length := by omega
  have hl2 : (((st.length : Nat) : Int) + 1 - 1).toNat = st.length := by omega
  have hT3 : hget h3 T = .arr 1 ((ints (st ++ [x]) ++ rest).map AV.int) gT := (s2.trans c3).2 T _ hTF (by simp) hTS (by simp)
  have hTl := hlt_of hT3 (by simp)
  have hkd := hkd _ _ s2 c3
  obtain ⟨A2, g2, d1, d2⟩ := sp_arr c2 (ne_of_at hx2)
  have happ : ∀ z, appT (some (1, 8, z)) h3 (.arr T 0 st.length gT 1) (some ((ints kl).map AV.int)) = some (.arr T 0 (st ++ kl).length (gT + 1) 1, h3.set T (.arr 1 ((ints (st ++ kl)).map AV.int) (gT + 1))) := fun z => by
    rw [appT_arr2 _ _ _ _ _ _ _ _ hT3 (by simp [ints]) (headOk_ints (ints kl)) (by simp [ints]; omega)]
    congr 2
    · simp [ints]
    · have : ((ints (st ++ [x]) ++ rest).map AV.int).take st.length = (ints st).map AV.int := by simp [ints]
      rw [this, ints_append, List.map_append]
  have hkv : aelems h3 n2.kids = some ((ints kl).map AV.int) := by
    rcases hkd with ⟨e1, e2⟩ | ⟨K, g', e1, e2⟩
    · rw [e1, e2]; rfl
    · rw [e1, aelems_arr]; exact sview_arr _ _ _ _ _ e2 (by simp)
  refine ⟨_, ?_, hget_set_eq hTl, ?_, ?_⟩
  · rw [hlen]
    obtain ⟨k5, p5, m5, ks5, l5, t5, mk5⟩ := n2
    dsimp only at hkv
    have hks5 : (∃ K g' l, ks5 = .arr K 0 l g' 1) ∨ ks5 = .slc true [] := by
      rcases hkd with ⟨e1, _⟩ | ⟨K, g', e1, _⟩
      · exact .inr e1
      · exact .inl ⟨K, g', _, e1⟩
    have hlt2 := (List.getElem?_eq_some_iff.1 hx2).1
    rcases hks5 with ⟨K, g', l, rfl⟩ | rfl
    · rw [aelems_arr] at hkv
      rw [lrun_atC loop65_0]
      simp (implicitDefEqProofs := false) (disch := omega) only [go_sem, seval, rgn Tryd.f65 3 rfl, rgn Tryd.f65 4 rfl, rgn Tryd.f65 5 rfl, rgn Tryd.f65 6 rfl, rgn Tryd.f65 7 rfl, rgn Tryd.f65 8 rfl, rgn Tryd.f65 10 rfl, hT, hTF, hlast, hl1, hl2, cf, h1, h2', List.getElem?_map, ht, hx, hx2, d1, d2, Option.map_some, ndV_mk, hmk, hstp, hc, List.nil_append, List.cons_append, c1, thenDraw_store, Nat.sub_zero, hkv, happ]
    · have hkn : kl = [] := by
        rw [aelems_slc] at hkv
        simpa [ints] using hkv.symm
      subst hkn
      rw [show ints [] = [] from rfl, List.map_nil] at happ
      rw [lrun_atC loop65_0]
      simp (implicitDefEqProofs := false) (disch := omega) only [go_sem, seval, rgn Tryd.f65 3 rfl, rgn Tryd.f65 4 rfl, rgn Tryd.f65 5 rfl, rgn Tryd.f65 6 rfl, rgn Tryd.f65 7 rfl, rgn Tryd.f65 8 rfl, rgn Tryd.f65 10 rfl, hT, hTF, hlast, hl1, hl2, cf, h1, h2', List.getElem?_map, ht, hx, hx2, d1, d2, Option.map_some, ndV_mk, hmk, hstp, hc, List.nil_append, List.cons_append, c1, thenDraw_store, Nat.sub_zero, happ]
  · obtain ⟨nv, z1, z2⟩ := c2
    refine ⟨nv, by rw [hget_set_ne hTS]; exact z1, ?_⟩
    rcases z2 with z2 | ⟨A', g', z2, z3⟩
    · exact .inl z2
    · exact .inr ⟨A', g', z2, by rw [hget_set_ne (by rintro rfl; rw [hT3] at z3; simp at z3)]; exact z3⟩
  · have kf := s2.trans c3
    refine ⟨by rw [List.length_set]; exact kf.1, fun j o e q1 q2 q3 q4 => ?_⟩
    rw [hget_set_ne (by omega)]
    exact kf.2 j o e q1 q2 q4
end
theorem NR.mark' {h : AHeap} {S B : Nat} {sh : List Sh} {rt r : Nat → Nat} {vis : Nat → Bool} {w : Int} {ns : List Nd} (x : NR h S B sh rt r vis w ns) {i : Nat} {n n' : Nd} (hx : ns[i]? = some n) (hn : n' = { n with level := n'.level, mark := w }) : NR h S B sh rt r (upd vis i) w (ns.set i n') := by
  refine ⟨by rw [List.length_set]; exact x.1, fun j m s h1 h2 => ?_⟩
  by_cases e : i = j
  · subst e
    rw [List.getElem?_set_self (lt_of_at hx)] at h1
    cases h1
    have y := x.2 i n s hx h2
    rw [hn]
    exact ⟨y.kind, y.pkg, y.name, y.kids, y.to, by simp [upd], Int.le_refl _⟩
  · rw [List.getElem?_set_ne e] at h1
    have y := x.2 j m s h1 h2
    have : upd vis i j = vis j := if_neg (fun q => e q.symm)
    exact ⟨y.kind, y.pkg, y.name, y.kids, y.to, by rw [this]; exact y.mark, y.le⟩
set_option maxHeartbeats 4000000 in
theorem walk_loop2 {h0 : AHeap} {S B T : Nat} {b w : Int} {fl : Bool} {sh : List Sh} {rt r : Nat → Nat} (ok : Ok sh rt r) (f : FuncId) (caps : List AV) (hc : callable Tryd.prog f = true) (hTS : T ≠ S) (hBT : B ≤ T) (F : Nat → Bool) (G : Nat → Nd → Nd) (hG : ∀ i n, G i n = { n with level := (G i n).level })
    (hcl : ∀ (h1 : AHeap) (ns1 : List Nd) (i : Nat) (n : Nd), Kw S T h0 h1 → SP h1 S ns1 b fl w → ns1[i]? = some n → n.kind ≠ 5 → ∃ h2, doCall md (aval Tryd.prog md fg) f (.int i :: caps) h1 = some (.val (.bool (F i)), h2) ∧ SP h2 S (ns1.set i (G i n)) b fl w ∧ Kf S h1 h2) :
    ∀ (N : Nat) (st : List Nat) (vis : Nat → Bool) (h : AHeap) (ns : List Nd) (gT : Nat) (rest : List Int), N ≤ 100000 → wt sh vis 0 + st.length ≤ N → (∀ x ∈ st, x < sh.length) → SP h S ns b fl w → NR h S B sh rt r vis w ns → TI h T gT (ints st ++ rest) → Kw S T h0 h →
    ∃ h' ns' vis' a7 c, lrun Tryd.prog md fg (fg 65) (loopOf Tryd.f65 0) (fg 65 1) (((.ptr S 0) :: .unk :: (.clo f [] caps) :: .unk :: .unk :: .unk :: (.val (.bool false)) :: (.arr T 0 st.length gT 1) :: .unk :: .unk :: .unk :: .unk :: .unk :: .unk :: .unk :: .unk :: .unk :: .unk :: .unk :: .unk :: .unk :: .unk :: .unk :: .unk :: .unk :: .unk :: .unk :: .unk :: .unk :: .unk :: .unk :: .unk :: .unk :: .unk :: .unk :: .unk :: .unk :: .unk :: .unk :: .unk :: .unk :: .unk :: .unk :: .unk :: .unk :: .unk :: .unk :: .unk :: .unk :: .unk :: .unk :: .unk :: .unk :: .unk :: .unk :: .unk :: .unk :: .unk :: .unk :: .unk :: .unk :: .unk :: .unk :: .unk :: .unk :: .unk :: .unk :: .unk :: .unk :: .unk :: .unk :: .unk :: [] : List AV)) h = some (c, ((.ptr S 0) :: .unk :: (.clo f [] caps) :: .unk :: .unk :: .unk :: (.val (.bool false)) :: (a7) :: .unk :: .unk :: .unk :: .unk :: .unk :: .unk :: .unk :: .unk :: .unk :: .unk :: .unk :: .unk :: .unk :: .unk :: .unk :: .unk :: .unk :: .unk :: .unk :: .unk :: .unk :: .unk :: .unk :: .unk :: .unk :: .unk :: .unk :: .unk :: .unk :: .unk :: .unk :: .unk :: .unk :: .unk :: .unk :: .unk :: .unk :: .unk :: .unk :: .unk :: .unk :: .unk :: .unk :: .unk :: .unk :: .unk :: .unk :: .unk :: .unk :: .unk :: .unk :: .unk :: .unk :: .unk :: .unk :: .unk :: .unk :: .unk :: .unk :: .unk :: .unk :: .unk :: .unk :: .unk :: [] : List AV), h') ∧ SP h' S ns' b fl w ∧ NR h' S B sh rt r vis' w ns' ∧ Kw S T h h' ∧
      ((c = .exit 0 ∧ (∀ i, vis i = true → vis' i = true) ∧ (∀ x ∈ st, vis' (rt x) = true) ∧ ∀ i, vis' i = true → vis i = false → F i = true ∧ ∀ s : Sh, sh[i]? = some s → ∀ k ∈ s.kids, vis' (rt k) = true) ∨ (c = .ret ∧ ∃ x ∈ st, ∃ i, Rch sh rt (rt x) i ∧ F i = false)) := by
  intro N
  induction N with
  | zero =>
    intro st vis h ns gT rest hN hm hst hs hn hT hk
    have : st = [] := List.eq_nil_of_length_eq_zero (by omega)
    subst this
    refine ⟨h, ns, vis, .arr T 0 0 gT 1, .exit 0, ?_, hs, hn, Kw.refl _ _ _, .inl ⟨rfl, fun _ e => e, by simp, fun i h1 h2 => by rw [h1] at h2; cases h2⟩⟩
    rw [List.length_nil]
    rw [lrun_atC loop65_0]
    simp (implicitDefEqProofs := false) (disch := omega) only [go_sem, seval, rgn Tryd.f65 3 rfl]
  | succ N ih =>
    intro st vis h ns gT rest hN hm hst hs hn hT hk
    rcases List.eq_nil_or_concat st with rfl | ⟨st, x, rfl⟩
    · refine ⟨h, ns, vis, .arr T 0 0 gT 1, .exit 0, ?_, hs, hn, Kw.refl _ _ _, .inl ⟨rfl, fun _ e => e, by simp, fun i h1 h2 => by rw [h1] at h2; cases h2⟩⟩
      rw [List.length_nil]
      rw [lrun_atC loop65_0]
      simp (implicitDefEqProofs := false) (disch := omega) only [go_sem, seval, rgn Tryd.f65 3 rfl]
    rw [List.concat_eq_append] at *
    rw [List.length_append, List.length_singleton] at hm
    have hxl := hst x (by simp)
    obtain ⟨hF, ns1, cf, s1, n1, k1, l1⟩ := find_c hxl hs hn
    have hT1 : TI hF T gT (ints (st ++ [x]) ++ rest) := k1.2 T _ hT (by simp) hTS (by simp)
    obtain ⟨n, s, hx, hsx, q⟩ := n1.at (ok.lt x hxl)
    have hk5 : n.kind ≠ 5 := by rw [q.kind]; exact ok.rig _ s hsx
    have hkF := hk.trans (k1.kw T)
    by_cases hv : vis (rt x) = true
    · have hmk := q.mark.2 hv
      rw [w2_skip cf s1 f caps hT hT1 (by omega) hx hmk]
      have hT2 : TI hF T gT (ints st ++ (ints [x] ++ rest)) := by rw [ints_append, List.append_assoc] at hT1; exact hT1
      obtain ⟨h', ns', vis', a7, c, e1, e2, e3, e4, e5⟩ := ih st vis hF ns1 gT _ (by omega) (by omega) (fun y hy => hst y (by simp [hy])) s1 n1 hT2 hkF
      refine ⟨h', ns', vis', a7, c, e1, e2, e3, (k1.kw T).trans e4, ?_⟩
      rcases e5 with ⟨e5, e6, e7, e8⟩ | ⟨e5, y, hy, e6⟩
      · refine .inl ⟨e5, e6, fun y hy => ?_, e8⟩
        rcases List.mem_append.1 hy with hy | hy
        · exact e7 y hy
        · rw [List.mem_singleton.1 hy]; exact e6 _ hv
      · exact .inr ⟨e5, y, by simp [hy], e6⟩
    · have hvf : vis (rt x) = false := by simpa using hv
      have hmk : n.mark ≠ w := fun e => hv (q.mark.1 e)
      have hlt := lt_of_at hx
      have hG2 : G (rt x) (mkN w n) = { n with level := (G (rt x) (mkN w n)).level, mark := w } := hG _ _
      have hmkd := n1.mark' hx hG2
      by_cases hFi : F (rt x) = true
      · obtain ⟨h4, e1, e2, e3, e4⟩ := w2_true (kl := s.kids) cf s1 f caps hc hT hT1 (by omega) hTS hx hmk (ns1.set (rt x) (G (rt x) (mkN w n))) (fun h1 z1 z2 => by
          obtain ⟨h2, c1, c2, c3⟩ := hcl h1 _ (rt x) (mkN w n) (hkF.trans (z2.kw T)) z1 (List.getElem?_set_self hlt) hk5
          rw [hFi] at c1
          rw [List.set_set] at c2
          exact ⟨h2, c1, c2, c3⟩) (n2 := G (rt x) (mkN w n)) (List.getElem?_set_self hlt) (by
            have := wt_upd sh vis 0 (rt x) s hsx (by simpa using hvf)
            omega) (fun h1 h2 z1 z2 => by
            rw [hG2]
            exact ((q.kids.kf z1).kf z2).kd)
        have hw := wt_upd sh vis 0 (rt x) s hsx (by simpa using hvf)
        rw [Nat.zero_add] at hw
        obtain ⟨h', ns', vis', a7, c, y1, y2, y3, y4, y5⟩ := ih (st ++ s.kids) (upd vis (rt x)) h4 _ (gT + 1) [] (by omega) (by rw [List.length_append]; omega) (fun y hy => by
          rcases List.mem_append.1 hy with hy | hy
          · exact hst y (by simp [hy])
          · exact (ok.kid _ s y hsx hy).1) e3 (hmkd.kw hBT e4) (by rw [List.append_nil]; exact e2) (hkF.trans e4)
        rw [e1]
        refine ⟨h', ns', vis', a7, c, y1, y2, y3, (k1.kw T).trans (e4.trans y4), ?_⟩
        rcases y5 with ⟨y5, y6, y7, y8⟩ | ⟨y5, y, hy, i, y6, y7⟩
        · have hroot : vis' (rt x) = true := y6 _ (by simp [upd])
          refine .inl ⟨y5, fun i hi => y6 i (by unfold upd; split; rfl; exact hi), fun y hy => ?_, fun i h1 h2 => ?_⟩
          · rcases List.mem_append.1 hy with hy | hy
            · exact y7 y (by simp [hy])
            · rw [List.mem_singleton.1 hy]; exact hroot
          · by_cases hi : i = rt x
            · subst hi
              refine ⟨hFi, fun s' hs' k hk' => ?_⟩
              rw [hsx] at hs'; cases hs'
              exact y7 k (by simp [hk'])
            · exact y8 i h1 (by unfold upd; rw [if_neg hi]; exact h2)
        · refine .inr ⟨y5, ?_⟩
          rcases List.mem_append.1 hy with hy | hy
          · exact ⟨y, by simp [hy], i, y6, y7⟩
          · exact ⟨x, by simp, i, .kid hsx hy y6, y7⟩
      · have hFf : F (rt x) = false := by simpa using hFi
        obtain ⟨h2, a7, e1, e2, e3⟩ := w2_false cf s1 f caps hc hT hT1 (by omega) hx hmk (ns1.set (rt x) (G (rt x) (mkN w n))) (fun h1 z1 z2 => by
          obtain ⟨h2, c1, c2, c3⟩ := hcl h1 _ (rt x) (mkN w n) (hkF.trans (z2.kw T)) z1 (List.getElem?_set_self hlt) hk5
          rw [hFf] at c1
          rw [List.set_set] at c2
          exact ⟨h2, c1, c2, c3⟩)
        exact ⟨h2, _, _, a7, .ret, e1, e2, hmkd.kf e3, (k1.kw T).trans (e3.kw T), .inr ⟨rfl, x, by simp, _, .refl _, hFf⟩⟩
theorem closed_all {sh : List Sh} {rt : Nat → Nat} {F : Nat → Bool} {vis' : Nat → Bool} (hc : ∀ i, vis' i = true → F i = true ∧ ∀ s : Sh, sh[i]? = some s → ∀ k ∈ s.kids, vis' (rt k) = true) {x v : Nat} (h : Rch sh rt x v) (hx : vis' x = true) : F v = true := by
  induction h with
  | refl x => exact (hc x hx).1
  | kid h1 h2 _ ih => exact ih ((hc _ hx).2 _ h1 _ h2)
set_option maxHeartbeats 4000000 in
theorem walk_c2 {h : AHeap} {S B : Nat} {b w : Int} {fl : Bool} {sh : List Sh} {rt r : Nat → Nat} {vis : Nat → Bool} {ns : List Nd} (ok : Ok sh rt r) (hs : SP h S ns b fl w) (hn : NR h S B sh rt r vis w ns) (hB : B ≤ h.length) (hwl : 0 ≤ w ∧ w ≤ 1000000000) (hsz : wt sh (fun _ => false) 0 < 100000) (f : FuncId) (caps : List AV) (hc : callable Tryd.prog f = true) (F : Nat → Bool) (G : Nat → Nd → Nd) (hG : ∀ i n, G i n = { n with level := (G i n).level })
    (hcl : ∀ (h1 : AHeap) (ns1 : List Nd) (i : Nat) (n : Nd), Kw S h.length h h1 → SP h1 S ns1 b fl (w + 1) → ns1[i]? = some n → n.kind ≠ 5 → ∃ h2, doCall md (aval Tryd.prog md fg) f (.int i :: caps) h1 = some (.val (.bool (F i)), h2) ∧ SP h2 S (ns1.set i (G i n)) b fl (w + 1) ∧ Kf S h1 h2)
    {x : Nat} (hx : x < sh.length) :
    ∃ H ns' vis' res, doCall md (aval Tryd.prog md fg) 65 [.ptr S 0, .int x, .clo f [] caps] h = some (.val (.bool res), H) ∧ SP H S ns' b fl (w + 1) ∧ NR H S B sh rt r vis' (w + 1) ns' ∧ Kf S h H ∧ (if res then ∀ v, Rch sh rt (rt x) v → F v = true else ∃ v, Rch sh rt (rt x) v ∧ F v = false) := by
  have hs0 := hs
  obtain ⟨nv, h1, h2⟩ := hs
  have hS := hlt_of h1 (by simp)
  have s1 : SP (h.set S (.vars [nv, .int b, .val (.bool fl), .int (w + 1)])) S ns b fl (w + 1) := ⟨nv, hget_set_eq hS, nn_set h2 h1⟩
  have hl : (h.set S (.vars [nv, .int b, .val (.bool fl), .int (w + 1)])).length = h.length := List.length_set
  have s2 := sp_app s1 [.arr 1 [.int x] 0]
  have k2 : Kw S h.length h (h.set S (.vars [nv, .int b, .val (.bool fl), .int (w + 1)]) ++ [.arr 1 [.int x] 0]) := ⟨by simp, fun j o e z1 z2 z3 z4 => by
    rw [hget_app _ (by rw [hl]; exact hlt_of e z1), hget_set_ne (fun z => z2 z.symm)]; exact e⟩
  have t2 : TI (h.set S (.vars [nv, .int b, .val (.bool fl), .int (w + 1)]) ++ [.arr 1 [.int x] 0]) h.length 0 (ints [x] ++ []) := by
    unfold TI
    have := @hget_last (h.set S (.vars [nv, .int b, .val (.bool fl), .int (w + 1)])) (.arr 1 [.int x] 0)
    rw [hl] at this
    exact this
  obtain ⟨h', ns', vis', a7, c, z1, z2, z3, z4, z5⟩ := walk_loop2 ok f caps hc (by omega) hB F G hG hcl _ [x] (fun _ => false) _ ns 0 [] (by simp; omega) (Nat.le_refl _) (by simp [hx]) s2 (hn.next.kw hB k2) t2 k2
  have kf : Kf S h h' := by
    have k := k2.trans z4
    exact ⟨k.1, fun j o e y1 y2 y3 => k.2 j o e y1 y2 (by have := hlt_of e y1; omega) y3⟩
  rw [List.length_singleton] at z1
  rcases z5 with ⟨rfl, e6, e7, e8⟩ | ⟨rfl, y, hy, v, e6, e7⟩
  · have e : aval Tryd.prog md fg 65 [.ptr S 0, .int x, .clo f [] caps] h = some (.val (.bool true), h') := by
      rw [aval_of Tryd.func65 body65 Tryd.results65 Tryd.ntmps65 ok65]
      simp (implicitDefEqProofs := false) (disch := omega) only [go_sem, seval, rgn Tryd.f65 0 rfl, rgn Tryd.f65 1 rfl, rgn Tryd.f65 2 rfl, rgn Tryd.f65 11 rfl, h1, hl, z1]
    obtain ⟨H, c1, c2, c3, c4⟩ := doCall_sp5 md65 e hs0 z2 kf.1
    exact ⟨H, ns', vis', true, c1, c2, z3.agree hB c4, kf.agree c3 c4, by
      rw [if_pos rfl]
      exact fun v hv => closed_all (fun i hi => e8 i hi rfl) hv (e7 x (by simp))⟩
  · have e : aval Tryd.prog md fg 65 [.ptr S 0, .int x, .clo f [] caps] h = some (.val (.bool false), h') := by
      rw [aval_of Tryd.func65 body65 Tryd.results65 Tryd.ntmps65 ok65]
      simp (implicitDefEqProofs := false) (disch := omega) only [go_sem, seval, rgn Tryd.f65 0 rfl, rgn Tryd.f65 1 rfl, rgn Tryd.f65 2 rfl, rgn Tryd.f65 11 rfl, h1, hl, z1]
    obtain ⟨H, c1, c2, c3, c4⟩ := doCall_sp5 md65 e hs0 z2 kf.1
    rw [List.mem_singleton.1 hy] at e6
    exact ⟨H, ns', vis', false, c1, c2, z3.agree hB c4, kf.agree c3 c4, by rw [if_neg (by simp)]; exact ⟨v, e6, e7⟩⟩
theorem NR.bind {h : AHeap} {S B : Nat} {sh : List Sh} {rt r : Nat → Nat} {vis : Nat → Bool} {w : Int} {ns : List Nd} (x : NR h S B sh rt r vis w ns) {v t : Nat} {n : Nd} (hv : ns[v]? = some n) (hr : rt v = v) (htl : t < sh.length) (ht : rt t = t) (hn : ¬ Rch sh rt t v) : NR h S B sh (bnd rt v t) (bndR sh rt r v t) vis w (ns.set v { n with to := (t : Int) }) := by
  have hne : t ≠ v := fun e => hn (e ▸ .refl t)
  have e1 : bnd rt v t v = t := if_pos hr
  have e2 : bnd rt v t t = t := by unfold bnd; rw [ht, if_neg hne]
  refine ⟨by rw [List.length_set]; exact x.1, fun j m s h1 h2 => ?_⟩
  by_cases e : v = j
  · subst e
    rw [List.getElem?_set_self (lt_of_at hv)] at h1
    cases h1
    have y := x.2 v n s hv h2
    exact ⟨y.kind, y.pkg, y.name, y.kids, ⟨t, rfl, htl, by rw [e1, e2], .inr (bndR_t hr ht hn), fun e => by rw [e1] at e; exact e, fun e => absurd e hne⟩, y.mark, y.le⟩
  · rw [List.getElem?_set_ne e] at h1
    have y := x.2 j m s h1 h2
    obtain ⟨j', z1, z2, z3, z4, z5, z6⟩ := y.to
    refine ⟨y.kind, y.pkg, y.name, y.kids, ⟨j', z1, z2, by unfold bnd; rw [z3], ?_, fun e3 => ?_, fun e3 => ?_⟩, y.mark, y.le⟩
    · rcases z4 with z4 | z4
      · exact .inl z4
      · exact .inr (bndR_lt z3 z4)
    · by_cases hj : rt j = v
      · have : bnd rt v t j = t := if_pos hj
        rw [this] at e3
        rw [← e3, ht] at hj
        exact absurd hj hne
      · have : bnd rt v t j = rt j := if_neg hj
        rw [this] at e3
        exact z5 e3
    · have := z6 e3
      unfold bnd
      rw [this, if_neg (fun q => e q.symm)]
section
variable {h : AHeap} {S B : Nat} {b w : Int} {fl : Bool} {sh : List Sh} {rt r : Nat → Nat} {vis : Nat → Bool} {ns : List Nd}
theorem walk_may2 (ok : Ok sh rt r) (hs : SP h S ns b fl w) (hn : NR h S B sh rt r vis w ns) (hB : B ≤ h.length) (hwl : 0 ≤ w ∧ w ≤ 1000000000) (hsz : wt sh (fun _ => false) 0 < 100000) {q q2 s v : Nat} {L : Int} (hq : hget h q = .vars [.ptr S 0]) (hr : hget h q2 = .vars [.int v]) (hl : hget h s = .vars [.int L]) (hqS : q ≠ S ∧ q2 ≠ S ∧ s ≠ S) {x : Nat} (hx : x < sh.length) :
    ∃ H ns' vis' res, doCall md (aval Tryd.prog md fg) 65 [.ptr S 0, .int x, .clo 66 [] [.ptr q 0, .ptr q2 0, .ptr s 0]] h = some (.val (.bool res), H) ∧ SP H S ns' b fl (w + 1) ∧ NR H S B sh rt r vis' (w + 1) ns' ∧ Kf S h H ∧ (if res then ∀ u, Rch sh rt (rt x) u → decide (u ≠ v) = true else ∃ u, Rch sh rt (rt x) u ∧ decide (u ≠ v) = false) := by
  refine walk_c2 ok hs hn hB hwl hsz 66 _ rfl (fun i => decide (i ≠ v)) (fun _ n => n) (fun _ _ => rfl) (fun h1 ns1 j n k1 s1 hx hk => ⟨h1, ?_, by rw [set_same hx]; exact s1, Kf.refl _ _⟩) hx
  have lq := hlt_of hq (by simp)
  have lr := hlt_of hr (by simp)
  have ls := hlt_of hl (by simp)
  have e := may_c s1 (k1.2 q _ hq (by simp) hqS.1 (by omega) (by simp)) (k1.2 q2 _ hr (by simp) hqS.2.1 (by omega) (by simp)) (k1.2 s _ hl (by simp) hqS.2.2 (by omega) (by simp)) hx
  have : mayIn v L j n = decide (j ≠ v) := by
    unfold mayIn
    rw [decide_eq_true hk, Bool.true_or, Bool.and_true]
    exact decide_eq_decide.2 (by omega)
  rw [this] at e
  exact e
theorem walk_low2 (ok : Ok sh rt r) (hs : SP h S ns b fl w) (hn : NR h S B sh rt r vis w ns) (hB : B ≤ h.length) (hwl : 0 ≤ w ∧ w ≤ 1000000000) (hsz : wt sh (fun _ => false) 0 < 100000) {q s : Nat} {L : Int} (hq : hget h q = .vars [.ptr S 0]) (hl : hget h s = .vars [.int L]) (hqS : q ≠ S ∧ s ≠ S) {x : Nat} (hx : x < sh.length) :
    ∃ H ns' vis', doCall md (aval Tryd.prog md fg) 65 [.ptr S 0, .int x, .clo 67 [] [.ptr q 0, .ptr s 0]] h = some (.val (.bool true), H) ∧ SP H S ns' b fl (w + 1) ∧ NR H S B sh rt r vis' (w + 1) ns' ∧ Kf S h H := by
  obtain ⟨H, ns', vis', res, c1, c2, c3, c4, c5⟩ := walk_c2 ok hs hn hB hwl hsz 67 [.ptr q 0, .ptr s 0] rfl (fun _ => true) (fun _ => lowN L) (fun _ n => by unfold lowN; split <;> rfl) (fun h1 ns1 j n k1 s1 hx hk => by
    have lq := hlt_of hq (by simp)
    have ls := hlt_of hl (by simp)
    exact low_c s1 (k1.2 q _ hq (by simp) hqS.1 (by omega) (by simp)) (k1.2 s _ hl (by simp) hqS.2 (by omega) (by simp)) hx) hx
  cases res
  · obtain ⟨u, _, h⟩ := c5
    cases h
  · exact ⟨H, ns', vis', c1, c2, c3, c4⟩
set_option maxHeartbeats 8000000 in
theorem become_c2 (ok : Ok sh rt r) (hs : SP h S ns b fl w) (hn : NR h S B sh rt r vis w ns) (hB : B ≤ h.length) (hwl : 0 ≤ w ∧ w ≤ 900000000) (hsz : wt sh (fun _ => false) 0 < 100000) {v t : Nat} (hvl : v < sh.length) (hr : rt v = v) (htl : t < sh.length) (ht : rt t = t) :
    ∃ H ns' vis' res w', doCall md (aval Tryd.prog md fg) 47 [.ptr S 0, .int v, .int t] h = some (.val (.bool res), H) ∧ SP H S ns' b fl w' ∧ w ≤ w' ∧ w' ≤ w + 2 ∧ Kf S h H ∧ (if res then ¬ Rch sh rt t v ∧ NR H S B sh (bnd rt v t) (bndR sh rt r v t) vis' w' ns' else Rch sh rt t v ∧ NR H S B sh rt r vis' w' ns') := by
  have hs0 := hs
  obtain ⟨nv, sv, hv, hsv, qv⟩ := hn.at hvl
  have hkf := kf_app S h [.vars [.ptr S 0], .vars [.int (v : Int)], .vars [.int nv.level]]
  have hS : S < h.length := by obtain ⟨_, h1, _⟩ := hs; exact hlt_of h1 (by simp)
  obtain ⟨H1, ns1, vis1, res, c1, c2, c3, c4, c5⟩ := walk_may2 ok (sp_app hs [.vars [.ptr S 0], .vars [.int (v : Int)], .vars [.int nv.level]]) (hn.kf hkf) (by simp; omega) (by omega) hsz (bx_get0 _ _ _) (bx_get1 _ _ _) (bx_get2 _ _ _) (by omega) htl
  have y0 : hget H1 h.length = .vars [.ptr S 0] := c4.2 _ _ (bx_get0 _ _ _) (by simp) (by omega) (by simp)
  have y1 : hget H1 (h.length + 1) = .vars [.int (v : Int)] := c4.2 _ _ (bx_get1 _ _ _) (by simp) (by omega) (by simp)
  have y2 : hget H1 (h.length + 2) = .vars [.int nv.level] := c4.2 _ _ (bx_get2 _ _ _) (by simp) (by omega) (by simp)
  obtain ⟨A, g, h1, h2⟩ := sp_arr hs (ne_of_at hv)
  have hA := hlt_of h2 (by simp)
  have hlt := (List.getElem?_eq_some_iff.1 hv).1
  have htt : ((v : Int)).toNat = v := by omega
  have hkf1 := hkf.trans c4
  cases res
  · obtain ⟨u, u1, u2⟩ := c5
    have : u = v := by simpa using u2
    subst this
    rw [ht] at u1
    obtain ⟨k, p, m, ks, l, t', mk⟩ := nv
    dsimp only at c1 c2 c3 c4 hkf
    have e : aval Tryd.prog md fg 47 [.ptr S 0, .int u, .int t] h = some (.val (.bool false), H1) := by
      rw [aval_of Tryd.func47 body47 Tryd.results47 Tryd.ntmps47 ok47]
      simp (implicitDefEqProofs := false) (disch := omega) only [go_sem, seval, rgn Tryd.f47 0 rfl, rgn Tryd.f47 1 rfl, rgn Tryd.f47 2 rfl, rgn Tryd.f47 3 rfl, rgn Tryd.f47 4 rfl, c1, List.append_assoc, List.cons_append, List.nil_append, bx_get0, bx_get1, bx_get2, hget_app, h1, h2, htt, List.getElem?_map, hv, Option.map_some, ndV_mk, bx_set2, thenDraw_store, List.length_append, List.length_cons, List.length_nil]
    obtain ⟨H, z1, z2, z3, z4⟩ := doCall_sp5 md47 e hs0 c2 hkf1.1
    exact ⟨H, ns1, vis1, false, w + 1, z1, z2, by omega, by omega, hkf1.agree z3 z4, u1, c3.agree hB z4⟩
  · have hno : ¬ Rch sh rt t v := fun e => by
      have := c5 v (by rw [ht]; exact e)
      simp at this
    have e12 : w + 1 + 1 = w + 2 := by omega
    have lH1 := c4.1
    simp only [List.length_append, List.length_cons, List.length_nil] at lH1
    obtain ⟨H2, ns2, vis2, d1, d2, d3, d4⟩ := walk_low2 ok c2 c3 (by omega) (by omega) hsz y0 y2 (by omega) htl
    rw [e12] at d2 d3
    have z0 : hget H2 h.length = .vars [.ptr S 0] := d4.2 _ _ y0 (by simp) (by omega) (by simp)
    have z1 : hget H2 (h.length + 1) = .vars [.int (v : Int)] := d4.2 _ _ y1 (by simp) (by omega) (by simp)
    obtain ⟨n2, s2, hv2, hsv2, qv2⟩ := d3.at hvl
    obtain ⟨A2, g2, k1, k2⟩ := sp_arr d2 (ne_of_at hv2)
    have hlt2 := (List.getElem?_eq_some_iff.1 hv2).1
    obtain ⟨s1, s2'⟩ := sp_set k1 k2 v { n2 with to := (t : Int) }
    have hNR := d3.bind hv2 hr htl ht hno
    obtain ⟨k, p, m, ks, l, t', mk⟩ := nv
    obtain ⟨k', p', m', ks', l', t'', mk'⟩ := n2
    dsimp only at c1 c2 c3 c4 hkf d1 y2 s1 s2' hNR
    have hgt : (ns2.map ndV)[v]? = some (.agg [.int k', .str (txt p'), .str (txt m'), ks', .int l', .int t'', .int mk']) := by rw [List.getElem?_map, hv2]; rfl
    have hstp : septr true 1 (.int (t : Int)) g2 7 v 5 H2 A2 (.arr 7 (ns2.map ndV) g2) = some (H2.set A2 (.arr 7 ((ns2.set v ⟨k', p', m', ks', l', (t : Int), mk'⟩).map ndV) g2)) := by
      rw [← map_set']
      simp [septr, hgt, AV.cells, patch, putAt, ndV]
    have hkf2 := hkf1.trans (d4.trans s2')
    have e : aval Tryd.prog md fg 47 [.ptr S 0, .int v, .int t] h = some (.val (.bool true), H2.set A2 (.arr 7 ((ns2.set v ⟨k', p', m', ks', l', (t : Int), mk'⟩).map ndV) g2)) := by
      rw [aval_of Tryd.func47 body47 Tryd.results47 Tryd.ntmps47 ok47]
      simp (implicitDefEqProofs := false) (disch := omega) only [go_sem, seval, rgn Tryd.f47 0 rfl, rgn Tryd.f47 1 rfl, rgn Tryd.f47 2 rfl, rgn Tryd.f47 3 rfl, rgn Tryd.f47 5 rfl, rgn Tryd.f47 6 rfl, rgn Tryd.f47 7 rfl, c1, List.append_assoc, List.cons_append, List.nil_append, bx_get0, bx_get1, bx_get2, hget_app, h1, h2, htt, List.getElem?_map, hv, Option.map_some, ndV_mk, bx_set2, thenDraw_store, List.length_append, List.length_cons, List.length_nil, y0, d1, z0, z1, k1, k2, hv2, hstp]
    obtain ⟨H, w1, w2, w3, w4⟩ := doCall_sp5 md47 e hs0 s1 hkf2.1
    exact ⟨H, _, vis2, true, w + 2, w1, w2, by omega, by omega, hkf2.agree w3 w4, hno, (hNR.kf s2').agree hB w4⟩
end
def og : List (Nat × Nat) → Nat → Option Nat
  | [], _ => none
  | p :: r, x => if x = p.1 then some p.2 else og r x
def prs (P : NMap) : List (Nat × Nat) := P.1.map fun e => (e.1, e.2.1)
theorem mg_og : ∀ (es : List (Nat × Nat × Nat)) (c x : Nat), mg (es, c) x = og (es.map fun e => (e.1, e.2.1)) x
  | [], c, x => rfl
  | e :: r, c, x => by
    rw [mg_cons, mg_og r c x]; rfl
theorem og_skip : ∀ (pre suf : List (Nat × Nat)) (x : Nat), (∀ p ∈ pre, x ≠ p.1) → og (pre ++ suf) x = og suf x
  | [], suf, x, _ => rfl
  | p :: r, suf, x, h => by
    rw [List.cons_append]; unfold og
    rw [if_neg (h p (List.mem_cons_self ..)), og_skip r suf x fun q hq => h q (List.mem_cons_of_mem _ hq)]
    cases suf <;> rfl
theorem ord_split : ∀ (pre : List (Nat × Nat)) (p : Nat × Nat) (suf : List (Nat × Nat)), Ord (pre ++ p :: suf) → (∀ q ∈ pre, p.2 ≠ q.1) ∧ p.2 ≠ p.1
  | [], p, suf, h => ⟨by simp, h.1⟩
  | a :: r, p, suf, h => by
    obtain ⟨h1, h2, h3⟩ := h
    obtain ⟨k1, k2⟩ := ord_split r p suf h3
    refine ⟨fun q hq => ?_, k2⟩
    rcases List.mem_cons.1 hq with rfl | hq
    · exact (h2 p (by simp)).2
    · exact k1 q hq
section
variable {S B M : Nat} {b w : Int} {fl : Bool} {sh : List Sh} {rt r : Nat → Nat} {vis : Nat → Bool} {P : NMap}
set_option maxHeartbeats 4000000 in
theorem top_loop2 (ok : Ok sh rt r) (ho : Ord (prs P)) (hp : ∀ p ∈ prs P, p.2 < sh.length ∧ rt p.2 = p.2) (hMS : M ≠ S) : ∀ (suf pre : List (Nat × Nat)) (x : Nat) (h : AHeap) (ns : List Nd) (a6 : AV), prs P = pre ++ suf → (∀ p ∈ pre, x ≠ p.1) → SP h S ns b fl w → NR h S B sh rt r vis w ns → MN h M P →
    ∃ H ns', lrun Tryd.prog md fg (fg 46) (loopOf Tryd.f46 0) (fg 46 1) ([.ptr S 0, .int x, .mp M, .unk, .unk, .unk, a6, .unk, .unk, .unk, .unk, .unk, .unk, .unk, .unk, .unk, .unk, .unk, .unk, .unk, .unk, .unk, .unk, .unk]) h = some (.ret, [.ptr S 0, .int (topO suf x : Nat), .mp M, .unk, .unk, .unk, .int (topO suf x : Nat), .unk, .unk, .unk, .unk, .unk, .unk, .unk, .unk, .unk, .unk, .unk, .unk, .unk, .unk, .unk, .unk, .unk], H) ∧ SP H S ns' b fl w ∧ NR H S B sh rt r vis w ns' ∧ Kf S h H ∧ H.length = h.length
  | [], pre, x, h, ns, a6, he, hx, hs, hn, hm => by
    have lk := mn_look hm x
    have : mg P x = none := by
      have := mg_og P.1 P.2 x
      rw [show P.1.map (fun e => (e.1, e.2.1)) = prs P from rfl, he, og_skip pre [] x hx] at this
      exact this
    rw [this] at lk
    refine ⟨h, ns, ?_, hs, hn, Kf.refl S h, rfl⟩
    simp only [topO]
    simp only [Option.isSome_none, Option.getD_none] at lk
    rw [lrun_atC loop46_0]
    simp (implicitDefEqProofs := false) (disch := omega) only [go_sem, seval, rgn Tryd.f46 2 rfl, rgn Tryd.f46 3 rfl, rgn Tryd.f46 4 rfl, aop_lookup, lk]
  | p :: suf, pre, x, h, ns, a6, he, hx, hs, hn, hm => by
    obtain ⟨o1, o2⟩ := ord_split pre p suf (he ▸ ho)
    obtain ⟨p1, p2⟩ := hp p (by rw [he]; simp)
    have he' : prs P = (pre ++ [p]) ++ suf := by rw [he]; simp
    by_cases hxp : x = p.1
    · have lk := mn_look hm x
      have : mg P x = some p.2 := by
        have := mg_og P.1 P.2 x
        rw [show P.1.map (fun e => (e.1, e.2.1)) = prs P from rfl, he, og_skip pre _ x hx] at this
        rw [show mg P x = mg (P.1, P.2) x from rfl, this]
        exact if_pos hxp
      rw [this] at lk
      simp only [Option.isSome_some, Option.getD_some] at lk
      obtain ⟨H1, ns1, c1, c2, c3, c4, c5⟩ := find_c p1 hs hn
      rw [p2] at c1
      obtain ⟨H, ns', e1, e2, e3, e4, e5⟩ := top_loop2 ok ho hp hMS suf (pre ++ [p]) p.2 H1 ns1 a6 he' (fun q hq => by
        rcases List.mem_append.1 hq with hq | hq
        · exact o1 q hq
        · rw [List.mem_singleton.1 hq]; exact o2) c2 c3 (c4.2 M _ hm (by simp) hMS (by simp))
      refine ⟨H, ns', ?_, e2, e3, c4.trans e4, by rw [e5, c5]⟩
      have : topO (p :: suf) x = topO suf p.2 := if_pos hxp
      rw [this, ← e1]
      rw [lrun_atC loop46_0]
      simp (implicitDefEqProofs := false) (disch := omega) only [go_sem, seval, rgn Tryd.f46 2 rfl, rgn Tryd.f46 3 rfl, rgn Tryd.f46 5 rfl, aop_lookup, lk, c1]
    · obtain ⟨H, ns', e1, e2, e3, e4, e5⟩ := top_loop2 ok ho hp hMS suf (pre ++ [p]) x h ns a6 he' (fun q hq => by
        rcases List.mem_append.1 hq with hq | hq
        · exact hx q hq
        · rw [List.mem_singleton.1 hq]; exact hxp) hs hn hm
      have : topO (p :: suf) x = topO suf x := if_neg hxp
      rw [this]
      exact ⟨H, ns', e1, e2, e3, e4, e5⟩
theorem top_c2 (ok : Ok sh rt r) (ho : Ord (prs P)) (hp : ∀ p ∈ prs P, p.2 < sh.length ∧ rt p.2 = p.2) (hMS : M ≠ S) {x : Nat} {h : AHeap} {ns : List Nd} (hx : x < sh.length) (hs : SP h S ns b fl w) (hn : NR h S B sh rt r vis w ns) (hm : MN h M P) :
    ∃ H ns', doCall md (aval Tryd.prog md fg) 46 [.ptr S 0, .int x, .mp M] h = some (.int (topO (prs P) (rt x) : Nat), H) ∧ SP H S ns' b fl w ∧ NR H S B sh rt r vis w ns' ∧ Kf S h H ∧ H.length = h.length := by
  obtain ⟨H1, ns1, c1, c2, c3, c4, c5⟩ := find_c hx hs hn
  obtain ⟨H, ns', e1, e2, e3, e4, e5⟩ := top_loop2 ok ho hp hMS (prs P) [] (rt x) H1 ns1 (.int 0) rfl (by simp) c2 c3 (c4.2 M _ hm (by simp) hMS (by simp))
  refine ⟨H, ns', doCall_same md46 ?_ (by rw [e5, c5]), e2, e3, c4.trans e4, by rw [e5, c5]⟩
  rw [aval_of Tryd.func46 body46 Tryd.results46 Tryd.ntmps46 ok46]
  simp (implicitDefEqProofs := false) (disch := omega) only [go_sem, seval, rgn Tryd.f46 0 rfl, rgn Tryd.f46 1 rfl, c1, e1]
end
theorem kb_len {h : AHeap} {S B : Nat} {v : AV} {kl : List Int} (x : KB h S B v kl) : ∀ h2, abuiltin Tryd.prog .len #[85] h2 [v] = some (.int kl.length, h2) := fun h2 => by
  rcases x with ⟨rfl, rfl⟩ | ⟨K, g, rfl, _⟩
  · simp only [abuiltin_len_slc, alen_slc, tarr_85, tslice_85, lenT_slc, Option.map_some, List.length_nil]
  · simp only [abuiltin_len_arr, alen_arr, tarr_85, tslice_85, lenT_arr, Option.map_some]
instance (s s' : Sh) : Decidable (sigEq s s') := by unfold sigEq; infer_instance
set_option maxHeartbeats 8000000 in
theorem same_c2 {h : AHeap} {S B : Nat} {ns : List Nd} {b : Int} {f : Bool} {w : Int} {sh : List Sh} {rt r : Nat → Nat} {vis : Nat → Bool} (ok : Ok sh rt r) (hs : SP h S ns b f w) (hn : NR h S B sh rt r vis w ns) {i j : Nat} {s s' : Sh} (hsx : sh[i]? = some s) (hsy : sh[j]? = some s') : doCall md (aval Tryd.prog md fg) 48 [.ptr S 0, .int i, .int j] h = some (.val (.bool (decide (sigEq s s'))), h) := by
  obtain ⟨n, hx⟩ := at_of_lt (l := ns) (i := i) (by rw [hn.1]; exact lt_of_at hsx)
  obtain ⟨m, hy⟩ := at_of_lt (l := ns) (i := j) (by rw [hn.1]; exact lt_of_at hsy)
  have qx := hn.2 i n s hx hsx
  have qy := hn.2 j m s' hy hsy
  obtain ⟨A, g, h1, h2⟩ := sp_arr hs (ne_of_at hx)
  have hlt := (List.getElem?_eq_some_iff.1 hx).1
  have hlt2 := (List.getElem?_eq_some_iff.1 hy).1
  have ht : ((i : Int)).toNat = i := by omega
  have ht2 : ((j : Int)).toNat = j := by omega
  have k5 : s.kind ≠ 5 := ok.rig _ s hsx
  have l1 := kb_len qx.kids
  have l2 := kb_len qy.kids
  rw [ints_len] at l1 l2
  obtain ⟨k, p, m1, ks, l, t, mk⟩ := n
  obtain ⟨k2, p2, m2, ks2, lv2, t2, mk2⟩ := m
  obtain ⟨sk, sp, sm, skl⟩ := s
  obtain ⟨sk2, sp2, sm2, skl2⟩ := s'
  obtain ⟨e1, e2, e3, _, _, _, _⟩ := qx
  obtain ⟨d1, d2, d3, _, _, _, _⟩ := qy
  dsimp only at e1 e2 e3 d1 d2 d3 k5 l1 l2
  subst e1; subst e2; subst e3; subst d1; subst d2; subst d3
  refine doCall_same md48 ?_ rfl
  by_cases c1 : k = k2
  · by_cases c2 : p = p2
    · by_cases c3 : m1 = m2
      · by_cases c4 : skl.length = skl2.length
        · rw [decide_eq_true (p := sigEq _ _) ⟨c1, c2, c3, c4⟩]
          subst c1; subst c2; subst c3
          have c4' : (skl.length : Int) = (skl2.length : Int) := by omega
          rw [aval_of Tryd.func48 body48 Tryd.results48 Tryd.ntmps48 ok48]
          simp (implicitDefEqProofs := false) (disch := omega) only [go_sem, seval, rgn Tryd.f48 0 rfl, rgn Tryd.f48 1 rfl, rgn Tryd.f48 2 rfl, h1, h2, List.getElem?_map, ht, ht2, hx, hy, Option.map_some, ndV_mk, k5, l1, l2, c4']
        · rw [decide_eq_false (p := sigEq _ _) (fun q => c4 q.2.2.2)]
          subst c1; subst c2; subst c3
          have c4' : ¬ (skl.length : Int) = (skl2.length : Int) := by omega
          rw [aval_of Tryd.func48 body48 Tryd.results48 Tryd.ntmps48 ok48]
          simp (implicitDefEqProofs := false) (disch := omega) only [go_sem, seval, rgn Tryd.f48 0 rfl, rgn Tryd.f48 1 rfl, rgn Tryd.f48 2 rfl, h1, h2, List.getElem?_map, ht, ht2, hx, hy, Option.map_some, ndV_mk, k5, l1, l2, c4']
      · rw [decide_eq_false (p := sigEq _ _) (fun q => c3 q.2.2.1)]
        subst c1; subst c2
        rw [aval_of Tryd.func48 body48 Tryd.results48 Tryd.ntmps48 ok48]
        simp (implicitDefEqProofs := false) (disch := omega) only [go_sem, seval, rgn Tryd.f48 0 rfl, rgn Tryd.f48 1 rfl, rgn Tryd.f48 2 rfl, h1, h2, List.getElem?_map, ht, ht2, hx, hy, Option.map_some, ndV_mk, k5, str_eq, c3]
    · rw [decide_eq_false (p := sigEq _ _) (fun q => c2 q.2.1)]
      subst c1
      rw [aval_of Tryd.func48 body48 Tryd.results48 Tryd.ntmps48 ok48]
      simp (implicitDefEqProofs := false) (disch := omega) only [go_sem, seval, rgn Tryd.f48 0 rfl, rgn Tryd.f48 1 rfl, rgn Tryd.f48 2 rfl, h1, h2, List.getElem?_map, ht, ht2, hx, hy, Option.map_some, ndV_mk, k5, str_eq, c2]
  · rw [decide_eq_false (p := sigEq _ _) (fun q => c1 q.1)]
    rw [aval_of Tryd.func48 body48 Tryd.results48 Tryd.ntmps48 ok48]
    simp (implicitDefEqProofs := false) (disch := omega) only [go_sem, seval, rgn Tryd.f48 0 rfl, rgn Tryd.f48 1 rfl, rgn Tryd.f48 2 rfl, h1, h2, List.getElem?_map, ht, ht2, hx, hy, Option.map_some, ndV_mk, c1]
def prV (p : Nat × Nat) : AV := .agg [.int (p.1 : Int), .int (p.2 : Int)]
def TP (h : AHeap) (T g : Nat) (l : List (Nat × Nat)) : Prop := hget h T = .arr 2 (l.map prV) g
theorem headOk_prs (l : List (Nat × Nat)) : headOk 2 (l.map prV) = true := by cases l <;> rfl
theorem abuild_91' (x y : Int) : abuild Tryd.prog 91 [(0, .int x), (1, .int y)] = some (.agg [.int x, .int y]) := by kernel_rfl
theorem own92 : ownT Tryd.prog 92 = true := by kernel_rfl
theorem thenDraw_bs92 {md : FuncId → Nat} {env : Env} {d : Option Tmp} {ty : TypeId} {pos : String} {aft : Array Edge} {g : Option (Nat × Bool)} (n : Nat) (es : Array (Nat × Operand)) (h0 : AHeap) (v : AV) (h' : AHeap) (call : CallF) (k : Env → AHeap → Option (Env × AHeap)) : thenDraw Tryd.prog ⟨d, .buildSlice 92 n es, ty, pos, aft, g⟩ h0 (some (.value v h')) md call d k env = k (aput env d v) h' := thenDraw_eff _ _ _ _ _ _ own92
section
variable {S B M T : Nat} {b w : Int} {fl : Bool} {sh : List Sh} {rt r : Nat → Nat} {vis : Nat → Bool} {ns : List Nd}
set_option maxHeartbeats 8000000 in
theorem push_loop {x y : Nat} {s s' : Sh} (hsx : sh[x]? = some s) (hsy : sh[y]? = some s') (hlen : s.kids.length = s'.kids.length) (hTS : T ≠ S) (hBT : B ≤ T) {kv : AV} : ∀ (k : Nat) (h : AHeap) (g : Nat) (todo rest : List (Nat × Nat)), k ≤ s.kids.length → todo.length + k ≤ 100000 → SP h S ns b fl w → NR h S B sh rt r vis w ns → KB h S B kv (ints s.kids) → TP h T g (todo ++ rest) →
    ∃ H g' rest', lrun Tryd.prog md fg (fg 29) (loopOf Tryd.f29 3) (fg 29 4) (((.ptr S 0) :: .unk :: .unk :: .unk :: .unk :: .unk :: .unk :: (.mp M) :: (.arr T 0 todo.length g 2) :: .unk :: (.int x) :: (.int y) :: (kv) :: (.int ((k : Int) - 1)) :: .unk :: .unk :: .unk :: .unk :: .unk :: .unk :: .unk :: .unk :: .unk :: .unk :: .unk :: .unk :: .unk :: .unk :: .unk :: .unk :: .unk :: .unk :: .unk :: .unk :: .unk :: .unk :: .unk :: .unk :: .unk :: .unk :: .unk :: .unk :: .unk :: .unk :: .unk :: .unk :: .unk :: .unk :: .unk :: .unk :: .unk :: .unk :: .unk :: .unk :: .unk :: .unk :: .unk :: .unk :: .unk :: .unk :: .unk :: .unk :: .unk :: .unk :: .unk :: .unk :: .unk :: .unk :: .unk :: .unk :: .unk :: .unk :: .unk :: .unk :: .unk :: .unk :: .unk :: .unk :: .unk :: .unk :: .unk :: .unk :: .unk :: .unk :: .unk :: .unk :: .unk :: .unk :: .unk :: .unk :: .unk :: .unk :: .unk :: .unk :: .unk :: .unk :: .unk :: .unk :: .unk :: .unk :: .unk :: .unk :: .unk :: .unk :: .unk :: .unk :: .unk :: .unk :: .unk :: .unk :: .unk :: .unk :: .unk :: .unk :: .unk :: .unk :: .unk :: .unk :: .unk :: .unk :: .unk :: .unk :: .unk :: .unk :: .unk :: .unk :: [] : List AV)) h = some (.exit 3, ((.ptr S 0) :: .unk :: .unk :: .unk :: .unk :: .unk :: .unk :: (.mp M) :: (.arr T 0 (todo ++ ((s.kids.zip s'.kids).take k).reverse).length g' 2) :: .unk :: (.int x) :: (.int y) :: (kv) :: (.int (-1)) :: .unk :: .unk :: .unk :: .unk :: .unk :: .unk :: .unk :: .unk :: .unk :: .unk :: .unk :: .unk :: .unk :: .unk :: .unk :: .unk :: .unk :: .unk :: .unk :: .unk :: .unk :: .unk :: .unk :: .unk :: .unk :: .unk :: .unk :: .unk :: .unk :: .unk :: .unk :: .unk :: .unk :: .unk :: .unk :: .unk :: .unk :: .unk :: .unk :: .unk :: .unk :: .unk :: .unk :: .unk :: .unk :: .unk :: .unk :: .unk :: .unk :: .unk :: .unk :: .unk :: .unk :: .unk :: .unk :: .unk :: .unk :: .unk :: .unk :: .unk :: .unk :: .unk :: .unk :: .unk :: .unk :: .unk :: .unk :: .unk :: .unk :: .unk :: .unk :: .unk :: .unk :: .unk :: .unk :: .unk :: .unk :: .unk :: .unk :: .unk :: .unk :: .unk :: .unk :: .unk :: .unk :: .unk :: .unk :: .unk :: .unk :: .unk :: .unk :: .unk :: .unk :: .unk :: .unk :: .unk :: .unk :: .unk :: .unk :: .unk :: .unk :: .unk :: .unk :: .unk :: .unk :: .unk :: .unk :: .unk :: .unk :: .unk :: .unk :: .unk :: [] : List AV), H) ∧ TP H T g' ((todo ++ ((s.kids.zip s'.kids).take k).reverse) ++ rest') ∧ Kw S T h H ∧ SP H S ns b fl w
  | 0, h, g, todo, rest, hk, ht, hs, hn, hkb, hT => by
    refine ⟨h, g, rest, ?_, by simpa using hT, Kw.refl _ _ _, hs⟩
    have e1 : (((0 : Nat) : Int) - 1) = -1 := rfl
    have e2 : (todo ++ ((s.kids.zip s'.kids).take 0).reverse).length = todo.length := by simp
    rw [e1, e2]
    rw [lrun_atC loop29_3]
    simp (implicitDefEqProofs := false) (disch := omega) only [go_sem, seval, rgn Tryd.f29 11 rfl]
  | k + 1, h, g, todo, rest, hk, ht, hs, hn, hkb, hT => by
    obtain ⟨m, hy⟩ := at_of_lt (l := ns) (i := y) (by rw [hn.1]; exact lt_of_at hsy)
    have qy := hn.2 y m s' hy hsy
    obtain ⟨A, gA, h1, h2⟩ := sp_arr hs (ne_of_at hy)
    have hlt := lt_of_at hy
    have ht2 : ((y : Int)).toNat = y := by omega
    have htk : ((k : Int)).toNat = k := by omega
    have e1 : (((k + 1 : Nat) : Int) - 1) = (k : Int) := by omega
    obtain ⟨a, ha⟩ := at_of_lt (l := s.kids) (i := k) (by omega)
    obtain ⟨c, hc⟩ := at_of_lt (l := s'.kids) (i := k) (by omega)
    rcases hkb with ⟨_, hkb2⟩ | ⟨K, gK, rfl, hK, hKS, hKB⟩
    · have := congrArg List.length hkb2; simp [ints] at this; rw [this] at hk; simp at hk
    rcases qy.kids with ⟨_, hkb2⟩ | ⟨K2, gK2, hkv2, hK2, hKS2, hKB2⟩
    · have := congrArg List.length hkb2; simp [ints] at this; rw [this] at hlen; rw [hlen] at hk; simp at hk
    have hat : ((ints s.kids).map AV.int)[k]? = some (.int (a : Int)) := by simp [ints, ha]
    have hat2 : ((ints s'.kids).map AV.int)[k]? = some (.int (c : Int)) := by simp [ints, hc]
    have hzip : (s.kids.zip s'.kids)[k]? = some (a, c) := List.getElem?_zip_eq_some.2 ⟨ha, hc⟩
    have htake : ((s.kids.zip s'.kids).take (k + 1)).reverse = (a, c) :: ((s.kids.zip s'.kids).take k).reverse := by
      rw [List.take_add_one, hzip]; simp
    have hl0 : h.length ≤ (h ++ [AObj.arr 2 [.agg [.int (a : Int), .int (c : Int)]] 0]).length := by simp
    have hTl := hlt_of hT (by simp)
    have hT1 : hget (h ++ [AObj.arr 2 [.agg [.int (a : Int), .int (c : Int)]] 0]) T = .arr 2 ((todo ++ rest).map prV) g := by rw [hget_app _ hTl]; exact hT
    have happ : ∀ z, appT (some (2, 16, z)) (h ++ [AObj.arr 2 [.agg [.int (a : Int), .int (c : Int)]] 0]) (.arr T 0 todo.length g 2) (some [.agg [.int (a : Int), .int (c : Int)]]) = some (.arr T 0 (todo ++ [(a, c)]).length (g + 1) 2, (h ++ [AObj.arr 2 [.agg [.int (a : Int), .int (c : Int)]] 0]).set T (.arr 2 ((todo ++ [(a, c)] ++ []).map prV) (g + 1))) := fun z => by
      rw [appT_arr2 _ _ _ _ _ _ _ _ hT1 (by simp) rfl (by simp; omega)]
      simp [prV]
    have hsv : sview (h ++ [AObj.arr 2 [.agg [.int (a : Int), .int (c : Int)]] 0]) (AV.arr h.length 0 1 0 2) = some [.agg [.int (a : Int), .int (c : Int)]] := sview_arr _ _ _ _ _ hget_last rfl
    have kw1 : Kw S T h ((h ++ [AObj.arr 2 [.agg [.int (a : Int), .int (c : Int)]] 0]).set T (.arr 2 ((todo ++ [(a, c)] ++ []).map prV) (g + 1))) := ⟨by rw [List.length_set]; exact hl0, fun j o e z1 z2 z3 z4 => by rw [hget_set_ne (fun q => z3 q.symm), hget_app _ (hlt_of e z1)]; exact e⟩
    have hs1 : SP ((h ++ [AObj.arr 2 [.agg [.int (a : Int), .int (c : Int)]] 0]).set T (.arr 2 ((todo ++ [(a, c)] ++ []).map prV) (g + 1))) S ns b fl w := by
      obtain ⟨nv, z1, z2⟩ := sp_app hs [AObj.arr 2 [.agg [.int (a : Int), .int (c : Int)]] 0]
      refine ⟨nv, by rw [hget_set_ne hTS]; exact z1, ?_⟩
      rcases z2 with z2 | ⟨A', g', z2, z3⟩
      · exact .inl z2
      · exact .inr ⟨A', g', z2, by rw [hget_set_ne (by rintro rfl; rw [hT1] at z3; simp at z3)]; exact z3⟩
    obtain ⟨H, g', rest', c1, c2, c3, c4⟩ := push_loop hsx hsy hlen hTS hBT k _ (g + 1) (todo ++ [(a, c)]) [] (by omega) (by simp; omega) hs1 (hn.kw hBT kw1) (KB.kw hBT kw1 (.inr ⟨K, gK, rfl, hK, hKS, hKB⟩)) (hget_set_eq (by rw [List.length_append]; omega))
    refine ⟨H, g', rest', ?_, ?_, kw1.trans c3, c4⟩
    · rw [htake, e1]
      rw [show todo ++ (a, c) :: ((s.kids.zip s'.kids).take k).reverse = (todo ++ [(a, c)]) ++ ((s.kids.zip s'.kids).take k).reverse by simp]
      rw [← c1]
      obtain ⟨k1, p1, m1, ks1, l1, t1, mk1⟩ := m
      dsimp only at hkv2
      subst hkv2
      rw [lrun_atC loop29_3]
      simp (implicitDefEqProofs := false) (disch := omega) only [go_sem, seval, rgn Tryd.f29 11 rfl, rgn Tryd.f29 12 rfl, rgn Tryd.f29 13 rfl, h1, h2, hK, hK2, hat, hat2, List.getElem?_map, htk, ht2, hy, Option.map_some, ndV_mk, abuild_91', happ, hsv, ints_len, hl0, thenDraw_bs92, thenDraw_append]
    · rw [htake]
      rw [show todo ++ (a, c) :: ((s.kids.zip s'.kids).take k).reverse = (todo ++ [(a, c)]) ++ ((s.kids.zip s'.kids).take k).reverse by simp]
      exact c2
end
end Go.Proofs.YtncjbccjpneoiaaDoor
