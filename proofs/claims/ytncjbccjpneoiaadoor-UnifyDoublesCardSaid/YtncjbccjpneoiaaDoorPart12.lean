/- Parts of the proof, each with its own heading: Import: what it makes, in plain words. Same, Size (turned from chapter 11). The document's Subst (turned from chapter 14). Import: the walk. Import: a type of others. size: how many terms a type has. A name for a variable; a call whose result is told as a value. told: a type as a term. Vars of types; a list of variables. varTerms; Vars of a list of one's own. solve: the equations are taken in. Chapter 13: alive. The law's guards: few, equations. -/
import Derived.Test.YtncjbccjpneoiaaDoorPart11
set_option linter.unusedSimpArgs false
set_option linter.unusedVariables false
namespace Go.Proofs.YtncjbccjpneoiaaDoor
open Go Go.Ab Go.Proofs
open AV renaming unk → U
open Bool renaming false → J, true → O
set_option maxRecDepth 100000
set_option linter.unusedSimpArgs false
set_option linter.unusedVariables false
mutual
def Tm.ty : Tm → Prop | .mk k p m n l => (1 ≤ k ∧ k ≤ 4 ∧ n = 0 ∧ (k = 1 → l = [] ∧ p = [])) ∧ Tm.tys l
def Tm.tys : List Tm → Prop | [] => True | t :: r => t.ty ∧ Tm.tys r
end
mutual
def inst (th : List UInt8 → Tm) : Tm → Tm | .mk k p m n l => if k = 1 then th m else .mk k p m 0 (insts th l)
def insts (th : List UInt8 → Tm) : List Tm → List Tm | [] => [] | t :: r => inst th t :: insts th r
end
theorem insts_eq (th : List UInt8 → Tm) : ∀ l, insts th l = l.map (inst th)
  | [] => by simp [insts]
  | t :: r => by rw [insts, insts_eq th r]; rfl
theorem inst_mk (th : List UInt8 → Tm) (k : Int) (p m : List UInt8) (n : Int) (l : List Tm) : inst th (.mk k p m n l) = if k = 1 then th m else .mk k p m 0 (l.map (inst th)) := by rw [inst, insts_eq]
mutual
def tvars : Tm → List (List UInt8) | .mk k p m n l => if k = 1 then [m] else tvarss l
def tvarss : List Tm → List (List UInt8) | [] => [] | t :: r => tvars t ++ tvarss r
end
theorem tvarss_mem : ∀ {l : List Tm} {n : List UInt8}, n ∈ tvarss l ↔ ∃ t ∈ l, n ∈ tvars t
  | [], n => by simp [tvarss]
  | t :: r, n => by rw [tvarss, List.mem_append, tvarss_mem]; simp
mutual
theorem inst_congr {th th' : List UInt8 → Tm} : ∀ (t : Tm), (∀ n ∈ tvars t, th n = th' n) → inst th t = inst th' t
  | .mk k p m n l, h => by
    rw [inst, inst]
    rw [tvars] at h
    by_cases hk : k = 1
    · rw [if_pos hk, if_pos hk]; rw [if_pos hk] at h; exact h m (by simp)
    · rw [if_neg hk, if_neg hk]; rw [if_neg hk] at h; rw [insts_congr l h]
theorem insts_congr {th th' : List UInt8 → Tm} : ∀ (l : List Tm), (∀ n ∈ tvarss l, th n = th' n) → insts th l = insts th' l
  | [], _ => by simp [insts]
  | t :: r, h => by
    rw [insts, insts, inst_congr t fun n hn => h n (by rw [tvarss]; simp [hn]), insts_congr r fun n hn => h n (by rw [tvarss]; simp [hn])]
end
def kc (sh : List Sh) : Nat := (sh.map fun s => s.kids.length).sum
theorem wt_none : ∀ (sh : List Sh) (i : Nat), wt sh (fun _ => false) i = kc sh
  | [], i => rfl
  | s :: r, i => by unfold wt; rw [wt_none r (i + 1)]; simp [kc]
theorem kc_add (sh : List Sh) (s : Sh) : kc (sh ++ [s]) = kc sh + s.kids.length := by simp [kc]
def vmap (P : SMap) (n : List UInt8) : Nat := (mg P n).getD 0
abbrev vSh : Sh := ⟨1, [], [], []⟩
structure IP (sh : List Sh) (P : SMap) : Prop where
  ok : Ok sh idf idf
  var : ∀ n (i : Nat), mg P n = some i → sh[i]? = some vSh
  inj : ∀ n m (i : Nat), mg P n = some i → mg P m = some i → n = m
  sur : ∀ (i : Nat) (s : Sh), sh[i]? = some s → s.kind = 1 → ∃ n, mg P n = some i
  fit : ∀ (i : Nat) (s : Sh), sh[i]? = some s → s.pkg.length ≤ 9223372036854775807 ∧ s.name.length ≤ 9223372036854775807 ∧ 1 ≤ s.kind ∧ s.kind ≤ 4
structure IE (sh : List Sh) (P : SMap) (vs : List (List UInt8)) (sh' : List Sh) (P' : SMap) : Prop where
  ext : ∃ e, sh' = sh ++ e
  keep : ∀ n (i : Nat), mg P n = some i → mg P' n = some i
  has : ∀ n ∈ vs, ∃ i, mg P' n = some i
  only : ∀ n (i : Nat), mg P' n = some i → mg P n = some i ∨ n ∈ vs
theorem IE.refl (sh : List Sh) (P : SMap) : IE sh P [] sh P := ⟨⟨[], by simp⟩, fun _ _ h => h, by simp, fun _ _ h => .inl h⟩
theorem IE.trans {a b c : List Sh} {P Q R : SMap} {u v : List (List UInt8)} (x : IE a P u b Q) (y : IE b Q v c R) : IE a P (u ++ v) c R := by
  obtain ⟨e, rfl⟩ := x.ext
  obtain ⟨e', rfl⟩ := y.ext
  refine ⟨⟨e ++ e', by simp⟩, fun n i h => y.keep n i (x.keep n i h), fun n hn => ?_, fun n i h => ?_⟩
  · rcases List.mem_append.1 hn with hn | hn
    · obtain ⟨i, hi⟩ := x.has n hn
      exact ⟨i, y.keep n i hi⟩
    · exact y.has n hn
  · rcases y.only n i h with h | h
    · rcases x.only n i h with h | h
      · exact .inl h
      · exact .inr (by simp [h])
    · exact .inr (by simp [h])
theorem IE.mem {a b : List Sh} {P Q : SMap} {u v : List (List UInt8)} (x : IE a P u b Q) (h : ∀ n, n ∈ u ↔ n ∈ v) : IE a P v b Q :=
  ⟨x.ext, x.keep, fun n hn => x.has n ((h n).2 hn), fun n i hi => (x.only n i hi).imp id (h n).1⟩
theorem con_pre {sh e : List Sh} {M : Nat → Tm} (h : Con (sh ++ e) M) : Con sh M := fun i s hi hk => h i s (by rw [List.getElem?_append_left (lt_of_at hi)]; exact hi) hk
theorem IE.con {a b : List Sh} {P Q : SMap} {u : List (List UInt8)} (x : IE a P u b Q) {M : Nat → Tm} (h : Con b M) : Con a M := by
  obtain ⟨e, rfl⟩ := x.ext; exact con_pre h
theorem IE.len {a b : List Sh} {P Q : SMap} {u : List (List UInt8)} (x : IE a P u b Q) : a.length ≤ b.length := by
  obtain ⟨e, rfl⟩ := x.ext; simp
def Val (sh : List Sh) (P : SMap) (id : Nat) (t : Tm) : Prop := id < sh.length ∧ (∀ n ∈ tvars t, ∃ i, mg P n = some i) ∧ ∀ M, Con sh M → M id = inst (fun n => M (vmap P n)) t
theorem Val.ext {a b : List Sh} {P Q : SMap} {u : List (List UInt8)} (x : IE a P u b Q) {id : Nat} {t : Tm} (v : Val a P id t) : Val b Q id t := by
  obtain ⟨h1, h2, h3⟩ := v
  refine ⟨Nat.lt_of_lt_of_le h1 x.len, fun n hn => ?_, fun M hm => ?_⟩
  · obtain ⟨i, hi⟩ := h2 n hn
    exact ⟨i, x.keep n i hi⟩
  · rw [h3 M (x.con hm)]
    refine inst_congr t fun n hn => ?_
    obtain ⟨i, hi⟩ := h2 n hn
    show M ((mg P n).getD 0) = M ((mg Q n).getD 0)
    rw [hi, x.keep n i hi]
theorem ok_add {sh : List Sh} (ok : Ok sh idf idf) (s : Sh) (hk : ∀ k ∈ s.kids, k < sh.length) (h1 : s.kind = 1 → s.kids = []) (h5 : s.kind ≠ 5) : Ok (sh ++ [s]) idf idf := by
  refine ⟨fun i hi => hi, fun _ _ => rfl, fun _ _ _ _ => rfl, fun i t k hi hkk => ?_, fun _ _ => Nat.le_refl _, fun i t hi ht => ?_, fun i t hi => ?_⟩
  all_goals
    by_cases hl : i < sh.length
    · rw [List.getElem?_append_left hl] at hi
      first
        | exact ⟨by have := (ok.kid i t k hi hkk).1; simp; omega, (ok.kid i t k hi hkk).2⟩
        | exact ok.var i t hi ht
        | exact ok.rig i t hi
    · have hl2 := lt_of_at hi
      have : i = sh.length := by simp at hl2; omega
      subst this
      rw [List.getElem?_append_right (Nat.le_refl _), Nat.sub_self] at hi
      cases hi
      first
        | exact ⟨by have := hk k hkk; simp; omega, hk k hkk⟩
        | exact h1 ht
        | exact h5
theorem fit_add {sh : List Sh} {P : SMap} (ip : IP sh P) {t : Sh} (ht : t.pkg.length ≤ 9223372036854775807 ∧ t.name.length ≤ 9223372036854775807 ∧ 1 ≤ t.kind ∧ t.kind ≤ 4) : ∀ (i : Nat) (s : Sh), (sh ++ [t])[i]? = some s → s.pkg.length ≤ 9223372036854775807 ∧ s.name.length ≤ 9223372036854775807 ∧ 1 ≤ s.kind ∧ s.kind ≤ 4 := fun i s h => by
  by_cases hl : i < sh.length
  · rw [List.getElem?_append_left hl] at h
    exact ip.fit i s h
  · have hl2 := lt_of_at h
    have : i = sh.length := by simp at hl2; omega
    subst this
    rw [List.getElem?_append_right (Nat.le_refl _), Nat.sub_self] at h
    cases h
    exact ht
theorem ip_var {sh : List Sh} {P : SMap} (ip : IP sh P) {n : List UInt8} (hn : mg P n = none) : IP (sh ++ [vSh]) (mset P n sh.length) ∧ IE sh P [n] (sh ++ [vSh]) (mset P n sh.length) := by
  have hlt : ∀ m (i : Nat), mg P m = some i → i < sh.length := fun m i h => lt_of_at (ip.var m i h)
  refine ⟨⟨ok_add ip.ok vSh (by simp) (fun _ => rfl) (by simp), fun m i h => ?_, fun m m' i h h' => ?_, fun i s h hk => ?_, fit_add ip (by simp)⟩, ⟨⟨_, rfl⟩, fun m i h => ?_, fun m hm => ?_, fun m i h => ?_⟩⟩
  · rw [mg_mset] at h
    split at h
    · cases h; rw [List.getElem?_append_right (Nat.le_refl _), Nat.sub_self]; rfl
    · rw [List.getElem?_append_left (hlt m i h)]; exact ip.var m i h
  · rw [mg_mset] at h h'
    split at h
    · cases h
      split at h'
      · rename_i e1 e2; rw [e1, e2]
      · have := hlt m' _ h'; omega
    · split at h'
      · cases h'; have := hlt m _ h; omega
      · exact ip.inj m m' i h h'
  · by_cases hl : i < sh.length
    · rw [List.getElem?_append_left hl] at h
      obtain ⟨m, hm⟩ := ip.sur i s h hk
      refine ⟨m, ?_⟩
      rw [mg_mset, if_neg (by rintro rfl; rw [hn] at hm; cases hm)]; exact hm
    · have hl2 := lt_of_at h
      have : i = sh.length := by simp at hl2; omega
      subst this
      exact ⟨n, by rw [mg_mset, if_pos rfl]⟩
  · rw [mg_mset, if_neg (by rintro rfl; rw [hn] at h; cases h)]; exact h
  · rw [List.mem_singleton.1 hm]; exact ⟨_, by rw [mg_mset, if_pos rfl]⟩
  · rw [mg_mset] at h
    split at h
    · rename_i e; exact .inr (by simp [e])
    · exact .inl h
theorem ip_node {sh : List Sh} {P : SMap} (ip : IP sh P) {s : Sh} (hk : ∀ k ∈ s.kids, k < sh.length) (h1 : s.kind ≠ 1) (h5 : s.kind ≠ 5) (hf : s.pkg.length ≤ 9223372036854775807 ∧ s.name.length ≤ 9223372036854775807 ∧ 1 ≤ s.kind ∧ s.kind ≤ 4) : IP (sh ++ [s]) P ∧ IE sh P [] (sh ++ [s]) P := by
  refine ⟨⟨ok_add ip.ok s hk (fun e => absurd e h1) h5, fun m i h => ?_, ip.inj, fun i t h hkk => ?_, fit_add ip hf⟩, ⟨_, rfl⟩, fun _ _ h => h, by simp, fun _ _ h => .inl h⟩
  · have := ip.var m i h
    rw [List.getElem?_append_left (lt_of_at this)]; exact this
  · by_cases hl : i < sh.length
    · rw [List.getElem?_append_left hl] at h
      exact ip.sur i t h hkk
    · have hl2 := lt_of_at h
      have : i = sh.length := by simp at hl2; omega
      subst this
      rw [List.getElem?_append_right (Nat.le_refl _), Nat.sub_self] at h
      cases h
      exact absurd hkk h1
theorem tsz_pos : ∀ t : Tm, 1 ≤ tsz t | .mk _ _ _ _ _ => by rw [tsz]; omega
mutual
def sameT : Tm → Tm → Bool
  | .mk k p m n l, .mk k' p' m' n' l' => (k == k') && (decide (p = p') && (decide (m = m') && ((n == n') && (decide (l.length = l'.length) && sameTs l l'))))
def sameTs : List Tm → List Tm → Bool
  | [], _ => true
  | _ :: _, [] => true
  | t :: r, u :: s => sameT t u && sameTs r s
end
theorem solid2 (a b : Tm) : solidL [tmV a, tmV b] = true := by simp only [solidL, solid_tm, Bool.and_self]
theorem solid1 (a : Tm) : solidL [tmV a] = true := by simp only [solidL, solid_tm, Bool.and_self]
abbrev Vl := List UInt8 × Tm
def fv (k : List UInt8) : List Vl → Nat → Option (Nat × Tm)
  | [], _ => none
  | e :: r, i => if e.1 = k then some (i, e.2) else fv k r (i + 1)
def Z (t : Tm) : Prop := pcall Tryd.prog md fg 15 [tmV t] = some (.int (tsz t : Int))
theorem z_loop (k : Int) (p m : List UInt8) (n : Int) (l : List Tm) (hl : tszs l ≤ 100000) (hZ : ∀ t ∈ l, Z t) (hlen : l.length ≤ 100000) : ∀ (r : List Tm) (i : Nat) (c : Nat), l.drop i = r → i ≤ l.length → c + tszs r ≤ 200000 →
    lrun Tryd.prog md fg (fg 15) (loopOf Tryd.f15 0) (fg 15 1) ([.unk, .ptr 0 0, .unk, .int c, .int i, .unk, .unk, .unk, .unk, .unk, .unk, .unk, .unk, .unk, .unk, .unk, .unk, .unk, .unk, .unk, .unk]) [.vars [.int k, .str (txt p), .str (txt m), .int n, .slc false (l.map tmV)]] = some (.exit 0, [.unk, .ptr 0 0, .unk, .int (c + tszs r : Nat), .int l.length, .unk, .unk, .unk, .unk, .unk, .unk, .unk, .unk, .unk, .unk, .unk, .unk, .unk, .unk, .unk, .unk], [.vars [.int k, .str (txt p), .str (txt m), .int n, .slc false (l.map tmV)]])
  | [], i, c, hdr, hi, hc => by
    have : i = l.length := by have := congrArg List.length hdr; simp at this; omega
    subst this
    rw [tszs, Nat.add_zero]
    rw [lrun_atC loop15_0]
    simp (implicitDefEqProofs := false) (disch := omega) only [go_sem, seval, rgn Tryd.f15 3 rfl, List.length_map]
  | ⟨k2, p2, m2, n2, l2⟩ :: r, i, c, hdr, hi, hc => by
    have hx : l[i]? = some ⟨k2, p2, m2, n2, l2⟩ := by have := congrArg (·[0]?) hdr; simpa using this
    have hlt : i < l.length := (List.getElem?_eq_some_iff.1 hx).1
    have hd' : l.drop (i + 1) = r := by rw [← List.tail_drop, hdr]; rfl
    have ht : ((i : Int)).toNat = i := by omega
    rw [tszs] at hc ⊢
    have cz : ∀ h : AHeap, doCall md (aval Tryd.prog md fg) 15 [tmV ⟨k2, p2, m2, n2, l2⟩] h = some (.int (tsz ⟨k2, p2, m2, n2, l2⟩ : Nat), h) := fun h => doCall_pure md15 (solid1 _) (hZ _ (List.mem_of_getElem? hx))
    generalize tsz ⟨k2, p2, m2, n2, l2⟩ = w at *
    have ih := z_loop k p m n l hl hZ hlen r (i + 1) (c + w) hd' (by omega) (by omega)
    rw [tmV_mk] at cz
    rw [← Nat.add_assoc, ← ih]
    rw [lrun_atC loop15_0]
    simp (implicitDefEqProofs := false) (disch := omega) only [go_sem, seval, rgn Tryd.f15 3 rfl, rgn Tryd.f15 4 rfl, rgn Tryd.f15 5 rfl, List.length_map, List.getElem?_map, ht, hx, Option.map_some, tmV_mk, cz]
    all_goals (congr 1 <;> simp only [List.cons.injEq, AV.val.injEq, Value.int.injEq, Value.bool.injEq, true_and, and_true] <;> omega)
mutual
theorem Z_all : ∀ t : Tm, tsz t ≤ 100000 → Z t
  | ⟨k, p, m, n, l⟩, h => by
    have h0 := h
    rw [tsz] at h
    have hl : ∀ l : List Tm, l.length ≤ tszs l := by
      intro l
      induction l with
      | nil => simp
      | cons a b ih => have := tsz_pos a; simp only [tszs, List.length_cons]; omega
    have hll := hl l
    have ih := z_loop k p m n l (by omega) (Z_alls l (by omega)) (by omega) l 0 1 (by simp) (by omega) (by omega)
    have e : ∃ h, aval Tryd.prog md fg 15 [tmV ⟨k, p, m, n, l⟩] [] = some (.int (tsz ⟨k, p, m, n, l⟩ : Nat), h) := by
      rw [tmV_mk, tsz]
      simp only [Int.natCast_zero, Int.natCast_one] at ih
      rw [aval_of Tryd.func15 body15 Tryd.results15 Tryd.ntmps15 ok15]
      simp (implicitDefEqProofs := false) (disch := omega) only [go_sem, seval, rgn Tryd.f15 0 rfl, rgn Tryd.f15 1 rfl, rgn Tryd.f15 2 rfl, rgn Tryd.f15 6 rfl, ih]
      exact ⟨_, rfl⟩
    obtain ⟨h, e⟩ := e
    unfold Z
    rw [pcall_eq, e, pureRes_solid rfl]
theorem Z_alls : ∀ l : List Tm, tszs l ≤ 100000 → ∀ t ∈ l, Z t
  | [], _, t, h => by cases h
  | a :: r, hs, t, h => by
    rw [tszs] at hs
    rcases List.mem_cons.1 h with h | h
    · rw [h]; exact Z_all a (by omega)
    · exact Z_alls r (by omega) t h
end
def Q2 (t : Tm) : Prop := ∀ u : Tm, u.fit → pcall Tryd.prog md fg 16 [tmV t, tmV u] = some (.val (.bool (sameT t u)))
def KeepO (h h' : AHeap) : Prop := h.length ≤ h'.length ∧ ∀ j o, hget h j = o → (∀ a b c, o ≠ .arr a b c) → o ≠ .dead → hget h' j = o
theorem KeepO.refl (h : AHeap) : KeepO h h := ⟨Nat.le_refl _, fun _ _ e _ _ => e⟩
theorem KeepO.trans {a b c : AHeap} (x : KeepO a b) (y : KeepO b c) : KeepO a c := ⟨Nat.le_trans x.1 y.1, fun j o e h1 h2 => y.2 j o (x.2 j o e h1 h2) h1 h2⟩
mutual
def subT (L : List Vl) : Tm → Tm | .mk k p m n ks => if k = 1 then (match fv m L 0 with | some (_, t) => t | none => .mk k p m n (subL L ks)) else .mk k p m n (subL L ks)
def subL (L : List Vl) : List Tm → List Tm | [] => [] | t :: r => subT L t :: subL L r
end
abbrev nmV (L : List Vl) : AV := .slc false ((L.map Prod.fst).map sV)
abbrev byV (L : List Vl) : AV := .slc false ((L.map Prod.snd).map tmV)
def TL (h : AHeap) (v : AV) (L : List Tm) : Prop := (v = .slc true [] ∧ L = []) ∨ ∃ k g, v = .arr k 0 L.length g 5 ∧ hget h k = .arr 5 (L.map tmV) g
def ST (L : List Vl) (t : Tm) : Prop := pcall Tryd.prog md fg 17 [tmV t, nmV L, byV L] = some (tmV (subT L t))
theorem solid_byl : ∀ l : List Tm, solidL (l.map tmV) = true := fun l => by rw [← tmsV_eq]; exact solid_tms l
def NB (h : AHeap) (v : AV) (l : List (List UInt8)) : Prop := (v = .slc true [] ∧ l = []) ∨ ∃ k g, v = .arr k 0 l.length g 1 ∧ hget h k = .arr 1 (l.map sV) g
def KeepA (c : Nat) (h h' : AHeap) : Prop := ∀ j k es g, hget h j = .arr k es g → k ≠ c → hget h' j = .arr k es g
structure IS (h : AHeap) (S B V : Nat) (sh : List Sh) (P : SMap) (ns : List Nd) : Prop where
  sp : SP h S ns 200000 false 0
  nr : NR h S B sh idf idf yes 0 ns
  b : B ≤ h.length
  vs : V ≠ S
  ms : MS h V P
def NW (h : AHeap) (ns ns' : List Nd) : Prop := ∃ new, ns' = ns ++ new ∧ ∀ n ∈ new, ∀ K g l, n.kids = .arr K 0 l g 1 → h.length ≤ K
theorem NW.refl (h : AHeap) (ns : List Nd) : NW h ns ns := ⟨[], by simp, by simp⟩
theorem NW.trans {h H : AHeap} {a b c : List Nd} (x : NW h a b) (y : NW H b c) (hl : h.length ≤ H.length) : NW h a c := by
  obtain ⟨n1, rfl, h1⟩ := x
  obtain ⟨n2, rfl, h2⟩ := y
  refine ⟨n1 ++ n2, by simp, fun n hn K g l e => ?_⟩
  rcases List.mem_append.1 hn with hn | hn
  · exact h1 n hn K g l e
  · have := h2 n hn K g l e; omega
theorem NW.le {h : AHeap} {a b : List Nd} (x : NW h a b) : a.length ≤ b.length := by obtain ⟨n1, rfl, _⟩ := x; simp
theorem ku_app (S M T : Nat) (h l : AHeap) : Ku S M T h (h ++ l) := (kf_app S h l).ku M T
theorem IS.app {h : AHeap} {S B V : Nat} {sh : List Sh} {P : SMap} {ns : List Nd} (x : IS h S B V sh P ns) (l : AHeap) : IS (h ++ l) S B V sh P ns :=
  ⟨sp_app x.sp l, x.nr.kf (kf_app S h l), by have := x.b; simp; omega, x.vs, by have := x.ms; unfold MS at this ⊢; rw [hget_app l (hlt_of this (by simp))]; exact this⟩
theorem sp_map {h : AHeap} {S V : Nat} {ns : List Nd} {b : Int} {f : Bool} {w : Int} (hs : SP h S ns b f w) (hV : V ≠ S) {P : SMap} (hm : MS h V P) (o : AObj) : SP (h.set V o) S ns b f w := by
  obtain ⟨nv, z1, z2⟩ := hs
  refine ⟨nv, by rw [hget_set_ne hV]; exact z1, ?_⟩
  rcases z2 with z2 | ⟨A', g', z2, z3⟩
  · exact .inl z2
  · exact .inr ⟨A', g', z2, by rw [hget_set_ne (by rintro rfl; unfold MS at hm; rw [hm] at z3; simp at z3)]; exact z3⟩
theorem kb_map {h : AHeap} {S B V : Nat} {P : SMap} (hm : MS h V P) (o : AObj) {v : AV} {kl : List Int} (x : KB h S B v kl) : KB (h.set V o) S B v kl := by
  rcases x with x | ⟨K, g, e1, e2, e3, e4⟩
  · exact .inl x
  · exact .inr ⟨K, g, e1, by rw [hget_set_ne (by rintro rfl; unfold MS at hm; rw [hm] at e2; cases e2)]; exact e2, e3, e4⟩
theorem nr_map {h : AHeap} {S B V : Nat} {P : SMap} (hm : MS h V P) (o : AObj) {sh : List Sh} {rt r : Nat → Nat} {vis : Nat → Bool} {w : Int} {ns : List Nd} (x : NR h S B sh rt r vis w ns) : NR (h.set V o) S B sh rt r vis w ns :=
  ⟨x.1, fun i n s h1 h2 => by
    have y := x.2 i n s h1 h2
    exact ⟨y.kind, y.pkg, y.name, kb_map hm o y.kids, y.to, y.mark, y.le⟩⟩
theorem IS.end' {f : FuncId} {vs : List AV} {h H : AHeap} {res : AV} {S B B' V : Nat} {sh sh' : List Sh} {P P' : SMap} {ns ns' : List Nd} (hm : md f = 1) (e : aval Tryd.prog md fg f vs h = some (res, H)) (h0 : IS h S B V sh P ns) (h1 : IS H S B' V sh' P' ns') (hk : Ku S V V h H) (hw : NW h ns ns') (hnew : ns'.length ≠ ns.length ∨ B' ≤ h.length) (har : AR S h H) :
    ∃ H' B'', doCall md (aval Tryd.prog md fg) f vs h = some (res, H') ∧ IS H' S B'' V sh' P' ns' ∧ Ku S V V h H' ∧ AR S h H' := by
  obtain ⟨H', B'', z1, z2, z3, z4, z8, z5, z6, z7⟩ := doCall_imp hm e h0.sp h1.sp h1.nr h1.b hk.1 hw.le hnew har
  have hV : V < h.length := hlt_of h0.ms (by simp)
  exact ⟨H', B'', z1, ⟨z2, z3, z4, h0.vs, by have := h1.ms; unfold MS at this ⊢; rw [z6 V hV]; exact this⟩, ⟨z5, fun j o e h1 h2 h3 h4 h5 => by rw [z6 j (hlt_of e h1)]; exact hk.2 j o e h1 h2 h3 h4 h5⟩, z7⟩
section
variable {S V : Nat} {f : FuncId} {caps : List AV} {h0 : AHeap}
def ImpOk (S V : Nat) (f : FuncId) (caps : List AV) (h0 : AHeap) (t : Tm) : Prop := ∀ (h : AHeap) (B : Nat) (sh : List Sh) (P : SMap) (ns : List Nd), Ku S V V h0 h → IS h S B V sh P ns → IP sh P → sh.length + tsz t ≤ 90000 →
  ∃ H id B' sh' P' ns', doCall md (aval Tryd.prog md fg) 39 [.ptr S 0, tmV t, .mp V, .clo f [] caps] h = some (.int (id : Nat), H) ∧ IS H S B' V sh' P' ns' ∧ IP sh' P' ∧ IE sh P (tvars t) sh' P' ∧ Val sh' P' id t ∧ sh'.length ≤ sh.length + tsz t ∧ kc sh' + 1 ≤ kc sh + tsz t ∧ Ku S V V h H ∧ AR S h H ∧ NW h ns ns'
def Fr (S V : Nat) (f : FuncId) (caps : List AV) (h0 : AHeap) : Prop := ∀ (h1 : AHeap) (ns1 : List Nd), Ku S V V h0 h1 → SP h1 S ns1 200000 false 0 → ns1.length < 200000 → ∃ H, doCall md (aval Tryd.prog md fg) f caps h1 = some (.int ns1.length, H) ∧ SP H S (ns1 ++ [vNd 0 ns1.length]) 200000 false 0 ∧ Kf S h1 H ∧ AR S h1 H
set_option maxHeartbeats 8000000 in
theorem imp_var (hc : callable Tryd.prog f = true) (hfr : Fr S V f caps h0) (p m : List UInt8) (n : Int) (l : List Tm) (ht : Tm.ty ⟨1, p, m, n, l⟩) : ImpOk S V f caps h0 ⟨1, p, m, n, l⟩ := by
  intro h B sh P ns hk hi ip hbud
  rw [Tm.ty] at ht
  obtain ⟨hl, hp⟩ := ht.1.2.2.2 rfl
  subst hl; subst hp
  have hS : S < h.length := by obtain ⟨_, q, _⟩ := hi.sp; exact hlt_of q (by simp)
  have hi1 := hi.app [.vars [.int 1, .str (txt []), .str (txt m), .int n, .slc false []]]
  have k1 := ku_app S V V h [.vars [.int 1, .str (txt []), .str (txt m), .int n, .slc false []]]
  have cf := full_c hi1.sp
  have lk := (ms_look hi1.ms m).1
  have htv : tvars ⟨1, [], m, n, []⟩ = [m] := by rw [tvars, if_pos rfl]
  have hts : tsz ⟨1, [], m, n, []⟩ = 1 := by rw [tsz, tszs]
  have hin : ∀ th : List UInt8 → Tm, inst th ⟨1, [], m, n, []⟩ = th m := fun th => by rw [inst, if_pos rfl]
  rw [htv, hts, tmV_mk, List.map_nil]
  rw [hts] at hbud
  cases hmg : mg P m with
  | some i =>
    rw [hmg] at lk
    simp only [Option.getD_some, Option.isSome_some] at lk
    have e : aval Tryd.prog md fg 39 [.ptr S 0, .agg [.int 1, .str (txt []), .str (txt m), .int n, .slc false []], .mp V, .clo f [] caps] h = some (.int (i : Int), h ++ [.vars [.int 1, .str (txt []), .str (txt m), .int n, .slc false []]]) := by
      rw [aval_of Tryd.func39 body39 Tryd.results39 Tryd.ntmps39 ok39]
      simp (implicitDefEqProofs := false) (disch := omega) only [go_sem, seval, rgn Tryd.f39 0 rfl, rgn Tryd.f39 1 rfl, rgn Tryd.f39 3 rfl, rgn Tryd.f39 4 rfl, rgn Tryd.f39 5 rfl, rgn Tryd.f39 8 rfl, cf, hget_last, aop_lookup, lk]
    obtain ⟨H', B'', z1, z2, z3, z4⟩ := IS.end' md39 e hi hi1 k1 (NW.refl h ns) (.inr hi.b) (AR.app hS _)
    refine ⟨H', i, B'', sh, P, ns, z1, z2, ip, ⟨⟨[], by simp⟩, fun _ _ h => h, fun x hx => ?_, fun _ _ h => .inl h⟩, ⟨lt_of_at (ip.var m i hmg), fun x hx => ?_, fun M _ => ?_⟩, by omega, by omega, z3, z4, NW.refl h ns⟩
    · rw [List.mem_singleton.1 hx]; exact ⟨i, hmg⟩
    · rw [htv] at hx; rw [List.mem_singleton.1 hx]; exact ⟨i, hmg⟩
    · rw [hin]; show M i = M ((mg P m).getD 0); rw [hmg]; rfl
  | none =>
    rw [hmg] at lk
    simp only [Option.getD_none, Option.isSome_none] at lk
    have hnl := hi.nr.1
    obtain ⟨H1, c1, c2, c3, c4⟩ := hfr _ ns (hk.trans k1) hi1.sp (by omega)
    have hm1 : MS H1 V P := c3.2 V _ hi1.ms (by simp) hi.vs (by simp)
    have hput := ms_put hm1 m ns.length
    have yb : hget H1 h.length = .vars [.int 1, .str (txt []), .str (txt m), .int n, .slc false []] := c3.2 _ _ hget_last (by simp) (by omega) (by simp)
    obtain ⟨ip2, ie2⟩ := ip_var ip hmg
    rw [hnl] at c1 c2 hput
    have hVl := hlt_of hm1 (by simp)
    have hNR : NR H1 S B (sh ++ [vSh]) idf idf yes 0 (ns ++ [vNd 0 sh.length]) := hi1.nr.add (Nat.le_refl _) (fun _ _ x => x.kf c3) rfl rfl rfl (.inl ⟨rfl, rfl⟩) rfl rfl
    have hI : IS (H1.set V (.map (encM sV nV (mset P m sh.length).1) (mset P m sh.length).2)) S B V (sh ++ [vSh]) (mset P m sh.length) (ns ++ [vNd 0 sh.length]) := ⟨sp_map c2 hi.vs hm1 _, nr_map hm1 _ hNR, by have := hi1.b; have := c3.1; rw [List.length_set]; omega, hi.vs, hget_set_eq hVl⟩
    have hK : Ku S V V h (H1.set V (.map (encM sV nV (mset P m sh.length).1) (mset P m sh.length).2)) := by
      have k := k1.trans (c3.ku V V)
      exact ⟨by rw [List.length_set]; exact k.1, fun j o e z1 z2 z3 z4 z5 => by rw [hget_set_ne (fun q => z3 q.symm)]; exact k.2 j o e z1 z2 z3 z4 z5⟩
    have hAR : AR S h (H1.set V (.map (encM sV nV (mset P m sh.length).1) (mset P m sh.length).2)) := ((AR.app hS _).trans c4 (by simp)).same (hget_set_ne hi.vs)
    have e : aval Tryd.prog md fg 39 [.ptr S 0, .agg [.int 1, .str (txt []), .str (txt m), .int n, .slc false []], .mp V, .clo f [] caps] h = some (.int (sh.length : Int), H1.set V (.map (encM sV nV (mset P m sh.length).1) (mset P m sh.length).2)) := by
      rw [aval_of Tryd.func39 body39 Tryd.results39 Tryd.ntmps39 ok39]
      simp (implicitDefEqProofs := false) (disch := omega) only [go_sem, seval, rgn Tryd.f39 0 rfl, rgn Tryd.f39 1 rfl, rgn Tryd.f39 3 rfl, rgn Tryd.f39 4 rfl, rgn Tryd.f39 5 rfl, rgn Tryd.f39 6 rfl, rgn Tryd.f39 7 rfl, rgn Tryd.f39 8 rfl, cf, hget_last, aop_lookup, lk, hc, List.nil_append, c1, yb, hput, aop_mapUpdate]
    have hNW : NW h ns (ns ++ [vNd 0 sh.length]) := ⟨_, rfl, fun n hn K g l e => by rw [List.mem_singleton.1 hn] at e; cases e⟩
    obtain ⟨H', B'', z1, z2, z3, z4⟩ := IS.end' md39 e hi hI hK hNW (.inl (by simp)) hAR
    refine ⟨H', sh.length, B'', _, _, _, z1, z2, ip2, ie2, ⟨by simp, fun x hx => ?_, fun M _ => ?_⟩, by simp, by rw [kc_add]; simp, z3, z4, hNW⟩
    · rw [htv] at hx; exact ie2.has x hx
    · rw [hin]; show M sh.length = M ((mg (mset P m sh.length) m).getD 0); rw [mg_mset, if_pos rfl]; rfl
end
theorem sp_setT {h : AHeap} {S T : Nat} {ns : List Nd} {b : Int} {f : Bool} {w : Int} (hs : SP h S ns b f w) (hTS : T ≠ S) {es : List AV} {g : Nat} (hT : hget h T = .arr 1 es g) (o : AObj) : SP (h.set T o) S ns b f w := by
  obtain ⟨nv, z1, z2⟩ := hs
  refine ⟨nv, by rw [hget_set_ne hTS]; exact z1, ?_⟩
  rcases z2 with z2 | ⟨A', g', z2, z3⟩
  · exact .inl z2
  · exact .inr ⟨A', g', z2, by rw [hget_set_ne (by rintro rfl; rw [hT] at z3; simp at z3)]; exact z3⟩
def NoT (T : Nat) (ns : List Nd) : Prop := ∀ n ∈ ns, ∀ K g l, n.kids = .arr K 0 l g 1 → K ≠ T
theorem nr_setT {h : AHeap} {S B T : Nat} (o : AObj) {sh : List Sh} {rt r : Nat → Nat} {vis : Nat → Bool} {w : Int} {ns : List Nd} (x : NR h S B sh rt r vis w ns) (hno : NoT T ns) : NR (h.set T o) S B sh rt r vis w ns :=
  ⟨x.1, fun i n s h1 h2 => by
    have y := x.2 i n s h1 h2
    refine ⟨y.kind, y.pkg, y.name, ?_, y.to, y.mark, y.le⟩
    rcases y.kids with z | ⟨K, g, e1, e2, e3, e4⟩
    · exact .inl z
    · exact .inr ⟨K, g, e1, by rw [hget_set_ne (fun q => hno n (List.mem_of_getElem? h1) K g _ e1 q.symm)]; exact e2, e3, e4⟩⟩
theorem IS.setT {h : AHeap} {S B V T : Nat} {sh : List Sh} {P : SMap} {ns : List Nd} (x : IS h S B V sh P ns) (hTS : T ≠ S) (hTV : T ≠ V) (hno : NoT T ns) {es : List AV} {g : Nat} (hT : hget h T = .arr 1 es g) (o : AObj) : IS (h.set T o) S B V sh P ns :=
  ⟨sp_setT x.sp hTS hT o, nr_setT o x.nr hno, by rw [List.length_set]; exact x.b, x.vs, by have := x.ms; unfold MS at this ⊢; rw [hget_set_ne hTV]; exact this⟩
theorem NoT.new {T : Nat} {h : AHeap} {ns ns' : List Nd} (x : NoT T ns) (y : NW h ns ns') (hT : T < h.length) : NoT T ns' := by
  obtain ⟨new, rfl, hn⟩ := y
  intro n hm K g l e
  rcases List.mem_append.1 hm with hm | hm
  · exact x n hm K g l e
  · have := hn n hm K g l e; omega
def Vals (sh : List Sh) (P : SMap) (kl : List Nat) (l : List Tm) : Prop := kl.length = l.length ∧ ∀ (j id : Nat) (t : Tm), kl[j]? = some id → l[j]? = some t → Val sh P id t
theorem Vals.ext {a b : List Sh} {P Q : SMap} {u : List (List UInt8)} (x : IE a P u b Q) {kl : List Nat} {l : List Tm} (v : Vals a P kl l) : Vals b Q kl l := ⟨v.1, fun j id t h1 h2 => (v.2 j id t h1 h2).ext x⟩
theorem Vals.snoc {sh : List Sh} {P : SMap} {kl : List Nat} {l : List Tm} (v : Vals sh P kl l) {id : Nat} {t : Tm} (hv : Val sh P id t) : Vals sh P (kl ++ [id]) (l ++ [t]) := by
  refine ⟨by simp [v.1], fun j i x h1 h2 => ?_⟩
  by_cases hj : j < kl.length
  · rw [List.getElem?_append_left hj] at h1
    rw [List.getElem?_append_left (by rw [← v.1]; exact hj)] at h2
    exact v.2 j i x h1 h2
  · have := lt_of_at h1
    have : j = kl.length := by simp at this; omega
    subst this
    rw [List.getElem?_append_right (Nat.le_refl _), Nat.sub_self] at h1
    rw [List.getElem?_append_right (by rw [v.1]; exact Nat.le_refl _), v.1, Nat.sub_self] at h2
    cases h1; cases h2; exact hv
theorem septr_int {i x : Nat} {y : Int} {H1 : AHeap} {T g : Nat} (L : List AV) (hL : L[i]? = some (.int y)) : septr true 1 (.int (x : Int)) g 1 i 0 H1 T (.arr 1 L g) = some (H1.set T (.arr 1 (L.set i (.int (x : Int))) g)) := by
  simp [septr, hL, AV.cells, patch, putAt]
theorem amake_85 (h : AHeap) (n : Nat) (hn : n ≤ 100000) : amake Tryd.prog 85 h (.int (n : Int)) (.int (n : Int)) = some (.arr h.length 0 n 0 1, h ++ [.arr 1 (List.replicate n (.int 0)) 0]) := by
  unfold amake
  have e : ((n : Int)).toNat = n := by omega
  have : tslice Tryd.prog 85 = some (1, 8, .int 0) := tslice_85
  rw [this]
  show (if 0 ≤ (n : Int) ∧ (n : Int) ≤ (n : Int) ∧ ((n : Int)).toNat * 8 ≤ 2 ^ 47 then some (AV.arr h.length 0 ((n : Int)).toNat 0 1, h ++ [AObj.arr 1 (List.replicate ((n : Int)).toNat (.int 0)) 0]) else none) = _
  rw [e, if_pos ⟨by omega, Int.le_refl _, by omega⟩]
section
variable {S V : Nat} {f : FuncId} {caps : List AV} {h0 : AHeap}
set_option maxHeartbeats 8000000 in
theorem imp_loop (hc : callable Tryd.prog f = true) {l : List Tm} (hl : l.length ≤ 100000) {T bx : Nat} (hTS : T ≠ S) (hTV : T ≠ V) (hT0 : h0.length ≤ T) : ∀ (r done : List Tm), (∀ k ∈ r, ImpOk S V f caps h0 k) → l = done ++ r → ∀ (h : AHeap) (B : Nat) (sh : List Sh) (P : SMap) (ns : List Nd) (kl : List Nat), Ku S V V h0 h → IS h S B V sh P ns → IP sh P → sh.length + tszs r ≤ 90000 → Vals sh P kl done → T < h.length → NoT T ns → TI h T 0 (ints kl ++ List.replicate r.length 0) →
    ∃ H kl' B' sh' P' ns', lrun Tryd.prog md fg (fg 39) (loopOf Tryd.f39 0) (fg 39 1) (((.ptr S 0) :: .unk :: (.mp V) :: (.clo f [] caps) :: .unk :: (.ptr bx 0) :: U::U::U::U::U::(.arr T 0 l.length 0 1) :: U::U::U::U::U::U::U::U::U::U::U::U::U::U::U::U::U::U::U::U::U::U::U::U::U::U::U::U::(.slc false (l.map tmV)) :: (.int l.length) :: (.int done.length) :: U::U::U::U::U::U::U::U::U::U::U::U::U::U::U::U::U::U::U::U::U::U::[] : List AV)) h = some (.exit 0, ((.ptr S 0) :: .unk :: (.mp V) :: (.clo f [] caps) :: .unk :: (.ptr bx 0) :: U::U::U::U::U::(.arr T 0 l.length 0 1) :: U::U::U::U::U::U::U::U::U::U::U::U::U::U::U::U::U::U::U::U::U::U::U::U::U::U::U::U::(.slc false (l.map tmV)) :: (.int l.length) :: (.int l.length) :: U::U::U::U::U::U::U::U::U::U::U::U::U::U::U::U::U::U::U::U::U::U::[] : List AV), H) ∧ IS H S B' V sh' P' ns' ∧ IP sh' P' ∧ Vals sh' P' kl' l ∧ IE sh P (tvarss r) sh' P' ∧ sh'.length ≤ sh.length + tszs r ∧ kc sh' + r.length ≤ kc sh + tszs r ∧ Ku S V T h H ∧ AR S h H ∧ NW h ns ns' ∧ NoT T ns' ∧ TI H T 0 (ints kl')
  | [], done, hih, he, h, B, sh, P, ns, kl, hk, hi, ip, hb, hv, hTl, hno, hT => by
    rw [List.append_nil] at he
    subst he
    refine ⟨h, kl, B, sh, P, ns, ?_, hi, ip, hv, by rw [tvarss]; exact IE.refl sh P, by rw [tszs]; omega, by rw [tszs]; simp, Ku.refl _ _ _ _, AR.refl S h, NW.refl h ns, hno, by simpa using hT⟩
    rw [lrun_atC loop39_0]
    simp (implicitDefEqProofs := false) (disch := omega) only [go_sem, seval, rgn Tryd.f39 11 rfl]
  | k :: r, done, hih, he, h, B, sh, P, ns, kl, hk, hi, ip, hb, hv, hTl, hno, hT => by
    obtain ⟨kd, kp, km, kn, kk⟩ := k
    rw [tszs] at hb
    have hpos := tsz_pos ⟨kd, kp, km, kn, kk⟩
    have hS : S < h.length := by obtain ⟨_, q, _⟩ := hi.sp; exact hlt_of q (by simp)
    have hi1 := hi.app [.vars [.int kd, .str (txt kp), .str (txt km), .int kn, .slc false (kk.map tmV)]]
    have k1 := ku_app S V V h [.vars [.int kd, .str (txt kp), .str (txt km), .int kn, .slc false (kk.map tmV)]]
    obtain ⟨H1, id, B1, sh1, P1, ns1, c1, i1, ip1, ie1, v1, le1, kc1, ku1, ar1, nw1⟩ := hih ⟨kd, kp, km, kn, kk⟩ (List.mem_cons_self ..) _ B sh P ns (hk.trans k1) hi1 ip (by omega)
    rw [tmV_mk] at c1
    have hT1 : TI H1 T 0 (ints kl ++ 0 :: List.replicate r.length 0) := (k1.trans ku1).2 T _ hT (by simp) hTS hTV hTV (by simp)
    have hno1 : NoT T ns1 := hno.new nw1 (by simp; omega)
    have hT1l := hlt_of hT1 (by simp)
    have hT2 : TI (H1.set T (.arr 1 ((ints (kl ++ [id]) ++ List.replicate r.length 0).map AV.int) 0)) T 0 (ints (kl ++ [id]) ++ List.replicate r.length 0) := hget_set_eq hT1l
    have i2 := i1.setT hTS hTV hno1 hT1 (.arr 1 ((ints (kl ++ [id]) ++ List.replicate r.length 0).map AV.int) 0)
    have kT : Ku S V T h (H1.set T (.arr 1 ((ints (kl ++ [id]) ++ List.replicate r.length 0).map AV.int) 0)) := by
      have k := k1.trans ku1
      exact ⟨by rw [List.length_set]; exact k.1, fun j o e z1 z2 z3 z4 z5 => by rw [hget_set_ne (fun q => z4 q.symm)]; exact k.2 j o e z1 z2 z3 z3 z5⟩
    have k02 : Ku S V V h0 (H1.set T (.arr 1 ((ints (kl ++ [id]) ++ List.replicate r.length 0).map AV.int) 0)) := ⟨Nat.le_trans hk.1 kT.1, fun j o e z1 z2 z3 z4 z5 => kT.2 j o (hk.2 j o e z1 z2 z3 z4 z5) z1 z2 z3 (by have := hlt_of e z1; omega) z5⟩
    have har2 : AR S h (H1.set T (.arr 1 ((ints (kl ++ [id]) ++ List.replicate r.length 0).map AV.int) 0)) := ((AR.app hS _).trans ar1 (by simp)).same (hget_set_ne hTS)
    have nwh : NW h ns ns1 := by
      obtain ⟨new, e1, e2⟩ := nw1
      exact ⟨new, e1, fun n hn K g l e => by have := e2 n hn K g l e; simp at this; omega⟩
    obtain ⟨H, kl', B', sh', P', ns', y1, y2, y3, y4, y5, y6, y7, y8, y9, y10, y11, y12⟩ := imp_loop hc hl hTS hTV hT0 r (done ++ [⟨kd, kp, km, kn, kk⟩]) (fun k hk => hih k (List.mem_cons_of_mem _ hk)) (by rw [he]; simp) _ B1 sh1 P1 ns1 (kl ++ [id]) k02 i2 ip1 (by omega) ((hv.ext ie1).snoc v1) (by rw [List.length_set]; exact hT1l) hno1 hT2
    refine ⟨H, kl', B', sh', P', ns', ?_, y2, y3, y4, by rw [tvarss]; exact ie1.trans y5, by rw [tszs]; omega, by rw [tszs, List.length_cons]; omega, kT.trans y8, har2.trans y9 kT.1, nwh.trans y10 kT.1, y11, y12⟩
    have hlen2 : (done ++ [Tm.mk kd kp km kn kk]).length = done.length + 1 := by simp
    rw [hlen2] at y1
    rw [← y1]
    have hll : l.length = done.length + (r.length + 1) := by rw [he]; simp
    have hlt : (done.length : Int) < (l.length : Int) := by omega
    have htn : ((done.length : Int)).toNat = done.length := by omega
    have hat : (l.map tmV)[done.length]? = some (.agg [.int kd, .str (txt kp), .str (txt km), .int kn, .slc false (kk.map tmV)]) := by
      rw [he]; simp [tmV_mk]
    have yb : hget H1 h.length = .vars [.int kd, .str (txt kp), .str (txt km), .int kn, .slc false (kk.map tmV)] := ku1.2 _ _ hget_last (by simp) (by omega) (by have := hlt_of hi.ms (by simp); omega) (by have := hlt_of hi.ms (by simp); omega) (by simp)
    have hgT : ((ints kl ++ 0 :: List.replicate r.length 0).map AV.int)[done.length]? = some (.int 0) := by
      have := hv.1
      rw [List.getElem?_map, List.getElem?_append_right (by rw [ints_len]; omega), ints_len, show done.length - kl.length = 0 by omega]
      rfl
    have hset : ((ints kl ++ 0 :: List.replicate r.length 0).map AV.int).set done.length (.int (id : Int)) = (ints (kl ++ [id]) ++ List.replicate r.length 0).map AV.int := by
      have := hv.1
      rw [List.map_append, List.map_cons, ints_append, List.append_assoc, List.map_append]
      rw [List.set_append_right _ _ (by simp [ints_len]; omega)]
      simp only [List.length_map, ints_len]
      rw [show done.length - kl.length = 0 by omega]
      rfl
    have hstp : septr true 1 (.int (id : Int)) 0 1 done.length 0 H1 T (.arr 1 ((ints kl ++ 0 :: List.replicate r.length 0).map AV.int) 0) = some (H1.set T (.arr 1 ((ints (kl ++ [id]) ++ List.replicate r.length 0).map AV.int) 0)) := by
      rw [← hset]
      exact septr_int _ hgT
    unfold TI at hT1
    rw [lrun_atC loop39_0]
    simp (implicitDefEqProofs := false) (disch := omega) only [go_sem, seval, rgn Tryd.f39 11 rfl, rgn Tryd.f39 12 rfl, rgn Tryd.f39 13 rfl, rgn Tryd.f39 14 rfl, hlt, htn, hat, hget_last, set_last, c1, hT1, hstp, yb, hgT]
    all_goals (congr 1 <;> simp only [List.cons.injEq, AV.val.injEq, Value.int.injEq, Value.bool.injEq, true_and, and_true] <;> omega)
set_option maxHeartbeats 8000000 in
theorem imp_node (hc : callable Tryd.prog f = true) (k : Int) (p m : List UInt8) (n : Int) (l : List Tm) (ht : Tm.ty ⟨k, p, m, n, l⟩) (hft : Tm.fit ⟨k, p, m, n, l⟩) (hk1 : k ≠ 1) (hih : ∀ x ∈ l, ImpOk S V f caps h0 x) : ImpOk S V f caps h0 ⟨k, p, m, n, l⟩ := by
  intro h B sh P ns hk hi ip hbud
  rw [Tm.ty] at ht
  have hS : S < h.length := by obtain ⟨_, q, _⟩ := hi.sp; exact hlt_of q (by simp)
  have hVl : V < h.length := hlt_of hi.ms (by simp)
  have hts : tsz ⟨k, p, m, n, l⟩ = 1 + tszs l := by rw [tsz]
  have htv : tvars ⟨k, p, m, n, l⟩ = tvarss l := by rw [tvars, if_neg hk1]
  rw [hts] at hbud
  have hlen : ∀ l : List Tm, l.length ≤ tszs l := fun l => by
    induction l with
    | nil => simp
    | cons a r ih => rw [tszs]; have := tsz_pos a; simp; omega
  have hll := hlen l
  rw [htv, hts, tmV_mk]
  have hi1 := hi.app [.vars [.int k, .str (txt p), .str (txt m), .int n, .slc false (l.map tmV)]]
  have cf := full_c hi1.sp
  have hi2 := hi.app [.vars [.int k, .str (txt p), .str (txt m), .int n, .slc false (l.map tmV)], .arr 1 ((List.replicate l.length (0 : Int)).map AV.int) 0]
  have k2 := ku_app S V V h [.vars [.int k, .str (txt p), .str (txt m), .int n, .slc false (l.map tmV)], .arr 1 ((List.replicate l.length (0 : Int)).map AV.int) 0]
  have hno : NoT (h.length + 1) ns := fun n hn K g l' e => by
    obtain ⟨j, hj⟩ := List.mem_iff_getElem?.1 hn
    obtain ⟨s, hs⟩ := at_of_lt (l := sh) (i := j) (by rw [← hi.nr.1]; exact lt_of_at hj)
    rcases (hi.nr.2 j n s hj hs).kids with ⟨z, _⟩ | ⟨K', g', z, _, _, z4⟩
    · rw [z] at e; cases e
    · rw [z] at e
      simp only [AV.arr.injEq] at e
      have := hi.b
      omega
  have h0l := hk.1
  obtain ⟨H, kl, B', sh', P', ns', y1, y2, y3, y4, y5, y6, y7, y8, y9, y10, y11, y12⟩ := imp_loop (bx := h.length) (l := l) hc (by omega) (T := h.length + 1) (by omega) (by omega) (by omega) l [] hih rfl _ B sh P ns [] (hk.trans k2) hi2 ip (by omega) ⟨rfl, by simp⟩ (by simp) hno (sb_get1 _ _ _ rfl)
  have hb : hget H h.length = .vars [.int k, .str (txt p), .str (txt m), .int n, .slc false (l.map tmV)] := y8.2 _ _ (sb_get0 _ _ rfl) (by simp) (by omega) (by omega) (by omega) (by simp)
  have hkl := y4.1
  have hids : ∀ x ∈ kl, x < sh'.length := fun x hx => by
    obtain ⟨j, hj⟩ := List.mem_iff_getElem?.1 hx
    obtain ⟨t, ht⟩ := at_of_lt (l := l) (i := j) (by rw [← hkl]; exact lt_of_at hj)
    exact (y4.2 j x t hj ht).1
  obtain ⟨H4, B4, n4, c1, c2, c3, c4, c5, c6, c7⟩ := make_c2 y2.sp y2.nr y2.b (by omega) k p m y12 (by omega) hids
  rw [hkl] at c1
  have har : AR S h H4 := ((AR.app hS _).trans (y9.trans c6 y8.1) (by simp))
  have hku : Ku S V V h H4 := by
    have q := (k2.trans ((Ku.trans (Ku.refl _ _ _ _) (Ku.refl _ _ _ _)) : Ku S V V _ _))
    refine ⟨Nat.le_trans k2.1 (Nat.le_trans y8.1 c5.1), fun j o e z1 z2 z3 z4 z5 => c5.2 j o (y8.2 j o (k2.2 j o e z1 z2 z3 z4 z5) z1 z2 z3 (by have := hlt_of e z1; omega) z5) z1 z2 z5⟩
  have hms : MS H4 V P' := by have := y2.ms; unfold MS at this ⊢; exact c5.2 V _ this (by simp) hi.vs (by simp)
  have hI4 : IS H4 S B4 V (sh' ++ [⟨k, p, m, kl⟩]) P' (ns' ++ [n4]) := ⟨c2, c3, c4, hi.vs, hms⟩
  have hlH : h.length + 2 ≤ H.length := by have := y8.1; simp at this; omega
  have hNW : NW h ns (ns' ++ [n4]) := by
    obtain ⟨new, e1, e2⟩ := y10
    refine ⟨new ++ [n4], by rw [e1, List.append_assoc], fun x hx K g l e => ?_⟩
    rcases List.mem_append.1 hx with hx | hx
    · have := e2 x hx K g l e; simp at this; omega
    · rw [List.mem_singleton.1 hx] at e
      have := c7 K g l e; omega
  have hnl' := y10.le
  have e : aval Tryd.prog md fg 39 [.ptr S 0, .agg [.int k, .str (txt p), .str (txt m), .int n, .slc false (l.map tmV)], .mp V, .clo f [] caps] h = some (.int (sh'.length : Int), H4) := by
    simp only [List.length_nil, Int.natCast_zero, List.map_replicate] at y1
    have hmk := fun h => amake_85 h l.length (by omega)
    rw [aval_of Tryd.func39 body39 Tryd.results39 Tryd.ntmps39 ok39]
    simp (implicitDefEqProofs := false) (disch := omega) only [go_sem, seval, rgn Tryd.f39 0 rfl, rgn Tryd.f39 1 rfl, rgn Tryd.f39 3 rfl, rgn Tryd.f39 9 rfl, rgn Tryd.f39 10 rfl, rgn Tryd.f39 15 rfl, cf, hget_last, hk1, List.append_assoc, List.cons_append, List.nil_append, sb_get0, List.length_append, List.length_cons, List.length_nil, List.length_map, Int.toNat_natCast, y1, hb, c1, hmk, ato2_some]
  obtain ⟨H', B'', z1, z2, z3, z4⟩ := IS.end' md39 e hi hI4 hku hNW (.inl (by simp; omega)) har
  obtain ⟨ip2, ie2⟩ := ip_node (s := ⟨k, p, m, kl⟩) y3 hids hk1 (by dsimp only; omega) (by rw [Tm.fit] at hft; exact ⟨hft.1, hft.2.1, ht.1.1, ht.1.2.1⟩)
  have ie3 := y5.trans ie2
  rw [List.append_nil] at ie3
  refine ⟨H', sh'.length, B'', _, P', _, z1, z2, ip2, ie3, ⟨by simp, fun x hx => ?_, fun M hM => ?_⟩, by simp; omega, by rw [kc_add]; dsimp only; omega, z3, z4, hNW⟩
  · rw [htv] at hx; exact ie3.has x hx
  · rw [inst_mk, if_neg hk1, hM sh'.length ⟨k, p, m, kl⟩ (by rw [List.getElem?_append_right (Nat.le_refl _), Nat.sub_self]; rfl) hk1]
    congr 1
    apply List.ext_getElem?
    intro j
    rw [List.getElem?_map, List.getElem?_map]
    cases hj : kl[j]? with
    | none =>
      rw [List.getElem?_eq_none (by rw [← hkl]; exact List.getElem?_eq_none_iff.1 hj)]; rfl
    | some id =>
      obtain ⟨t, ht⟩ := at_of_lt (l := l) (i := j) (by rw [← hkl]; exact lt_of_at hj)
      rw [ht, Option.map_some, Option.map_some]
      have := (y4.2 j id t hj ht).2.2 M (con_pre hM)
      rw [this]
mutual
theorem imp_all (hc : callable Tryd.prog f = true) (hfr : Fr S V f caps h0) : ∀ t : Tm, t.ty → t.fit → ImpOk S V f caps h0 t
  | .mk k p m n l, ht, hft => by
    by_cases hk : k = 1
    · subst hk; exact imp_var hc hfr p m n l ht
    · exact imp_node hc k p m n l ht hft hk (imp_alls hc hfr l (by rw [Tm.ty] at ht; exact ht.2) (by rw [Tm.fit] at hft; exact hft.2.2.2))
theorem imp_alls (hc : callable Tryd.prog f = true) (hfr : Fr S V f caps h0) : ∀ l : List Tm, Tm.tys l → Tm.fits l → ∀ x ∈ l, ImpOk S V f caps h0 x
  | [], _, _, x, hx => by cases hx
  | t :: r, ht, hft, x, hx => by
    rw [Tm.tys] at ht
    rw [Tm.fits] at hft
    rcases List.mem_cons.1 hx with e | hx
    · rw [e]; exact imp_all hc hfr t ht.1 hft.1
    · exact imp_alls hc hfr r ht.2 hft.2 x hx
end
end
def cap (n : Nat) : Nat := min n 1001
theorem cap_le (n : Nat) : cap n ≤ 1001 := by unfold cap; omega
theorem cap_add (a b : Nat) : cap (cap a + cap b) = cap (a + b) := by unfold cap; omega
theorem cap_big {n : Nat} : cap n ≤ 1000 ↔ n ≤ 1000 := by unfold cap; omega
section
variable {S B Z : Nat} {b w : Int} {fl : Bool} {sh : List Sh} {rt r : Nat → Nat} {vis : Nat → Bool} {T : Nat → Tm}
def SzV (T : Nat → Tm) (Q : NMap) : Prop := ∀ (k n : Nat), mg Q k = some n → n = cap (tsz (T k))
def SzOk (S B Z : Nat) (b w : Int) (fl : Bool) (sh : List Sh) (rt r : Nat → Nat) (vis : Nat → Bool) (T : Nat → Tm) (i : Nat) : Prop := ∀ (h : AHeap) (ns : List Nd) (Q : NMap), SP h S ns b fl w → NR h S B sh rt r vis w ns → MN h Z Q → SzV T Q →
  ∃ H ns' Q', doCall md (aval Tryd.prog md fg) 49 [.ptr S 0, .int (i : Nat), .mp Z] h = some (.int (cap (tsz (T i)) : Nat), H) ∧ SP H S ns' b fl w ∧ NR H S B sh rt r vis w ns' ∧ MN H Z Q' ∧ SzV T Q' ∧ Ku S Z Z h H ∧ H.length = h.length
def sumT (T : Nat → Tm) (l : List Nat) : Nat := (l.map fun k => tsz (T k)).sum
theorem tszs_map (T : Nat → Tm) : ∀ l : List Nat, tszs (l.map T) = sumT T l
  | [] => by simp [tszs, sumT]
  | a :: r => by rw [List.map_cons, tszs, tszs_map T r]; simp [sumT]
set_option maxHeartbeats 8000000 in
theorem size_loop (hZS : Z ≠ S) (hBZ : B ≤ Z) {kv : AV} {kl : List Nat} (hkl : kl.length ≤ 100000) {i : Nat} : ∀ (rem done : List Nat), (∀ k ∈ rem, SzOk S B Z b w fl sh rt r vis T k) → kl = done ++ rem → ∀ (h : AHeap) (ns : List Nd) (Q : NMap) (n : Nat), SP h S ns b fl w → NR h S B sh rt r vis w ns → MN h Z Q → SzV T Q → KB h S B kv (ints kl) → n ≤ 1001 →
    ∃ H ns' Q' n', lrun Tryd.prog md fg (fg 49) (loopOf Tryd.f49 0) (fg 49 1) (((.ptr S 0) :: (.int i) :: (.mp Z) :: U::U::U::U::U::U::(.int (n : Nat)) :: U::U::U::U::U::U::U::U::U::U::U::U::U::U::U::U::U::U::U::U::(kv) :: (.int kl.length) :: (.int done.length) :: U::U::U::U::U::U::U::U::U::U::U::U::U::U::U::[] : List AV)) h = some (.exit 0, ((.ptr S 0) :: (.int i) :: (.mp Z) :: U::U::U::U::U::U::(.int (n' : Nat)) :: U::U::U::U::U::U::U::U::U::U::U::U::U::U::U::U::U::U::U::U::(kv) :: (.int kl.length) :: (.int kl.length) :: U::U::U::U::U::U::U::U::U::U::U::U::U::U::U::[] : List AV), H) ∧ SP H S ns' b fl w ∧ NR H S B sh rt r vis w ns' ∧ MN H Z Q' ∧ SzV T Q' ∧ Ku S Z Z h H ∧ H.length = h.length ∧ n' = cap (n + sumT T rem)
  | [], done, hih, he, h, ns, Q, n, hs, hn, hm, hq, hkb, hn1 => by
    rw [List.append_nil] at he
    subst he
    refine ⟨h, ns, Q, n, ?_, hs, hn, hm, hq, Ku.refl _ _ _ _, rfl, by simp [sumT, cap]; omega⟩
    rw [lrun_atC loop49_0]
    simp (implicitDefEqProofs := false) (disch := omega) only [go_sem, seval, rgn Tryd.f49 7 rfl]
  | k :: rem, done, hih, he, h, ns, Q, n, hs, hn, hm, hq, hkb, hn1 => by
    obtain ⟨H1, ns1, Q1, c1, c2, c3, c4, c5, c6, c7⟩ := hih k (List.mem_cons_self ..) h ns Q hs hn hm hq
    have hcap := cap_le (tsz (T k))
    obtain ⟨H, ns', Q', n', d1, d2, d3, d4, d5, d6, d7, d8⟩ := size_loop hZS hBZ hkl (i := i) rem (done ++ [k]) (fun x hx => hih x (List.mem_cons_of_mem _ hx)) (by rw [he]; simp) H1 ns1 Q1 (cap (n + tsz (T k))) c2 c3 c4 c5 (hkb.ku hBZ hBZ c6) (cap_le _)
    refine ⟨H, ns', Q', n', ?_, d2, d3, d4, d5, c6.trans d6, by omega, ?_⟩
    · have hlen : (done ++ [k]).length = done.length + 1 := by simp
      rw [hlen] at d1
      rw [← d1]
      rcases hkb with ⟨_, hkb2⟩ | ⟨K, g, rfl, hK, hKS, hKB⟩
      · have := congrArg List.length hkb2; rw [he] at this; simp [ints] at this
      have hll : kl.length = done.length + (rem.length + 1) := by rw [he]; simp
      have hlt : (done.length : Int) < (kl.length : Int) := by omega
      have htn : ((done.length : Int)).toNat = done.length := by omega
      have hat : ((ints kl).map AV.int)[done.length]? = some (.int (k : Int)) := by rw [he]; simp [ints]
      have hmin : (if (1001 : Int) < (n : Int) + (cap (tsz (T k)) : Nat) then (1001 : Int) else (n : Int) + (cap (tsz (T k)) : Nat)) = ((cap (n + tsz (T k)) : Nat) : Int) := by
        unfold cap at hcap ⊢
        split <;> omega
      rw [lrun_atC loop49_0]
      simp (implicitDefEqProofs := false) (disch := omega) only [go_sem, seval, rgn Tryd.f49 7 rfl, rgn Tryd.f49 8 rfl, rgn Tryd.f49 9 rfl, rgn Tryd.f49 10 rfl, hlt, htn, hK, hat, c1, hmin, ints_len]
      all_goals (congr 1 <;> simp only [List.cons.injEq, AV.val.injEq, Value.int.injEq, Value.bool.injEq, true_and, and_true] <;> omega)
    · rw [d8]
      simp only [sumT, List.map_cons, List.sum_cons]
      have h1 := cap_add (n + tsz (T k)) ((rem.map fun k => tsz (T k)).sum)
      have h2 := cap_add (cap (n + tsz (T k))) ((rem.map fun k => tsz (T k)).sum)
      have h3 : cap (cap (n + tsz (T k))) = cap (n + tsz (T k)) := by unfold cap; omega
      rw [h3] at h2
      rw [← h2, h1, Nat.add_assoc]
theorem sp_mapN {h : AHeap} {S V : Nat} {ns : List Nd} {b : Int} {f : Bool} {w : Int} (hs : SP h S ns b f w) (hV : V ≠ S) {P : NMap} (hm : MN h V P) (o : AObj) : SP (h.set V o) S ns b f w := by
  obtain ⟨nv, z1, z2⟩ := hs
  refine ⟨nv, by rw [hget_set_ne hV]; exact z1, ?_⟩
  rcases z2 with z2 | ⟨A', g', z2, z3⟩
  · exact .inl z2
  · exact .inr ⟨A', g', z2, by rw [hget_set_ne (by rintro rfl; unfold MN at hm; rw [hm] at z3; simp at z3)]; exact z3⟩
set_option maxHeartbeats 8000000 in
theorem size_step (ok : Ok sh rt r) (hT : Mod sh rt T) (hv1 : ∀ (v : Nat) (s : Sh), sh[v]? = some s → s.kind = 1 → rt v = v → tsz (T v) = 1) (hkc : kc sh ≤ 100000) (hZS : Z ≠ S) (hBZ : B ≤ Z) {i : Nat} (hi : i < sh.length) (hih : ∀ (s : Sh), sh[rt i]? = some s → ∀ k ∈ s.kids, SzOk S B Z b w fl sh rt r vis T k) : SzOk S B Z b w fl sh rt r vis T i := by
  intro h ns Q hs hn hm hq
  obtain ⟨H1, ns1, c1, c2, c3, c4, c5⟩ := find_c hi hs hn
  have hm1 : MN H1 Z Q := c4.2 Z _ hm (by simp) hZS (by simp)
  have lk := mn_look hm1 (rt i)
  have hTi := hT.1 i hi
  cases hmg : mg Q (rt i) with
  | some n =>
    rw [hmg] at lk
    simp only [Option.getD_some, Option.isSome_some] at lk
    have hn' := hq _ _ hmg
    rw [hn', ← hTi] at lk
    refine ⟨H1, ns1, Q, doCall_same md49 ?_ c5, c2, c3, hm1, hq, c4.ku Z Z, c5⟩
    rw [aval_of Tryd.func49 body49 Tryd.results49 Tryd.ntmps49 ok49]
    simp (implicitDefEqProofs := false) (disch := omega) only [go_sem, seval, rgn Tryd.f49 0 rfl, rgn Tryd.f49 1 rfl, rgn Tryd.f49 2 rfl, rgn Tryd.f49 3 rfl, rgn Tryd.f49 4 rfl, c1, aop_lookup, lk]
  | none =>
    rw [hmg] at lk
    simp only [Option.getD_none, Option.isSome_none] at lk
    obtain ⟨n, s, hx, hsx, q⟩ := c3.at (ok.lt i hi)
    have hkl : s.kids.length ≤ 100000 := by
      have : s.kids.length ≤ kc sh := by
        have : ∀ (l : List Sh) (j : Nat) (s : Sh), l[j]? = some s → s.kids.length ≤ kc l := fun l => by
          induction l with
          | nil => intro j s h; simp at h
          | cons a r ih =>
            intro j s h
            have e : kc (a :: r) = a.kids.length + kc r := by simp [kc]
            rw [e]
            cases j with
            | zero => simp at h; subst h; omega
            | succ j => have := ih j s (by simpa using h); omega
        exact this sh _ s hsx
      omega
    have hlen := kb_len q.kids
    rw [ints_len] at hlen
    obtain ⟨H2, ns2, Q2, n', d1, d2, d3, d4, d5, d6, d7, d8⟩ := size_loop (b := b) (w := w) (fl := fl) (sh := sh) (rt := rt) (r := r) (vis := vis) (T := T) hZS hBZ hkl (i := rt i) s.kids [] (hih s hsx) rfl H1 ns1 Q 1 c2 c3 hm1 hq q.kids (by omega)
    have hsz : tsz (T (rt i)) = 1 + sumT T s.kids := by
      by_cases hk : s.kind = 1
      · rw [hv1 _ s hsx hk (ok.idem i hi), ok.var _ s hsx hk]; rfl
      · rw [hT.2 _ s hsx hk, tsz, tszs_map]
    rw [← hsz, ← hTi] at d8
    rw [d8] at d1
    have hput := mn_put d4 (rt i) (cap (tsz (T i)))
    have hZl := hlt_of d4 (by simp)
    refine ⟨H2.set Z (.map (encM nV nV (mset Q2 (rt i) (cap (tsz (T i)))).1) (mset Q2 (rt i) (cap (tsz (T i)))).2), ns2, mset Q2 (rt i) (cap (tsz (T i))), doCall_same md49 ?_ (by rw [List.length_set]; omega), sp_mapN d2 hZS d4 _, d3.ku hBZ hBZ ⟨by rw [List.length_set]; exact Nat.le_refl _, fun j o e z1 z2 z3 z4 z5 => by rw [hget_set_ne (fun q => z3 q.symm)]; exact e⟩, hget_set_eq hZl, fun k n hk => ?_, ?_, by rw [List.length_set]; omega⟩
    · obtain ⟨A, g, h1, h2⟩ := sp_arr c2 (ne_of_at hx)
      have hlt := lt_of_at hx
      have ht : (((rt i : Nat) : Int)).toNat = rt i := by omega
      obtain ⟨k, p, m, ks, l, t, mk⟩ := n
      dsimp only at hlen d1
      simp only [List.length_nil, Int.natCast_zero, show ((1 : Nat) : Int) = 1 from rfl] at d1
      rw [aval_of Tryd.func49 body49 Tryd.results49 Tryd.ntmps49 ok49]
      simp (implicitDefEqProofs := false) (disch := omega) only [go_sem, seval, rgn Tryd.f49 0 rfl, rgn Tryd.f49 1 rfl, rgn Tryd.f49 2 rfl, rgn Tryd.f49 3 rfl, rgn Tryd.f49 5 rfl, rgn Tryd.f49 6 rfl, rgn Tryd.f49 11 rfl, rgn Tryd.f49 12 rfl, c1, aop_lookup, lk, h1, h2, List.getElem?_map, ht, hx, Option.map_some, ndV_mk, hlen, d1, hput, aop_mapUpdate]
    · rw [mg_mset] at hk
      split at hk
      · rename_i e; cases hk; rw [e, hTi]
      · exact d5 k n hk
    · have k := (c4.ku Z Z).trans d6
      exact ⟨by rw [List.length_set]; exact k.1, fun j o e z1 z2 z3 z4 z5 => by rw [hget_set_ne (fun q => z3 q.symm)]; exact k.2 j o e z1 z2 z3 z4 z5⟩
theorem size_all (ok : Ok sh rt r) (hT : Mod sh rt T) (hv1 : ∀ (v : Nat) (s : Sh), sh[v]? = some s → s.kind = 1 → rt v = v → tsz (T v) = 1) (hkc : kc sh ≤ 100000) (hZS : Z ≠ S) (hBZ : B ≤ Z) : ∀ (N i : Nat), r i < N → i < sh.length → SzOk S B Z b w fl sh rt r vis T i
  | 0, i, h, _ => by omega
  | N + 1, i, h, hi => size_step ok hT hv1 hkc hZS hBZ hi fun s hs k hk => by
    obtain ⟨a, b⟩ := ok.kid _ s k hs hk
    have := ok.le i hi
    exact size_all ok hT hv1 hkc hZS hBZ N k (by omega) a
end
theorem fin_sp {h H : AHeap} {r : AV} {S : Nat} {ns0 ns : List Nd} {b0 b : Int} {f0 f1 : Bool} {w0 w : Int} (h0 : SP h S ns0 b0 f0 w0) (h1 : SP H S ns b f1 w) (hl : h.length ≤ H.length) :
    ∃ H', (H' = H.take h.length ∧ below h.length r = true ∧ GcOk h.length h H ∨ H' = H ∧ ¬ (below h.length r = true ∧ GcOk h.length h H)) ∧ SP H' S ns b f1 w ∧ h.length ≤ H'.length ∧ ∀ j, j < h.length → hget H' j = hget H j := by
  obtain ⟨nv0, a1, a2⟩ := h0
  have hS := hlt_of a1 (by simp)
  by_cases hg : below h.length r = true ∧ GcOk h.length h H
  · obtain ⟨nv, c1, c2⟩ := h1
    refine ⟨_, .inl ⟨rfl, hg⟩, ⟨nv, by rw [hget_take hS]; exact c1, ?_⟩, by rw [List.length_take]; omega, fun j hj => hget_take hj⟩
    rcases c2 with c2 | ⟨A, g, rfl, c2⟩
    · exact .inl c2
    · refine .inr ⟨A, g, rfl, ?_⟩
      have hA : A < h.length := by
        rcases hg.2 S hS with e1 | e1
        · have := hget_of_at e1
          rw [c1, a1] at this
          simp only [AObj.vars.injEq, List.cons.injEq] at this
          rcases a2 with ⟨_, a2⟩ | ⟨A', g', a2, a3⟩
          · rw [a2] at this; cases this.1
          · rw [a2] at this
            have h5 := this.1
            simp only [AV.arr.injEq] at h5
            rw [h5.1]; exact hlt_of a3 (by simp)
        · rw [c1] at e1
          simp only [belowO, belowL, below, Bool.and_eq_true, decide_eq_true_eq] at e1
          exact e1.1
      rw [hget_take hA]; exact c2
  · exact ⟨_, .inr ⟨rfl, hg⟩, h1, hl, fun _ _ => rfl⟩
theorem doCall_rate5 {f : FuncId} {vs : List AV} {h H : AHeap} {r r' : AV} {ids : List Nat} {S : Nat} {ns0 ns : List Nd} {b0 b : Int} {f0 f1 : Bool} {w0 w : Int} (hm : md f = 3) (e : aval Tryd.prog md fg f vs h = some (r, H)) (h0 : SP h S ns0 b0 f0 w0) (h1 : SP H S ns b f1 w) (hl : h.length ≤ H.length) (hx : exp1 H expDepth r = some (r', ids)) (hids : ids = [] ∨ ∃ K es g, ids = [K] ∧ h.length ≤ K ∧ hget H K = .arr 5 es g) :
    ∃ H', doCall md (aval Tryd.prog md fg) f vs h = some (r', H') ∧ SP H' S ns b f1 w ∧ h.length ≤ H'.length ∧ ∀ j, j < h.length → hget H' j = hget H j := by
  have hS : S < h.length := by obtain ⟨_, q, _⟩ := h0; exact hlt_of q (by simp)
  have key : canFrz H ids = true ∧ SP (frzAll H ids) S ns b f1 w ∧ h.length ≤ (frzAll H ids).length ∧ ∀ j, j < h.length → hget (frzAll H ids) j = hget H j := by
    rcases hids with rfl | ⟨K, es, g, rfl, hK, hg⟩
    · exact ⟨rfl, h1, hl, fun _ _ => rfl⟩
    · have e1 : frzAll H [K] = H.set K (.frz 5 es g) := by simp only [frzAll, frz1, hg]
      refine ⟨by simp [canFrz, hg], ?_, by rw [e1, List.length_set]; exact hl, fun j hj => by rw [e1, hget_set_ne (by omega)]⟩
      rw [e1]
      obtain ⟨nv, z1, z2⟩ := h1
      refine ⟨nv, by rw [hget_set_ne (by omega)]; exact z1, ?_⟩
      rcases z2 with z2 | ⟨A', g', z2, z3⟩
      · exact .inl z2
      · exact .inr ⟨A', g', z2, by rw [hget_set_ne (by rintro rfl; rw [hg] at z3; simp at z3)]; exact z3⟩
  obtain ⟨k1, k2, k3, k4⟩ := key
  obtain ⟨H', c1, c2, c3, c4⟩ := fin_sp (r := r') h0 k2 k3
  refine ⟨H', ?_, c2, c3, fun j hj => by rw [c4 j hj, k4 j hj]⟩
  rw [doCall_0 (by omega)]
  unfold doCall0
  rw [if_neg (by omega)]
  unfold rated
  rw [if_pos hm, e]
  dsimp only
  rw [hx]
  dsimp only
  rw [if_pos k1]
  dsimp only
  rcases c1 with ⟨c1, c5⟩ | ⟨c1, c5⟩
  · rw [if_pos c5, c1]
  · rw [if_neg c5, c1]
theorem callD_64 {env : Env} {d d2 : Option Tmp} {ty : TypeId} {pos : String} {aft : Array Edge} {g : Option (Nat × Bool)} (cs : Array Operand) (ts : Array TypeId) (h0 h' : AHeap) (v : AV) (k : Env → AHeap → Option (Env × AHeap)) : callD Tryd.prog md ⟨d, .call ⟨.value (.func 64), cs, ts⟩, ty, pos, aft, g⟩ h0 (some (v, h')) d2 k env = k (aput env d2 v) h' := by
  have : effOp Tryd.prog md ⟨d, .call ⟨.value (.func 64), cs, ts⟩, ty, pos, aft, g⟩ = true := rfl
  simp [callD, this]
def fstN (P : SMap) (rt : Nat → Nat) (id : Nat) : List (List UInt8) → List UInt8
  | [] => []
  | n :: r => if rt (vmap P n) = id then n else fstN P rt id r
section
variable {S B V Zs : Nat} {b w : Int} {fl : Bool} {sh : List Sh} {rt r : Nat → Nat} {vis : Nat → Bool} {P : SMap} {nb : Bool} {N : List (List UInt8)}
set_option maxHeartbeats 8000000 in
theorem first_loop (hVS : V ≠ S) (hZS : Zs ≠ S) (hN : N.length ≤ 100000) {id : Nat} : ∀ (rem done : List (List UInt8)), N = done ++ rem → (∀ n ∈ rem, vmap P n < sh.length) → ∀ (h : AHeap) (ns : List Nd), SP h S ns b fl w → NR h S B sh rt r vis w ns → MS h V P → SO h Zs S V (.slc nb (N.map sV)) →
    ∃ H ns' res a4 a12 c, lrun Tryd.prog md fg (fg 56) (loopOf Tryd.f56 0) (fg 56 1) (((.ptr Zs 0) :: (.int id) :: .unk :: .unk :: (.val (.string ⟨#[]⟩)) :: U::U::U::U::U::(.slc nb (N.map sV)) :: (.int N.length) :: (.int done.length) :: U::U::U::U::U::U::U::U::U::U::U::U::U::U::U::U::U::U::[] : List AV)) h = some (c, ((.ptr Zs 0) :: (.int id) :: .unk :: .unk :: (a4) :: U::U::U::U::U::(.slc nb (N.map sV)) :: (.int N.length) :: (a12) :: U::U::U::U::U::U::U::U::U::U::U::U::U::U::U::U::U::U::[] : List AV), H) ∧ (c = .ret ∧ a4 = .str (txt (fstN P rt id rem)) ∨ c = .exit 0 ∧ res = true ∧ fstN P rt id rem = []) ∧ SP H S ns' b fl w ∧ NR H S B sh rt r vis w ns' ∧ Kf S h H ∧ H.length = h.length
  | [], done, he, hv, h, ns, hs, hn, hm, hz => by
    rw [List.append_nil] at he
    rw [← he]
    refine ⟨h, ns, true, .val (.string ⟨#[]⟩), .int N.length, .exit 0, ?_, .inr ⟨rfl, rfl, rfl⟩, hs, hn, Kf.refl S h, rfl⟩
    rw [lrun_atC loop56_0]
    simp (implicitDefEqProofs := false) (disch := omega) only [go_sem, seval, rgn Tryd.f56 2 rfl]
  | n :: rem, done, he, hv, h, ns, hs, hn, hm, hz => by
    obtain ⟨H1, ns1, c1, c2, c3, c4, c5⟩ := find_c (hv n (List.mem_cons_self ..)) hs hn
    have lk := (ms_look hm n).2
    change alookup _ _ _ _ _ _ = some (.int (vmap P n : Nat)) at lk
    have hll : N.length = done.length + (rem.length + 1) := by rw [he]; simp
    have hlt : (done.length : Int) < (N.length : Int) := by omega
    have htn : ((done.length : Int)).toNat = done.length := by omega
    have hat : (N.map sV)[done.length]? = some (.str (txt n)) := by rw [he]; simp [sV]
    unfold SO at hz
    have hz1 : hget H1 Zs = .vars [.ptr S 0, .mp V, .slc nb (N.map sV)] := c4.2 Zs _ hz (by simp) hZS (by simp)
    have lk1 : alookup Tryd.prog 68 H1 (.mp V) (.str (txt n)) false = some (.int (vmap P n : Nat)) := (ms_look (c4.2 V _ hm (by simp) hVS (by simp) : MS H1 V P) n).2
    by_cases hid : rt (vmap P n) = id
    · refine ⟨H1, ns1, true, .str (txt n), .int done.length, .ret, ?_, .inl ⟨rfl, by unfold fstN; rw [if_pos hid]⟩, c2, c3, c4, c5⟩
      have hid' : ((rt (vmap P n) : Nat) : Int) = (id : Int) := by rw [hid]
      rw [lrun_atC loop56_0]
      simp (implicitDefEqProofs := false) (disch := omega) only [go_sem, seval, rgn Tryd.f56 2 rfl, rgn Tryd.f56 3 rfl, rgn Tryd.f56 4 rfl, rgn Tryd.f56 5 rfl, hlt, htn, hat, hz, hz1, aop_lookup, lk, lk1, c1, hid', callD_64]
    · obtain ⟨H, ns', res, a4, a12, c, d1, d2, d3, d4, d5, d6⟩ := first_loop hVS hZS hN (id := id) rem (done ++ [n]) (by rw [he]; simp) (fun x hx => hv x (List.mem_cons_of_mem _ hx)) H1 ns1 c2 c3 (c4.2 V _ hm (by simp) hVS (by simp)) hz1
      have hlen : (done ++ [n]).length = done.length + 1 := by simp
      rw [hlen] at d1
      have hf : fstN P rt id (n :: rem) = fstN P rt id rem := if_neg hid
      refine ⟨H, ns', res, a4, a12, c, ?_, by rw [hf]; exact d2, d3, d4, c4.trans d5, by omega⟩
      rw [← d1]
      have hid' : ¬ ((rt (vmap P n) : Nat) : Int) = (id : Int) := by omega
      rw [lrun_atC loop56_0]
      simp (implicitDefEqProofs := false) (disch := omega) only [go_sem, seval, rgn Tryd.f56 2 rfl, rgn Tryd.f56 3 rfl, rgn Tryd.f56 4 rfl, rgn Tryd.f56 6 rfl, hlt, htn, hat, hz, hz1, aop_lookup, lk, lk1, c1, hid', callD_64]
      all_goals (congr 1 <;> simp only [List.cons.injEq, AV.val.injEq, Value.int.injEq, Value.bool.injEq, true_and, and_true] <;> omega)
theorem first_c (hVS : V ≠ S) (hZS : Zs ≠ S) (hN : N.length ≤ 100000) {id : Nat} (hv : ∀ n ∈ N, vmap P n < sh.length) {h : AHeap} {ns : List Nd} (hs : SP h S ns b fl w) (hn : NR h S B sh rt r vis w ns) (hm : MS h V P) (hz : SO h Zs S V (.slc nb (N.map sV))) :
    ∃ H ns', doCall md (aval Tryd.prog md fg) 56 [.ptr Zs 0, .int id] h = some (.str (txt (fstN P rt id N)), H) ∧ SP H S ns' b fl w ∧ NR H S B sh rt r vis w ns' ∧ Kf S h H ∧ H.length = h.length := by
  obtain ⟨H, ns', res, a4, a12, c, d1, d2, d3, d4, d5, d6⟩ := first_loop (id := id) hVS hZS hN N [] rfl hv h ns hs hn hm hz
  simp only [List.length_nil, Int.natCast_zero] at d1
  have hz' := hz
  unfold SO at hz'
  refine ⟨H, ns', doCall_same md56 ?_ d6, d3, d4, d5, d6⟩
  rcases d2 with ⟨rfl, rfl⟩ | ⟨rfl, rfl, e⟩
  · rw [aval_of Tryd.func56 body56 Tryd.results56 Tryd.ntmps56 ok56]
    simp (implicitDefEqProofs := false) (disch := omega) only [go_sem, seval, rgn Tryd.f56 0 rfl, rgn Tryd.f56 1 rfl, hz', List.length_map, d1]
  · rw [e, show AV.str (txt []) = .val (.string ⟨#[]⟩) from rfl]
    rw [aval_of Tryd.func56 body56 Tryd.results56 Tryd.ntmps56 ok56]
    simp (implicitDefEqProofs := false) (disch := omega) only [go_sem, seval, rgn Tryd.f56 0 rfl, rgn Tryd.f56 1 rfl, rgn Tryd.f56 7 rfl, hz', List.length_map, d1]
end
theorem exp_agg5 {H : AHeap} {v : AV} {us : List Tm} {ids : List Nat} (a b c d : Value) (hn : solid v = false) (e : exp1 H 59 v = some (.slc false (us.map tmV), ids)) : exp1 H expDepth (.agg [.val a, .val b, .val c, .val d, v]) = some (.agg [.val a, .val b, .val c, .val d, .slc false (us.map tmV)], ids) := by
  have hb : ∀ a : Value, exp1 H (58 + 1) (.val a) = some (.val a, []) := fun a => rfl
  show exp1 H (58 + 1 + 1) _ = _
  rw [exp1]
  have e : exp1 H (58 + 1) v = some (.slc false (us.map tmV), ids) := e
  simp only [solid, solidL, hn, Bool.false_and, Bool.and_false, Bool.true_and, if_false, Bool.false_eq_true, expL, hb, e, List.nil_append, List.append_nil, Option.map_some]
theorem headOk_tm (l : List Tm) : headOk 5 (l.map tmV) = true := by
  cases l with
  | nil => rfl
  | cons t r => obtain ⟨k, p, m, n, ks⟩ := t; rw [List.map_cons, tmV_mk]; rfl
theorem b31 : ((3 : Nat) == 1) = false := rfl
theorem solid_tmL : ∀ us : List Tm, solidL (us.map tmV) = true := fun us => by rw [← tmsV_eq]; exact solid_tms us
theorem call56 : callable Tryd.prog 56 = true := by kernel_rfl
def KT (h : AHeap) (n0 : Nat) (kt : AV) (l : List Tm) : Prop := (l = [] ∧ kt = .slc true []) ∨ ∃ K g, kt = .arr K 0 l.length g 5 ∧ hget h K = .arr 5 (l.map tmV) g ∧ n0 ≤ K
theorem kt_add {h : AHeap} {n0 : Nat} {kt : AV} {l : List Tm} (hk : KT h n0 kt l) (hl : l.length ≤ 100000) (h0 : n0 ≤ h.length) (t : Tm) : ∃ v H, (∀ z, appT (some (5, 72, z)) h kt (some [tmV t]) = some (v, H)) ∧ KT H n0 v (l ++ [t]) ∧ (h.length ≤ H.length ∧ ∀ j o, hget h j = o → o ≠ .dead → (n0 ≤ j → ∀ b c, o ≠ .arr 5 b c) → hget H j = o) ∧ fits 1 v = true ∧ v.cells = [v] := by
  have hh : headOk 5 [tmV t] = true := headOk_tm [t]
  rcases hk with ⟨rfl, rfl⟩ | ⟨K, g, rfl, h2, h3⟩
  · refine ⟨_, _, fun z => appT_slc _ _ _ _ _ hh rfl (by simp) (by simp), .inr ⟨h.length, 0, by simp, by rw [hget_last]; rfl, h0⟩, ⟨by simp, fun j o e h1 _ => by rw [hget_app _ (hlt_of e h1)]; exact e⟩, rfl, rfl⟩
  · refine ⟨_, _, fun z => appT_arr _ _ _ _ _ _ _ _ h2 (by simp) hh (by simp; omega), .inr ⟨K, g + 1, by simp, by rw [hget_set_eq (hlt_of h2 (by simp))]; simp, h3⟩, ⟨by simp, fun j o e h1 h4 => ?_⟩, rfl, rfl⟩
    rw [hget_set_ne (by rintro rfl; rw [h2] at e; exact h4 h3 _ _ e.symm)]; exact e
def Kt (S b8 n0 : Nat) (h H : AHeap) : Prop := h.length ≤ H.length ∧ ∀ j o, hget h j = o → o ≠ .dead → j ≠ S → j ≠ b8 → (∀ b c, o ≠ .arr 7 b c) → (n0 ≤ j → ∀ b c, o ≠ .arr 5 b c) → hget H j = o
theorem Kt.refl (S b8 n0 : Nat) (h : AHeap) : Kt S b8 n0 h h := ⟨Nat.le_refl _, fun _ _ e _ _ _ _ _ => e⟩
theorem Kt.trans {S b8 n0 : Nat} {a b c : AHeap} (x : Kt S b8 n0 a b) (y : Kt S b8 n0 b c) : Kt S b8 n0 a c := ⟨Nat.le_trans x.1 y.1, fun j o e h1 h2 h3 h4 h5 => y.2 j o (x.2 j o e h1 h2 h3 h4 h5) h1 h2 h3 h4 h5⟩
theorem Kf.kt {S : Nat} {a b : AHeap} (b8 n0 : Nat) (x : Kf S a b) : Kt S b8 n0 a b := ⟨x.1, fun j o e h1 h2 _ h4 _ => x.2 j o e h1 h2 h4⟩
section
variable {S B V Zs : Nat} {b w : Int} {fl : Bool} {sh : List Sh} {rt r : Nat → Nat} {vis : Nat → Bool} {P : SMap} {nb : Bool} {N : List (List UInt8)} {T : Nat → Tm}
def ToOk (S B V Zs : Nat) (b w : Int) (fl : Bool) (sh : List Sh) (rt r : Nat → Nat) (vis : Nat → Bool) (P : SMap) (nb : Bool) (N : List (List UInt8)) (T : Nat → Tm) (i : Nat) : Prop := ∀ (h : AHeap) (ns : List Nd), B ≤ h.length → SP h S ns b fl w → NR h S B sh rt r vis w ns → MS h V P → SO h Zs S V (.slc nb (N.map sV)) →
  ∃ H ns', doCall md (aval Tryd.prog md fg) 50 [.ptr S 0, .int (i : Nat), .clo 56 [.ptr Zs 0] []] h = some (tmV (T i), H) ∧ SP H S ns' b fl w ∧ NR H S B sh rt r vis w ns' ∧ Kf S h H
theorem KB.kt {h H : AHeap} {S B b8 n0 : Nat} (hB : B ≤ n0) (h8 : n0 ≤ b8) (k : Kt S b8 n0 h H) {v : AV} {kl : List Int} (x : KB h S B v kl) : KB H S B v kl := by
  rcases x with x | ⟨K, g, e1, e2, e3, e4⟩
  · exact .inl x
  · exact .inr ⟨K, g, e1, k.2 K _ e2 (by simp) e3 (by omega) (by simp) (by simp), e3, e4⟩
theorem NR.kt {h H : AHeap} {S B b8 n0 : Nat} (hB : B ≤ n0) (h8 : n0 ≤ b8) (k : Kt S b8 n0 h H) {sh : List Sh} {rt r : Nat → Nat} {vis : Nat → Bool} {w : Int} {ns : List Nd} (x : NR h S B sh rt r vis w ns) : NR H S B sh rt r vis w ns :=
  ⟨x.1, fun i n s h1 h2 => by
    have y := x.2 i n s h1 h2
    exact ⟨y.kind, y.pkg, y.name, y.kids.kt hB h8 k, y.to, y.mark, y.le⟩⟩
theorem sp_keep {h H : AHeap} {S : Nat} {ns : List Nd} {b : Int} {f : Bool} {w : Int} (hs : SP h S ns b f w) (h1 : hget H S = hget h S) (h2 : ∀ A es g, hget h A = .arr 7 es g → hget H A = .arr 7 es g) : SP H S ns b f w := by
  obtain ⟨nv, z1, z2⟩ := hs
  refine ⟨nv, by rw [h1]; exact z1, ?_⟩
  rcases z2 with z2 | ⟨A', g', z2, z3⟩
  · exact .inl z2
  · exact .inr ⟨A', g', z2, h2 _ _ _ z3⟩
set_option maxHeartbeats 8000000 in
theorem told_loop (hVS : V ≠ S) (hZS : Zs ≠ S) {n0 b6 b8 : Nat} (hSn : S < n0) (hVn : V < n0) (hZn : Zs < n0) (hB : B ≤ n0) (h68 : n0 ≤ b8) {kv : AV} {kl : List Nat} (hkl : kl.length ≤ 90000) (c0 c1 c2 c3 : AV) : ∀ (rem done : List Nat), (∀ k ∈ rem, ToOk S B V Zs b w fl sh rt r vis P nb N T k) → kl = done ++ rem → ∀ (h : AHeap) (ns : List Nd) (kt : AV), SP h S ns b fl w → NR h S B sh rt r vis w ns → MS h V P → SO h Zs S V (.slc nb (N.map sV)) → KB h S B kv (ints kl) → n0 ≤ h.length → hget h b8 = .vars [c0, c1, c2, c3, kt] → KT h n0 kt (done.map T) →
    ∃ H ns' kt', lrun Tryd.prog md fg (fg 50) (loopOf Tryd.f50 1) (fg 50 2) (((.ptr S 0) :: .unk :: (.clo 56 [.ptr Zs 0] []) :: U::U::U::(.ptr b6 0) :: .unk :: (.ptr b8 0) :: U::U::U::U::U::U::U::U::U::U::U::U::U::U::U::U::U::U::U::U::U::U::U::U::U::U::U::U::U::U::U::U::U::U::(kv) :: (.int kl.length) :: (.int done.length) :: U::U::U::U::U::U::U::U::U::U::U::U::U::U::[] : List AV)) h = some (.exit 1, ((.ptr S 0) :: .unk :: (.clo 56 [.ptr Zs 0] []) :: U::U::U::(.ptr b6 0) :: .unk :: (.ptr b8 0) :: U::U::U::U::U::U::U::U::U::U::U::U::U::U::U::U::U::U::U::U::U::U::U::U::U::U::U::U::U::U::U::U::U::U::(kv) :: (.int kl.length) :: (.int kl.length) :: U::U::U::U::U::U::U::U::U::U::U::U::U::U::[] : List AV), H) ∧ SP H S ns' b fl w ∧ NR H S B sh rt r vis w ns' ∧ Kt S b8 n0 h H ∧ hget H b8 = .vars [c0, c1, c2, c3, kt'] ∧ KT H n0 kt' (kl.map T)
  | [], done, hih, he, h, ns, kt, hs, hn, hm, hz, hkb, hl, h8, hkt => by
    rw [List.append_nil] at he
    subst he
    refine ⟨h, ns, kt, ?_, hs, hn, Kt.refl _ _ _ _, h8, hkt⟩
    rw [lrun_atC loop50_1]
    simp (implicitDefEqProofs := false) (disch := omega) only [go_sem, seval, rgn Tryd.f50 10 rfl]
  | k :: rem, done, hih, he, h, ns, kt, hs, hn, hm, hz, hkb, hl, h8, hkt => by
    obtain ⟨H1, ns1, d1, d2, d3, d4⟩ := hih k (List.mem_cons_self ..) h ns (by omega) hs hn hm hz
    have h8' : hget H1 b8 = .vars [c0, c1, c2, c3, kt] := d4.2 _ _ h8 (by simp) (by omega) (by simp)
    have hkt1 : KT H1 n0 kt (done.map T) := by
      rcases hkt with hkt | ⟨K, g, e1, e2, e3⟩
      · exact .inl hkt
      · exact .inr ⟨K, g, e1, d4.2 K _ e2 (by simp) (by omega) (by simp), e3⟩
    have hll : kl.length = done.length + (rem.length + 1) := by rw [he]; simp
    have hl1 := d4.1
    obtain ⟨v, H2, x1, x2, x3, x4, x5⟩ := kt_add hkt1 (by rw [List.length_map]; omega) (by omega) (T k)
    have h8l := hlt_of h8' (by simp)
    have h82 : hget H2 b8 = .vars [c0, c1, c2, c3, kt] := x3.2 _ _ h8' (by simp) (by simp)
    have kt2 : Kt S b8 n0 h (H2.set b8 (.vars [c0, c1, c2, c3, v])) := ⟨by rw [List.length_set]; have := x3.1; omega, fun j o e z1 z2 z3 z4 z5 => by
      rw [hget_set_ne (fun q => z3 q.symm)]
      exact x3.2 j o (d4.2 j o e z1 z2 z4) z1 z5⟩
    have s2 : SP (H2.set b8 (.vars [c0, c1, c2, c3, v])) S ns1 b fl w := sp_keep d2 (by
        rw [hget_set_ne (by omega)]
        obtain ⟨nv, q1, _⟩ := d2
        rw [q1]; exact x3.2 S _ q1 (by simp) (by simp)) (fun A es g q => by
        rw [hget_set_ne (by rintro rfl; rw [h8'] at q; cases q)]
        exact x3.2 A _ q (by simp) (by simp))
    have kt12 : Kt S b8 n0 H1 (H2.set b8 (.vars [c0, c1, c2, c3, v])) := ⟨by rw [List.length_set]; exact x3.1, fun j o e z1 z2 z3 z4 z5 => by
      rw [hget_set_ne (fun q => z3 q.symm)]; exact x3.2 j o e z1 z5⟩
    have hx2 : KT (H2.set b8 (.vars [c0, c1, c2, c3, v])) n0 v ((done ++ [k]).map T) := by
      rw [List.map_append, List.map_cons, List.map_nil]
      rcases x2 with ⟨q, _⟩ | ⟨K, g, e1, e2, e3⟩
      · simp at q
      · exact .inr ⟨K, g, e1, by rw [hget_set_ne (by rintro rfl; rw [h82] at e2; cases e2)]; exact e2, e3⟩
    have hm2 : MS (H2.set b8 (.vars [c0, c1, c2, c3, v])) V P := kt2.2 V _ hm (by simp) hVS (by omega) (by simp) (by simp)
    have hz2 : SO (H2.set b8 (.vars [c0, c1, c2, c3, v])) Zs S V (.slc nb (N.map sV)) := kt2.2 Zs _ hz (by simp) hZS (by omega) (by simp) (by simp)
    obtain ⟨H, ns', kt', e1, e2, e3, e4, e5, e6⟩ := told_loop hVS hZS hSn hVn hZn hB h68 hkl c0 c1 c2 c3 rem (done ++ [k]) (fun x hx => hih x (List.mem_cons_of_mem _ hx)) (by rw [he]; simp) _ ns1 v s2 (d3.kt hB h68 kt12) hm2 hz2 (hkb.kt hB h68 kt2) (by have := kt2.1; omega) (hget_set_eq (by have := x3.1; omega)) hx2
    refine ⟨H, ns', kt', ?_, e2, e3, kt2.trans e4, e5, e6⟩
    have hlen : (done ++ [k]).length = done.length + 1 := by simp
    rw [hlen] at e1
    rw [← e1]
    rcases hkb with ⟨_, hkb2⟩ | ⟨K, g, rfl, hK, hKS, hKB⟩
    · have := congrArg List.length hkb2; rw [he] at this; simp [ints] at this
    have hlt : (done.length : Int) < (kl.length : Int) := by omega
    have htn : ((done.length : Int)).toNat = done.length := by omega
    have hat : ((ints kl).map AV.int)[done.length]? = some (.int (k : Int)) := by rw [he]; simp [ints]
    generalize hTk : T k = tk at *
    obtain ⟨q1, q2, q3, q4, q5⟩ := tk
    rw [tmV_mk] at d1 x1
    rw [lrun_atC loop50_1]
    simp (implicitDefEqProofs := false) (disch := omega) only [go_sem, seval, rgn Tryd.f50 10 rfl, rgn Tryd.f50 11 rfl, rgn Tryd.f50 12 rfl, rgn Tryd.f50 13 rfl, hlt, htn, hK, hat, ints_len, h8, h8', h82, d1, x1, x4, x5, thenDraw_append, thenDraw_store, md50, b31, Bool.false_or, beq_self_eq_true, Bool.true_or]
    all_goals (congr 1 <;> simp only [List.cons.injEq, AV.val.injEq, Value.int.injEq, Value.bool.injEq, true_and, and_true] <;> omega)
set_option maxHeartbeats 8000000 in
theorem told_step (ok : Ok sh rt r) (hT : Mod sh rt T) (hTv : ∀ (v : Nat) (s : Sh), sh[v]? = some s → s.kind = 1 → rt v = v → T v = ⟨1, [], fstN P rt v N, 0, []⟩) (hkc : kc sh ≤ 90000) (hVS : V ≠ S) (hZS : Zs ≠ S) (hN : N.length ≤ 90000) (hNv : ∀ n ∈ N, vmap P n < sh.length) {i : Nat} (hi : i < sh.length) (hih : ∀ (s : Sh), sh[rt i]? = some s → ∀ k ∈ s.kids, ToOk S B V Zs b w fl sh rt r vis P nb N T k) : ToOk S B V Zs b w fl sh rt r vis P nb N T i := by
  intro h ns hB hs hn hm hz
  have hS : S < h.length := by obtain ⟨_, q, _⟩ := hs; exact hlt_of q (by simp)
  have hVl := hlt_of hm (by simp)
  have hZl := hlt_of hz (by simp)
  have k0 := kf_app S h [AObj.vars [.val (.int .i64 0), .val (.string ⟨#[]⟩), .val (.string ⟨#[]⟩), .val (.int .i64 0), .slc true []]]
  obtain ⟨H1, ns1, c1, c2, c3, c4, c5⟩ := find_c hi (sp_app hs [AObj.vars [.val (.int .i64 0), .val (.string ⟨#[]⟩), .val (.string ⟨#[]⟩), .val (.int .i64 0), .slc true []]]) (hn.kf k0)
  simp only [List.length_append, List.length_cons, List.length_nil] at c5
  have hTi := hT.1 i hi
  obtain ⟨n, s, hx, hsx, q⟩ := c3.at (ok.lt i hi)
  obtain ⟨A, g, h1, h2⟩ := sp_arr c2 (ne_of_at hx)
  have hlt := lt_of_at hx
  have ht : (((rt i : Nat) : Int)).toNat = rt i := by omega
  have hk5 : n.kind ≠ 5 := by rw [q.kind]; exact ok.rig _ s hsx
  have k01 := k0.trans c4
  have hb6 : hget H1 h.length = .vars [.val (.int .i64 0), .val (.string ⟨#[]⟩), .val (.string ⟨#[]⟩), .val (.int .i64 0), .slc true []] := c4.2 _ _ hget_last (by simp) (by omega) (by simp)
  by_cases hk : s.kind = 1
  · have hk1 : n.kind = 1 := by rw [q.kind]; exact hk
    obtain ⟨k, p, m, ks, l, t, mk⟩ := n
    dsimp only at hk1 hk5
    subst hk1
    have k1 := kf_app S H1 [AObj.vars [.int 1, .str (txt p), .str (txt m), ks, .int l, .int t, .int mk]]
    have kk := k01.trans k1
    obtain ⟨H2, ns2, d1, d2, d3, d4, d5⟩ := first_c (N := N) (nb := nb) (id := rt i) hVS hZS (by omega) hNv (sp_app c2 [AObj.vars [.int 1, .str (txt p), .str (txt m), ks, .int l, .int t, .int mk]]) (c3.kf k1) (kk.2 V _ hm (by simp) hVS (by simp)) (kk.2 Zs _ hz (by simp) hZS (by simp))
    have hb62 : hget H2 h.length = .vars [.val (.int .i64 0), .val (.string ⟨#[]⟩), .val (.string ⟨#[]⟩), .val (.int .i64 0), .slc true []] := (k1.trans d4).2 _ _ hb6 (by simp) (by omega) (by simp)
    have hb6l := hlt_of hb62 (by simp)
    have hall := k01.trans (k1.trans d4)
    have hTv' := hTv _ s hsx hk (ok.idem i hi)
    have e : aval Tryd.prog md fg 50 [.ptr S 0, .int (i : Nat), .clo 56 [.ptr Zs 0] []] h = some (.agg [.int 1, .val (.string ⟨#[]⟩), .str (txt (fstN P rt (rt i) N)), .val (.int .i64 0), .slc true []], H2.set h.length (.vars [.int 1, .val (.string ⟨#[]⟩), .str (txt (fstN P rt (rt i) N)), .val (.int .i64 0), .slc true []])) := by
      rw [aval_of Tryd.func50 body50 Tryd.results50 Tryd.ntmps50 ok50]
      simp (implicitDefEqProofs := false) (disch := first | omega | exact List.length_set) only [go_sem, seval, rgn Tryd.f50 0 rfl, rgn Tryd.f50 1 rfl, rgn Tryd.f50 2 rfl, rgn Tryd.f50 3 rfl, rgn Tryd.f50 4 rfl, rgn Tryd.f50 5 rfl, c1, h1, h2, List.getElem?_map, ht, hx, Option.map_some, ndV_mk, hget_last, set_last, hget_app, d1, hb62, hb6, hget_set_eq, call56, if_true, aresults, tupOf, List.nil_append, List.cons_append, List.append_nil]
    have s2 : SP (H2.set h.length (.vars [.int 1, .val (.string ⟨#[]⟩), .str (txt (fstN P rt (rt i) N)), .val (.int .i64 0), .slc true []])) S ns2 b fl w := sp_keep d2 (hget_set_ne (by omega)) (fun A es g q => by rw [hget_set_ne (by rintro rfl; rw [hb62] at q; cases q)]; exact q)
    obtain ⟨H, f1, f2, f3, f4⟩ := doCall_rate5 md50 e hs s2 (by rw [List.length_set]; exact hall.1) (exp_agg5 (us := []) _ _ _ _ rfl rfl) (.inl rfl)
    refine ⟨H, ns2, ?_, f2, d3.agree hB (fun j hj => by rw [f4 j hj, hget_set_ne (by omega)]), ⟨f3, fun j o e z1 z2 z3 => by
      have := hlt_of e z1
      rw [f4 j this, hget_set_ne (by omega)]
      exact hall.2 j o e z1 z2 z3⟩⟩
    rw [f1, hTi, hTv', tmV_mk]; rfl
  · have hk1 : ¬ n.kind = 1 := by rw [q.kind]; exact hk
    have hkk := q.kind
    have hpp := q.pkg
    have hmm := q.name
    have hkb := q.kids
    have hlen := kb_len q.kids
    rw [ints_len] at hlen
    obtain ⟨k, p, m, ks, l, t, mk⟩ := n
    dsimp only at hk1 hk5 hkk hpp hmm hkb hlen
    have hkl : s.kids.length ≤ 90000 := by
      have : ∀ (l : List Sh) (j : Nat) (s : Sh), l[j]? = some s → s.kids.length ≤ kc l := fun l => by
        induction l with
        | nil => intro j s h; simp at h
        | cons a r ih =>
          intro j s h
          have e : kc (a :: r) = a.kids.length + kc r := by simp [kc]
          rw [e]
          cases j with
          | zero => simp at h; subst h; omega
          | succ j => have := ih j s (by simpa using h); omega
      have := this sh _ s hsx
      omega
    have k1 := kf_app S H1 [AObj.vars [.int k, .str (txt p), .str (txt m), ks, .int l, .int t, .int mk], AObj.vars [.int k, .str (txt p), .str (txt m), .val (.int .i64 0), .slc true []]]
    have kk := k01.trans k1
    have hb61 : hget (H1 ++ [AObj.vars [.int k, .str (txt p), .str (txt m), ks, .int l, .int t, .int mk], AObj.vars [.int k, .str (txt p), .str (txt m), .val (.int .i64 0), .slc true []]]) h.length = _ := (hget_app _ (by omega)).trans hb6
    obtain ⟨H2, ns2, kt', d1, d2, d3, d4, d5, d6⟩ := told_loop (n0 := h.length) (b6 := h.length) (b8 := h.length + 2) (b := b) (w := w) (fl := fl) (sh := sh) (rt := rt) (r := r) (vis := vis) (P := P) (nb := nb) (N := N) (T := T) hVS hZS hS hVl hZl hB (by omega) hkl (.int k) (.str (txt p)) (.str (txt m)) (.val (.int .i64 0)) s.kids [] (hih s hsx) rfl (H1 ++ [AObj.vars [.int k, .str (txt p), .str (txt m), ks, .int l, .int t, .int mk], AObj.vars [.int k, .str (txt p), .str (txt m), .val (.int .i64 0), .slc true []]]) ns1 (.slc true []) (sp_app c2 _) (c3.kf k1) (kk.2 V _ hm (by simp) hVS (by simp)) (kk.2 Zs _ hz (by simp) hZS (by simp)) (hkb.kf k1) (by simp; omega) (by
      have : h.length + 2 = H1.length + 1 := by omega
      rw [this]; exact sb_get1 _ _ _ rfl) (.inl ⟨rfl, rfl⟩)
    have hb62 : hget H2 h.length = .vars [.val (.int .i64 0), .val (.string ⟨#[]⟩), .val (.string ⟨#[]⟩), .val (.int .i64 0), .slc true []] := d4.2 _ _ hb61 (by simp) (by omega) (by omega) (by simp) (by simp)
    have hb6l := hlt_of hb62 (by simp)
    have e : aval Tryd.prog md fg 50 [.ptr S 0, .int (i : Nat), .clo 56 [.ptr Zs 0] []] h = some (.agg [.int k, .str (txt p), .str (txt m), .val (.int .i64 0), kt'], H2.set h.length (.vars [.int k, .str (txt p), .str (txt m), .val (.int .i64 0), kt'])) := by
      simp only [List.length_nil, Int.natCast_zero] at d1
      have e2 : h.length + 2 = H1.length + 1 := by omega
      rw [e2] at d1 d5
      have a1 : ∀ a b : AObj, H1 ++ [a] ++ [b] = H1 ++ [a, b] := fun a b => by simp
      have a2 : ∀ a : AObj, (H1 ++ [a]).length = H1.length + 1 := fun a => by simp
      rw [aval_of Tryd.func50 body50 Tryd.results50 Tryd.ntmps50 ok50]
      simp (implicitDefEqProofs := false) (disch := first | omega | exact List.length_set) only [go_sem, seval, rgn Tryd.f50 0 rfl, rgn Tryd.f50 1 rfl, rgn Tryd.f50 2 rfl, rgn Tryd.f50 3 rfl, rgn Tryd.f50 4 rfl, rgn Tryd.f50 6 rfl, rgn Tryd.f50 8 rfl, rgn Tryd.f50 9 rfl, rgn Tryd.f50 14 rfl, c1, h1, h2, List.getElem?_map, ht, hx, Option.map_some, ndV_mk, hget_last, set_last, hget_app, sb_get0, sb_get1, hb62, hb6, hget_set_eq, aresults, tupOf, List.append_assoc, List.nil_append, List.cons_append, List.append_nil, hk1, hk5, hlen, d1, d5, List.length_append, List.length_cons, List.length_nil, sb_set1]
    have kf : h.length ≤ H2.length := by have := d4.1; simp at this; omega
    have s2 : SP (H2.set h.length (.vars [.int k, .str (txt p), .str (txt m), .val (.int .i64 0), kt'])) S ns2 b fl w := sp_keep d2 (hget_set_ne (by omega)) (fun A es g q => by rw [hget_set_ne (by rintro rfl; rw [hb62] at q; cases q)]; exact q)
    have hx : solid kt' = false ∧ ∃ ids, exp1 (H2.set h.length (.vars [.int k, .str (txt p), .str (txt m), .val (.int .i64 0), kt'])) 59 kt' = some (.slc false ((s.kids.map T).map tmV), ids) ∧ (ids = [] ∨ ∃ K es g, ids = [K] ∧ h.length ≤ K ∧ hget (H2.set h.length (.vars [.int k, .str (txt p), .str (txt m), .val (.int .i64 0), kt'])) K = .arr 5 es g) := by
      rcases d6 with ⟨e1, e2⟩ | ⟨K, g, e1, e2, e3⟩
      · rw [e1, e2]; exact ⟨rfl, [], rfl, .inl rfl⟩
      · have hg : hget (H2.set h.length (.vars [.int k, .str (txt p), .str (txt m), .val (.int .i64 0), kt'])) K = .arr 5 ((s.kids.map T).map tmV) g := by rw [hget_set_ne (by rintro rfl; rw [hb62] at e2; cases e2)]; exact e2
        have := arr_exp hg (solid_tmL _) 58
        rw [e1] at hg ⊢
        refine ⟨rfl, [K], ?_, .inr ⟨K, _, g, rfl, e3, hg⟩⟩
        rw [List.length_map (f := tmV), e1] at this
        exact this
    obtain ⟨x1, ids, x2, x3⟩ := hx
    obtain ⟨H, f1, f2, f3, f4⟩ := doCall_rate5 md50 e hs s2 (by rw [List.length_set]; exact kf) (exp_agg5 _ _ _ _ x1 x2) x3
    have kall : ∀ j o, hget h j = o → o ≠ .dead → j ≠ S → (∀ b c, o ≠ .arr 7 b c) → hget H2 j = o := fun j o e z1 z2 z3 => by
      have := hlt_of e z1
      exact d4.2 j o (kk.2 j o e z1 z2 z3) z1 z2 (by omega) z3 (by omega)
    refine ⟨H, ns2, ?_, f2, d3.agree hB (fun j hj => by rw [f4 j hj, hget_set_ne (by omega)]), ⟨f3, fun j o e z1 z2 z3 => by
      have := hlt_of e z1
      rw [f4 j this, hget_set_ne (by omega)]
      exact kall j o e z1 z2 z3⟩⟩
    rw [f1, hTi, hT.2 _ s hsx hk, tmV_mk, hkk, hpp, hmm]
theorem told_all (ok : Ok sh rt r) (hT : Mod sh rt T) (hTv : ∀ (v : Nat) (s : Sh), sh[v]? = some s → s.kind = 1 → rt v = v → T v = ⟨1, [], fstN P rt v N, 0, []⟩) (hkc : kc sh ≤ 90000) (hVS : V ≠ S) (hZS : Zs ≠ S) (hN : N.length ≤ 90000) (hNv : ∀ n ∈ N, vmap P n < sh.length) : ∀ (M i : Nat), r i < M → i < sh.length → ToOk S B V Zs b w fl sh rt r vis P nb N T i
  | 0, i, h, _ => by omega
  | M + 1, i, h, hi => told_step ok hT hTv hkc hVS hZS hN hNv hi fun s hs k hk => by
    obtain ⟨a, b⟩ := ok.kid _ s k hs hk
    have := ok.le i hi
    exact told_all ok hT hTv hkc hVS hZS hN hNv M k (by omega) a
end
theorem fits_clo (f : FuncId) (a b : List AV) : fits 1 (.clo f a b) = true := rfl
theorem cells_clo (f : FuncId) (a b : List AV) : (AV.clo f a b).cells = [.clo f a b] := rfl
theorem vs_loop (ks : List Tm) (hl : ks.length ≤ 9223372036854775807) (hV : ∀ t ∈ ks, VT t) : ∀ (r : List Tm) (i : Nat) (h : AHeap) (out : List (List UInt8)), ks.drop i = r → i ≤ ks.length → WN h 0 out → hget h 1 = walkV → out.length + tszs r ≤ 100000 → ∃ h',
    lrun Tryd.prog md fg (fg 53) (loopOf Tryd.f53 0) (fg 53 1) ([.unk, .unk, .unk, .ptr 0 0, .ptr 1 0, .unk, .unk, .unk, .slc false (ks.map tmV), .int ks.length, .int i, .unk, .unk, .unk, .unk, .unk, .unk, .unk, .unk]) h = some (.exit 0, [.unk, .unk, .unk, .ptr 0 0, .ptr 1 0, .unk, .unk, .unk, .slc false (ks.map tmV), .int ks.length, .int ks.length, .unk, .unk, .unk, .unk, .unk, .unk, .unk, .unk], h') ∧ WN h' 0 (vsL out r) ∧ FrN 0 h h'
  | [], i, h, out, hdr, hi, hw, h1, hn => by
    have : i = ks.length := by have := congrArg List.length hdr; simp at this; omega
    subst this
    refine ⟨h, ?_, by rw [vsL]; exact hw, FrN.refl _ _⟩
    rw [lrun_atC loop53_0]
    simp (implicitDefEqProofs := false) (disch := omega) only [go_sem, seval, rgn Tryd.f53 5 rfl]
  | ⟨k2, p2, m2, n2, l2⟩ :: r, i, h, out, hdr, hi, hw, h1, hn => by
    have hx : ks[i]? = some ⟨k2, p2, m2, n2, l2⟩ := by have := congrArg (·[0]?) hdr; simpa using this
    have hlt : i < ks.length := (List.getElem?_eq_some_iff.1 hx).1
    have hd' : ks.drop (i + 1) = r := by rw [← List.tail_drop, hdr]; rfl
    have ht : ((i : Int)).toNat = i := by omega
    simp only [tszs] at hn
    have hvl := vsT_len ⟨k2, p2, m2, n2, l2⟩ out
    have g1 : ∀ l, hget (h ++ l) 1 = walkV := fun l => by rw [hget_app l (hlt_of h1 (by simp))]; exact h1
    obtain ⟨h2, e2, w2, f2⟩ := hV _ (List.mem_of_getElem? hx) (h ++ [.vars [.int k2, .str (txt p2), .str (txt m2), .int n2, .slc false (l2.map tmV)]]) out (wn_app h _ hw) (g1 _) (by omega)
    rw [tmV_mk] at e2
    obtain ⟨h3, e3, w3, f3⟩ := vs_loop ks hl hV r (i + 1) h2 (vsT out ⟨k2, p2, m2, n2, l2⟩) hd' (by omega) w2 (f2.2 1 _ (by decide) (g1 _)) (by omega)
    refine ⟨h3, ?_, by rw [vsL]; exact w3, (frN_app 0 h _).trans (f2.trans f3)⟩
    rw [← e3]
    rw [lrun_atC loop53_0]
    simp (implicitDefEqProofs := false) (disch := first | omega | exact List.length_set) only [go_sem, seval, rgn Tryd.f53 5 rfl, rgn Tryd.f53 6 rfl, rgn Tryd.f53 7 rfl, rgn Tryd.f53 8 rfl, List.getElem?_map, ht, hx, Option.map_some, tmV_mk, hget_last, set_last, g1, e2, List.nil_append, List.cons_append, callable_69]
    all_goals (congr 1 <;> simp only [List.cons.injEq, AV.val.injEq, Value.int.injEq, Value.bool.injEq, true_and, and_true] <;> omega)
set_option maxHeartbeats 4000000 in
theorem varsL_p (ts : List Tm) (ht : Tm.fits ts) (hl : ts.length ≤ 9223372036854775807) (hz : tszs ts ≤ 100000) : pcall Tryd.prog md fg 53 [.slc false (ts.map tmV)] = some (.slc false ((vsL [] ts).map sV)) := by
  have e : ∃ bv h, aval Tryd.prog md fg 53 [.slc false (ts.map tmV)] [] = some (bv, h) ∧ WN h 0 (vsL [] ts) ∧ hget h 0 = .vars [bv] := by
    obtain ⟨h2, e2, w2, f2⟩ := vs_loop ts hl (VT_alls ts ht) ts 0 [.vars [.slc true []], walkV] [] (by simp) (by omega) ⟨by simp, .inl ⟨rfl, rfl⟩⟩ rfl (by simpa using hz)
    have hb : ∃ bv, hget h2 0 = .vars [bv] := by
      obtain ⟨_, ⟨hb, _⟩ | ⟨k, g, _, _, hb, _⟩⟩ := w2
      · exact ⟨_, hb⟩
      · exact ⟨_, hb⟩
    obtain ⟨bv, hb⟩ := hb
    refine ⟨bv, h2, ?_, w2, hb⟩
    clear w2 f2
    simp only [Int.natCast_zero] at e2
    rw [aval_of Tryd.func53 body53 Tryd.results53 Tryd.ntmps53 ok53]
    simp (implicitDefEqProofs := false) (disch := omega) only [go_sem, seval, rgn Tryd.f53 0 rfl, rgn Tryd.f53 1 rfl, rgn Tryd.f53 2 rfl, rgn Tryd.f53 3 rfl, rgn Tryd.f53 4 rfl, List.length_map, fits_clo, cells_clo]
    simp (implicitDefEqProofs := false) (disch := omega) only [go_sem, seval, rgn Tryd.f53 9 rfl, e2, hb]
  obtain ⟨bv, h, e, w, hb⟩ := e
  obtain ⟨bv', ids, x1, x2, x3⟩ := names_exp w
  rw [hb] at x1
  cases x1
  rw [pcall_eq, e]
  unfold pureRes
  dsimp only
  rw [x2]
  dsimp only
  rw [if_pos x3]
def KV (h : AHeap) (n0 : Nat) (kt : AV) (l : List AV) : Prop := (l = [] ∧ kt = .slc true []) ∨ ∃ K g, kt = .arr K 0 l.length g 5 ∧ hget h K = .arr 5 l g ∧ n0 ≤ K
def Kb (n0 : Nat) (h H : AHeap) : Prop := h.length ≤ H.length ∧ ∀ j, j < n0 → hget H j = hget h j
theorem Kb.refl (n0 : Nat) (h : AHeap) : Kb n0 h h := ⟨Nat.le_refl _, fun _ _ => rfl⟩
theorem Kb.trans {n0 : Nat} {a b c : AHeap} (x : Kb n0 a b) (y : Kb n0 b c) : Kb n0 a c := ⟨Nat.le_trans x.1 y.1, fun j h => (y.2 j h).trans (x.2 j h)⟩
theorem kv_add {h : AHeap} {n0 : Nat} {kt : AV} {l : List AV} (hk : KV h n0 kt l) (hl : l.length ≤ 100000) (h0 : n0 ≤ h.length) (es : List AV) (hes : headOk 5 es = true) (hne : es ≠ []) (hel : es.length ≤ 10) : ∃ v H, (∀ z, appT (some (5, 72, z)) h kt (some es) = some (v, H)) ∧ KV H n0 v (l ++ es) ∧ Kb n0 h H ∧ fits 1 v = true ∧ v.cells = [v] := by
  rcases hk with ⟨rfl, rfl⟩ | ⟨K, g, rfl, h2, h3⟩
  · refine ⟨_, _, fun z => appT_slc _ _ _ _ _ hes rfl hne (by simp; omega), .inr ⟨h.length, 0, by simp, by rw [hget_last], h0⟩, ⟨by simp, fun j hj => hget_app _ (by omega)⟩, rfl, rfl⟩
  · refine ⟨_, _, fun z => appT_arr _ _ _ _ _ _ _ _ h2 rfl hes (by omega), .inr ⟨K, g + 1, by simp, by rw [hget_set_eq (hlt_of h2 (by simp))], h3⟩, ⟨by simp, fun j hj => hget_set_ne (by omega)⟩, rfl, rfl⟩
def vtV (n : List UInt8) : AV := .agg [.int 1, .val (.string ⟨#[]⟩), .val (.string (txt n)), .val (.int .i64 0), .slc true []]
set_option maxHeartbeats 4000000 in
theorem vt_loop (nb : Bool) (N : List (List UInt8)) (hN : N.length ≤ 90000) (n0 : Nat) : ∀ (rem done : List (List UInt8)), N = done ++ rem → ∀ (h : AHeap) (kt : AV), n0 ≤ h.length → KV h n0 kt (done.map vtV) →
    ∃ H kt', lrun Tryd.prog md fg (fg 54) (loopOf Tryd.f54 0) (fg 54 1) ([.unk, .unk, .unk, kt, .unk, .unk, .slc nb (N.map sV), .int N.length, .int done.length, .unk, .unk, .unk, .unk, .unk, .unk, .unk, .unk, .unk, .unk]) h = some (.exit 0, [.unk, .unk, .unk, kt', .unk, .unk, .slc nb (N.map sV), .int N.length, .int N.length, .unk, .unk, .unk, .unk, .unk, .unk, .unk, .unk, .unk, .unk], H) ∧ KV H n0 kt' (N.map vtV) ∧ Kb n0 h H
  | [], done, he, h, kt, h0, hk => by
    rw [List.append_nil] at he
    subst he
    refine ⟨h, kt, ?_, hk, Kb.refl _ _⟩
    rw [lrun_atC loop54_0]
    simp (implicitDefEqProofs := false) (disch := omega) only [go_sem, seval, rgn Tryd.f54 3 rfl]
  | n :: rem, done, he, h, kt, h0, hk => by
    have hll : N.length = done.length + (rem.length + 1) := by rw [he]; simp
    obtain ⟨v, H1, x1, x2, x3, x4, x5⟩ := kv_add hk (by rw [List.length_map]; omega) h0 [vtV n] rfl (by simp) (by simp)
    obtain ⟨H, kt', e1, e2, e3⟩ := vt_loop nb N hN n0 rem (done ++ [n]) (by rw [he]; simp) H1 v (by have := x3.1; omega) (by rw [List.map_append]; exact x2)
    refine ⟨H, kt', ?_, e2, x3.trans e3⟩
    have hlen : (done ++ [n]).length = done.length + 1 := by simp
    rw [hlen] at e1
    rw [← e1]
    have hlt : (done.length : Int) < (N.length : Int) := by omega
    have htn : ((done.length : Int)).toNat = done.length := by omega
    have hat : (N.map sV)[done.length]? = some (.val (.string (txt n))) := by rw [he]; simp [sV]
    unfold vtV at x1
    rw [lrun_atC loop54_0]
    simp (implicitDefEqProofs := false) (disch := omega) only [go_sem, seval, rgn Tryd.f54 3 rfl, rgn Tryd.f54 4 rfl, rgn Tryd.f54 5 rfl, rgn Tryd.f54 6 rfl, hlt, htn, hat, x1, x4, x5]
    all_goals (congr 1 <;> simp only [List.cons.injEq, AV.val.injEq, Value.int.injEq, Value.bool.injEq, true_and, and_true] <;> omega)
theorem varTerms_c (nb : Bool) (N : List (List UInt8)) (hN : N.length ≤ 90000) (h : AHeap) : ∃ H v, doCall md (aval Tryd.prog md fg) 54 [.slc nb (N.map sV)] h = some (v, H) ∧ KV H h.length v (N.map vtV) ∧ Kb h.length h H := by
  obtain ⟨H, kt', e1, e2, e3⟩ := vt_loop nb N hN h.length N [] rfl h (.slc true []) (Nat.le_refl _) (.inl ⟨rfl, rfl⟩)
  simp only [List.length_nil, Int.natCast_zero] at e1
  have e : aval Tryd.prog md fg 54 [.slc nb (N.map sV)] h = some (kt', H) := by
    rw [aval_of Tryd.func54 body54 Tryd.results54 Tryd.ntmps54 ok54]
    simp (implicitDefEqProofs := false) (disch := omega) only [go_sem, seval, rgn Tryd.f54 0 rfl, rgn Tryd.f54 1 rfl, rgn Tryd.f54 2 rfl, rgn Tryd.f54 7 rfl, List.length_map, e1]
  by_cases hne : N = []
  · subst hne
    rcases e2 with ⟨_, rfl⟩ | ⟨K, g, rfl, q1, q2⟩
    · rw [doCall_0 (by decide)]
      unfold doCall0
      rw [if_neg (by decide), rated_id (by decide), e]
      dsimp only
      split
      · exact ⟨_, _, rfl, .inl ⟨rfl, rfl⟩, by rw [List.length_take]; have := e3.1; omega, fun j hj => by rw [hget_take hj]; exact e3.2 j hj⟩
      · exact ⟨_, _, rfl, .inl ⟨rfl, rfl⟩, e3⟩
    · rw [doCall_0 (by decide)]
      unfold doCall0
      rw [if_neg (by decide), rated_id (by decide), e]
      dsimp only
      rw [if_neg (fun q => by have := q.1; simp [below] at this; omega)]
      exact ⟨_, _, rfl, .inr ⟨K, g, rfl, q1, q2⟩, e3⟩
  · rcases e2 with ⟨q, _⟩ | ⟨K, g, rfl, q1, q2⟩
    · simp at q; exact absurd q hne
    · rw [doCall_0 (by decide)]
      unfold doCall0
      rw [if_neg (by decide), rated_id (by decide), e]
      dsimp only
      rw [if_neg (fun q => by have := q.1; simp [below] at this; omega)]
      exact ⟨_, _, rfl, .inr ⟨K, g, rfl, q1, q2⟩, e3⟩
def vTm (n : List UInt8) : Tm := ⟨1, [], n, 0, []⟩
theorem exp_vt (h : AHeap) (n : List UInt8) : exp1 h 59 (vtV n) = some (tmV (vTm n), []) := by
  have hb : ∀ a : Value, exp1 h (57 + 1) (.val a) = some (.val a, []) := fun a => rfl
  have hs : exp1 h (57 + 1) (.slc true []) = some (.slc false [], []) := rfl
  show exp1 h (57 + 1 + 1) _ = _
  unfold vtV
  rw [exp1]
  unfold vTm
  rw [tmV_mk]
  simp only [solid, solidL, Bool.not_true, Bool.false_and, Bool.and_false, Bool.true_and, if_false, Bool.false_eq_true, expL, hb, hs, List.nil_append, List.append_nil, Option.map_some]
  rfl
theorem expL_app {α : Type} {F : AV → Option (AV × List Nat)} : ∀ {a b a' b' : List AV} {i j : List Nat}, expL F a = some (a', i) → expL F b = some (b', j) → expL F (a ++ b) = some (a' ++ b', i ++ j)
  | [], b, a', b', i, j, h1, h2 => by
    simp only [expL, Option.some.injEq, Prod.mk.injEq] at h1
    obtain ⟨rfl, rfl⟩ := h1
    exact h2
  | x :: r, b, a', b', i, j, h1, h2 => by
    rw [List.cons_append]
    unfold expL at h1 ⊢
    cases hx : F x with
    | none => rw [hx] at h1; simp at h1
    | some p =>
      rw [hx] at h1
      cases hr : expL F r with
      | none => rw [hr] at h1; simp at h1
      | some q =>
        obtain ⟨q1, q2⟩ := q
        rw [hr] at h1
        simp only [Option.some.injEq, Prod.mk.injEq] at h1
        obtain ⟨rfl, rfl⟩ := h1
        rw [expL_app (α := α) hr h2]
        simp
theorem expL_vt (h : AHeap) : ∀ N : List (List UInt8), expL (exp1 h 59) (N.map vtV) = some ((N.map vTm).map tmV, [])
  | [] => rfl
  | n :: r => by
    rw [List.map_cons, List.map_cons, List.map_cons]
    unfold expL
    rw [exp_vt, expL_vt h r]
    rfl
theorem solidL_one (t : Tm) (l : List AV) : solidL (tmV t :: l) = solidL l := by
  have := solid_tm t
  simp [solidL, this]
theorem arr_exp' {h : AHeap} {id g k : Nat} {es es' : List AV} (ho : hget h id = .arr k es g) (d : Nat) (hx : expL (exp1 h d) es = some (es', [])) : exp1 h (d + 1) (.arr id 0 es.length g k) = some (.slc false es', [id]) := by
  have hv : sview h (.arr id 0 es.length g k) = some es := sview_arr _ _ _ _ _ ho rfl
  simp only [exp1, hv, hx]
  rfl
theorem vars_hand {h : AHeap} {K g : Nat} {N : List (List UInt8)} {A B : Tm} (hK : hget h K = .arr 5 (N.map vtV ++ [tmV A, tmV B]) g) (hf : Tm.fits (N.map vTm ++ [A, B])) (hl : N.length ≤ 90000) (hz : tszs (N.map vTm ++ [A, B]) ≤ 100000) : ∃ H, doCall md (aval Tryd.prog md fg) 53 [.arr K 0 (N.map vtV ++ [tmV A, tmV B]).length g 5] h = some (.slc false ((vsL [] (N.map vTm ++ [A, B])).map sV), H) ∧ H.length = h.length ∧ (∀ j, j ≠ K → hget H j = hget h j) := by
  have hv : sview h (.arr K 0 (N.map vtV ++ [tmV A, tmV B]).length g 5) = some (N.map vtV ++ [tmV A, tmV B]) := sview_arr _ _ _ _ _ hK rfl
  have hx : expL (exp1 h 59) (N.map vtV ++ [tmV A, tmV B]) = some ((N.map vTm ++ [A, B]).map tmV, []) := by
    have h2 : expL (exp1 h 59) [tmV A, tmV B] = some ([tmV A, tmV B], []) := expL_solid (by rw [solidL_one, solidL_one]; rfl)
    have := expL_app (α := Nat) (expL_vt h N) h2
    rw [this]; simp
  have hs : expL (exp1 h expDepth) [.arr K 0 (N.map vtV ++ [tmV A, tmV B]).length g 5] = some ([.slc false ((N.map vTm ++ [A, B]).map tmV)], [K]) := by
    have h1 : exp1 h (59 + 1) (.arr K 0 (N.map vtV ++ [tmV A, tmV B]).length g 5) = some (.slc false ((N.map vTm ++ [A, B]).map tmV), [K]) := arr_exp' hK 59 hx
    show expL (exp1 h (59 + 1)) _ = _
    unfold expL
    rw [h1]
    rfl
  have hc : canFrz h [K] = true := by simp [canFrz, hK]
  rw [doCall_0 (by decide)]; unfold doCall0
  rw [if_pos (.inr (by decide)), hs]
  simp only [hc, if_true]
  rw [← pcall_eq, varsL_p _ hf (by simp; omega) hz]
  by_cases hfl : flat (.slc false ((vsL [] (N.map vTm ++ [A, B])).map sV)) = true
  · exact ⟨h, by simp [hfl], rfl, fun _ _ => rfl⟩
  · refine ⟨h.set K (.frz 5 (N.map vtV ++ [tmV A, tmV B]) g), by simp [hfl, frzAll, frz1, hK], by simp, fun j hj => hget_set_ne (fun q => hj q.symm)⟩
theorem vsL_app : ∀ (a b : List Tm) (out : List (List UInt8)), vsL out (a ++ b) = vsL (vsL out a) b
  | [], b, out => by rw [List.nil_append, vsL]
  | t :: r, b, out => by rw [List.cons_append, vsL, vsL, vsL_app r b]
theorem vadd_mem {out : List (List UInt8)} {k : Int} {m n : List UInt8} : n ∈ vadd out k m ↔ n ∈ out ∨ (k = 1 ∧ n = m) := by
  unfold vadd
  split
  · rename_i h; simp [h.1]
  · rename_i h
    constructor
    · exact .inl
    · rintro (h1 | ⟨h1, rfl⟩)
      · exact h1
      · exact Classical.byContradiction fun h2 => h ⟨h1, h2⟩
mutual
theorem vsT_mem : ∀ (t : Tm) (out : List (List UInt8)) (n : List UInt8), t.ty → (n ∈ vsT out t ↔ n ∈ out ∨ n ∈ tvars t)
  | .mk k p m x l, out, n, ht => by
    rw [Tm.ty] at ht
    rw [vsT, vsL_mem l _ n ht.2, vadd_mem, tvars]
    by_cases hk : k = 1
    · obtain ⟨hl, _⟩ := ht.1.2.2.2 hk
      subst hl
      simp [hk, tvarss]
    · simp [hk]
theorem vsL_mem : ∀ (l : List Tm) (out : List (List UInt8)) (n : List UInt8), Tm.tys l → (n ∈ vsL out l ↔ n ∈ out ∨ n ∈ tvarss l)
  | [], out, n, _ => by rw [vsL, tvarss]; simp
  | t :: r, out, n, ht => by
    rw [Tm.tys] at ht
    rw [vsL, vsL_mem r _ n ht.2, vsT_mem t out n ht.1, tvarss, List.mem_append, or_assoc]
end
theorem vadd_nodup {out : List (List UInt8)} (h : out.Nodup) (k : Int) (m : List UInt8) : (vadd out k m).Nodup := by
  unfold vadd
  split
  · rename_i hc
    rw [List.nodup_append]
    refine ⟨h, by simp, fun a ha b hb => ?_⟩
    rw [List.mem_singleton] at hb
    rw [hb]
    rintro rfl
    exact hc.2 ha
  · exact h
mutual
theorem vsT_nodup : ∀ (t : Tm) (out : List (List UInt8)), out.Nodup → (vsT out t).Nodup
  | .mk k p m x l, out, h => by rw [vsT]; exact vsL_nodup l _ (vadd_nodup h k m)
theorem vsL_nodup : ∀ (l : List Tm) (out : List (List UInt8)), out.Nodup → (vsL out l).Nodup
  | [], out, h => by rw [vsL]; exact h
  | t :: r, out, h => by rw [vsL]; exact vsL_nodup r _ (vsT_nodup t out h)
end
theorem vsL_vars : ∀ (N out : List (List UInt8)), (out ++ N).Nodup → vsL out (N.map vTm) = out ++ N
  | [], out, _ => by rw [List.map_nil, vsL, List.append_nil]
  | n :: r, out, h => by
    have h2 : out ++ n :: r = (out ++ [n]) ++ r := by simp
    have hn : n ∉ out := by
      rw [List.nodup_append] at h
      exact fun hm => h.2.2 n hm n (by simp) rfl
    have : vsT out (vTm n) = out ++ [n] := by
      unfold vTm
      rw [vsT, vsL]
      unfold vadd
      rw [if_pos ⟨rfl, hn⟩]
    rw [List.map_cons, vsL, this, vsL_vars r (out ++ [n]) (by rw [← h2]; exact h), h2]
def flatE (l : List (Tm × Tm)) : List Tm := l.flatMap fun q => [q.1, q.2]
theorem flatE_app (a b : List (Tm × Tm)) : flatE (a ++ b) = flatE a ++ flatE b := by simp [flatE]
theorem tszs_append : ∀ (a b : List Tm), tszs (a ++ b) = tszs a + tszs b
  | [], b => by simp [tszs]
  | t :: r, b => by rw [List.cons_append, tszs, tszs, tszs_append r b]; omega
theorem tys_append : ∀ (a b : List Tm), Tm.tys (a ++ b) ↔ Tm.tys a ∧ Tm.tys b
  | [], b => by simp [Tm.tys]
  | t :: r, b => by rw [List.cons_append, Tm.tys, Tm.tys, tys_append r b, and_assoc]
theorem fits_append : ∀ (a b : List Tm), Tm.fits (a ++ b) ↔ Tm.fits a ∧ Tm.fits b
  | [], b => by simp [Tm.fits]
  | t :: r, b => by rw [List.cons_append, Tm.fits, Tm.fits, fits_append r b, and_assoc]
theorem vs_next {N : List (List UInt8)} (h : N.Nodup) (A B : Tm) : vsL [] (N.map vTm ++ [A, B]) = vsL N [A, B] := by
  rw [vsL_app, vsL_vars N [] (by simpa using h), List.nil_append]
def eqV : Tm × Tm → AV
  | (⟨k, p, m, n, l⟩, ⟨k', p', m', n', l'⟩) => .agg [.int k, .str (txt p), .str (txt m), .int n, .slc false (l.map tmV), .int k', .str (txt p'), .str (txt m'), .int n', .slc false (l'.map tmV)]
structure LS (h : AHeap) (B : Nat) (sh : List Sh) (P : SMap) (ns : List Nd) (nb : Bool) (N : List (List UInt8)) (n : Nat) (done : List (Tm × Tm)) (ids : List (Nat × Nat)) : Prop where
  is : IS h 0 B 1 sh P ns
  ip : IP sh P
  z : SO h 2 0 1 (.slc nb (N.map sV))
  q : hget h 3 = .vars [.ptr 2 0]
  t : hget h 4 = .arr 2 ((ids ++ List.replicate (n - done.length) (0, 0)).map prV) 0
  len : ids.length = done.length
  vals : ∀ (j a b : Nat) (A B : Tm), ids[j]? = some (a, b) → done[j]? = some (A, B) → Val sh P a A ∧ Val sh P b B
  names : N = vsL [] (flatE done)
  dom : ∀ n, n ∈ N ↔ ∃ i, mg P n = some i
  sz : sh.length ≤ tszs (flatE done)
  kc : kc sh ≤ tszs (flatE done)
theorem fr_55 {h0 : AHeap} {nv : AV} (hq : hget h0 3 = .vars [.ptr 2 0]) (hz : SO h0 2 0 1 nv) : Fr 0 1 55 [.ptr 3 0] h0 := fun h1 ns1 hk hs hl =>
  fresh_c hs hl (hk.2 3 _ hq (by simp) (by decide) (by decide) (by decide) (by simp)) (hk.2 2 _ hz (by simp) (by decide) (by decide) (by decide) (by simp) : SO h1 2 0 1 nv)
theorem callable_55 : callable Tryd.prog 55 = true := by kernel_rfl
theorem septr_pr {i a b : Nat} {H1 : AHeap} {T g : Nat} (L : List AV) (hL : L[i]? = some (.agg [.int 0, .int 0])) : septr true 2 (.agg [.int (a : Int), .int (b : Int)]) g 2 i 0 H1 T (.arr 2 L g) = some (H1.set T (.arr 2 (L.set i (.agg [.int (a : Int), .int (b : Int)])) g)) := by
  simp [septr, hL, AV.cells, patch, putAt]
theorem sp_set2 {h : AHeap} {S T : Nat} {ns : List Nd} {b : Int} {f : Bool} {w : Int} (hs : SP h S ns b f w) (hTS : T ≠ S) {es : List AV} {g : Nat} (hT : hget h T = .arr 2 es g) (o : AObj) : SP (h.set T o) S ns b f w :=
  sp_keep hs (hget_set_ne hTS) fun A es' g' q => by rw [hget_set_ne (by rintro rfl; rw [hT] at q; simp at q)]; exact q
theorem nr_set2 {h : AHeap} {S B T : Nat} {sh : List Sh} {rt r : Nat → Nat} {vis : Nat → Bool} {w : Int} {ns : List Nd} (x : NR h S B sh rt r vis w ns) {es : List AV} {g : Nat} (hT : hget h T = .arr 2 es g) (o : AObj) : NR (h.set T o) S B sh rt r vis w ns :=
  ⟨x.1, fun i n s h1 h2 => by
    have y := x.2 i n s h1 h2
    refine ⟨y.kind, y.pkg, y.name, ?_, y.to, y.mark, y.le⟩
    rcases y.kids with z | ⟨K, g', e1, e2, e3, e4⟩
    · exact .inl z
    · exact .inr ⟨K, g', e1, by rw [hget_set_ne (by rintro rfl; rw [hT] at e2; simp at e2)]; exact e2, e3, e4⟩⟩
theorem IS.set2 {h : AHeap} {S B V T : Nat} {sh : List Sh} {P : SMap} {ns : List Nd} (x : IS h S B V sh P ns) (hTS : T ≠ S) (hTV : T ≠ V) {es : List AV} {g : Nat} (hT : hget h T = .arr 2 es g) (o : AObj) : IS (h.set T o) S B V sh P ns :=
  ⟨sp_set2 x.sp hTS hT o, nr_set2 x.nr hT o, by rw [List.length_set]; exact x.b, x.vs, by have := x.ms; unfold MS at this ⊢; rw [hget_set_ne hTV]; exact this⟩
theorem IS.keep {h H : AHeap} {S B V : Nat} {sh : List Sh} {P : SMap} {ns : List Nd} (x : IS h S B V sh P ns) (hl : h.length ≤ H.length) (hk : ∀ j o, hget h j = o → o ≠ .dead → (∀ cs, j ≠ S → o ≠ .vars cs) → hget H j = o) (hS : hget H S = hget h S) : IS H S B V sh P ns :=
  ⟨sp_keep x.sp hS fun A es g q => hk A _ q (by simp) (by simp), ⟨x.nr.1, fun i n s h1 h2 => by
    have y := x.nr.2 i n s h1 h2
    refine ⟨y.kind, y.pkg, y.name, ?_, y.to, y.mark, y.le⟩
    rcases y.kids with z | ⟨K, g', e1, e2, e3, e4⟩
    · exact .inl z
    · exact .inr ⟨K, g', e1, hk K _ e2 (by simp) (by simp), e3, e4⟩⟩, by have := x.b; omega, x.vs, hk V _ x.ms (by simp) (by simp)⟩
end Go.Proofs.YtncjbccjpneoiaaDoor
namespace Go.Proofs.YtncjbccjpneoiaaDoor
open Go Go.Ab Go.Proofs
open AV renaming unk → U
open Bool renaming false → J, true → O
set_option maxRecDepth 100000
theorem alive_p : pcall Tryd.prog md fg 10 [] = some (.bool true) := pcall_strue okKnown 200 (by decide +kernel)
theorem alive_c (h : AHeap) : doCall md (aval Tryd.prog md fg) 10 [] h = some (.val (.bool true), h) := doCall_pure md10 rfl alive_p
end Go.Proofs.YtncjbccjpneoiaaDoor
namespace Go.Proofs.YtncjbccjpneoiaaDoor
open Go Go.Ab Go.Proofs
open AV renaming unk → U
open Bool renaming false → J, true → O
set_option maxRecDepth 100000
set_option linter.unusedSimpArgs false
set_option linter.unusedVariables false
theorem solid_eqs : ∀ l : List (Tm × Tm), solidL (l.map eqV) = true
  | [] => rfl
  | (⟨k, p, m, n, l1⟩, ⟨k', p', m', n', l2⟩) :: r => by
    rw [List.map_cons]
    have h1 : solidL (l1.map tmV) = true := solid_byl l1
    have h2 : solidL (l2.map tmV) = true := solid_byl l2
    simp only [solidL, solid_eqs r, Bool.and_true, eqV, solid, Bool.not_false, Bool.true_and, h1, h2]
end Go.Proofs.YtncjbccjpneoiaaDoor
