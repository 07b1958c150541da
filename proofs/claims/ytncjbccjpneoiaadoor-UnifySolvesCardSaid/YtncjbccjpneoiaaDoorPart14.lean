/- Parts of the proof, each with its own heading: The plain law of solutions: the most general one, named by the first names. Solve as a whole. Same and putting in: what they tell. What the laws of touchstonelaw13 over equations share: closed facts of the program, terms and equations as arguments. The document's solver, in plain words: names and what each became. The document's solver: a name becomes a type; what it tells at last. The document's solver: place and look. The document's solver: within. The document's solver: Unify, of a variable. The document's solver: Unify. -/
import Derived.Test.YtncjbccjpneoiaaDoorPart13
import Derived.Test.YtncjbccjpneoiaaDoorRows
set_option linter.unusedSimpArgs false
set_option linter.unusedVariables false
namespace Go.Proofs.YtncjbccjpneoiaaDoor
open Go Go.Ab Go.Proofs
open AV renaming unk → U
open Bool renaming false → J, true → O
set_option maxRecDepth 100000
set_option linter.unusedSimpArgs false
set_option linter.unusedVariables false
open Classical in
noncomputable def fstP (p : List UInt8 → Prop) : List (List UInt8) → List UInt8
  | [] => []
  | n :: r => if p n then n else fstP p r
theorem fstP_congr {p q : List UInt8 → Prop} : ∀ (N : List (List UInt8)), (∀ n ∈ N, (p n ↔ q n)) → fstP p N = fstP q N
  | [], _ => rfl
  | n :: r, h => by
    unfold fstP
    have := h n (by simp)
    by_cases hp : p n
    · rw [if_pos hp, if_pos (this.1 hp)]
    · rw [if_neg hp, if_neg (fun q => hp (this.2 q)), fstP_congr r fun m hm => h m (by simp [hm])]
theorem fstP_spec {p : List UInt8 → Prop} : ∀ (N : List (List UInt8)), (∃ n ∈ N, p n) → fstP p N ∈ N ∧ p (fstP p N)
  | [], ⟨n, h, _⟩ => by cases h
  | n :: r, ⟨m, h1, h2⟩ => by
    unfold fstP
    by_cases hp : p n
    · rw [if_pos hp]; exact ⟨by simp, hp⟩
    · rw [if_neg hp]
      have : ∃ n ∈ r, p n := by
        rcases List.mem_cons.1 h1 with rfl | h1
        · exact absurd h2 hp
        · exact ⟨m, h1, h2⟩
      obtain ⟨a, b⟩ := fstP_spec r this
      exact ⟨by simp [a], b⟩
theorem fstN_fstP (P : SMap) (rt : Nat → Nat) (v : Nat) : ∀ N : List (List UInt8), fstN P rt v N = fstP (fun n => rt (vmap P n) = v) N
  | [] => rfl
  | n :: r => by
    unfold fstN fstP
    rw [fstN_fstP P rt v r]
    by_cases h : rt (vmap P n) = v
    · rw [if_pos h, if_pos h]
    · rw [if_neg h, if_neg h]
structure Sol (l : List (Tm × Tm)) (N : List (List UInt8)) (s : List UInt8 → Tm) : Prop where
  eqs : Eqs s l
  gen : ∀ th, Eqs th l → ∀ n ∈ N, th n = inst th (s n)
  idem : ∀ n ∈ N, ∀ m ∈ tvars (s n), m ∈ N ∧ s m = vTm m
  fst : ∀ n ∈ N, ∀ m, s n = vTm m → m = fstP (fun x => s x = s n) N
mutual
theorem inst_id : ∀ (t : Tm) (th : List UInt8 → Tm), t.ty → (∀ m ∈ tvars t, th m = vTm m) → inst th t = t
  | .mk k p m x l, th, ht, h => by
    rw [Tm.ty] at ht
    rw [tvars] at h
    rw [inst]
    by_cases hk : k = 1
    · rw [if_pos hk] at h ⊢
      rw [h m (by simp)]
      obtain ⟨h1, h2⟩ := ht.1.2.2.2 hk
      rw [hk, h1, h2, ht.1.2.2.1]; rfl
    · rw [if_neg hk] at h ⊢
      rw [insts_id l th ht.2 h, ht.1.2.2.1]
theorem insts_id : ∀ (l : List Tm) (th : List UInt8 → Tm), Tm.tys l → (∀ m ∈ tvarss l, th m = vTm m) → insts th l = l
  | [], th, _, _ => by simp [insts]
  | t :: r, th, ht, h => by
    rw [Tm.tys] at ht
    rw [tvarss] at h
    rw [insts, inst_id t th ht.1 fun m hm => h m (by simp [hm]), insts_id r th ht.2 fun m hm => h m (by simp [hm])]
end
theorem eqs_congr {th th' : List UInt8 → Tm} {l : List (Tm × Tm)} (h : ∀ n ∈ tvarss (flatE l), th n = th' n) (e : Eqs th l) : Eqs th' l := fun p hp => by
  have hm : ∀ t, (t = p.1 ∨ t = p.2) → inst th t = inst th' t := fun t ht => inst_congr t fun n hn => h n (tvarss_mem.2 ⟨t, by
    unfold flatE
    rw [List.mem_flatMap]
    exact ⟨p, hp, by simp; exact ht⟩, hn⟩)
  rw [← hm p.1 (.inl rfl), ← hm p.2 (.inr rfl)]
  exact e p hp
section
variable {l : List (Tm × Tm)} {sh : List Sh} {P : SMap} {N : List (List UInt8)} {rt r : Nat → Nat} {T : Nat → Tm}
theorem dom_l (sd : SD l sh P N) (hty : Tm.tys (flatE l)) : ∀ n, n ∈ N ↔ n ∈ tvarss (flatE l) := fun n => by
  rw [sd.names, vsL_mem _ _ _ hty]; simp
theorem vm_of {sh : List Sh} {P : SMap} {n : List UInt8} {i : Nat} (h : mg P n = some i) : vmap P n = i := by unfold vmap; rw [h]; rfl
instance : Nonempty Tm := ⟨⟨0, [], [], 0, []⟩⟩
theorem ex_con (sd : SD l sh P N) (th : List UInt8 → Tm) : ∃ M, Con sh M ∧ ∀ n ∈ N, M (vmap P n) = th n := by
  obtain ⟨M, h1, h2⟩ := ex_mod sd.ip.ok (fun v => Classical.epsilon fun t => ∃ n, mg P n = some v ∧ t = th n)
  refine ⟨M, h1.2, fun n hn => ?_⟩
  obtain ⟨i, hi⟩ := (sd.dom n).1 hn
  rw [vm_of (sh := sh) hi, h2 i vSh (sd.ip.var n i hi) rfl rfl]
  have := Classical.epsilon_spec (p := fun t => ∃ n, mg P n = some i ∧ t = th n) ⟨th n, n, hi, rfl⟩
  obtain ⟨n', h3, h4⟩ := this
  rw [h4, sd.ip.inj n' n i h3 hi]
theorem no_sol (sd : SD l sh P N) (hty : Tm.tys (flatE l)) (h : ∀ M, Con sh M → ¬ Eqs (fun n => M (vmap P n)) l) : ¬ ∃ th, Eqs th l := by
  rintro ⟨th, he⟩
  obtain ⟨M, h1, h2⟩ := ex_con sd th
  exact h M h1 (eqs_congr (fun n hn => (h2 n ((dom_l sd hty n).2 hn)).symm) he)
theorem sol_of (sd : SD l sh P N) (hty : Tm.tys (flatE l)) (ok : Ok sh rt r) (hb : ∀ M, Mod sh rt M → Con sh M ∧ Eqs (fun n => M (vmap P n)) l) (hg : ∀ M, Con sh M → Eqs (fun n => M (vmap P n)) l → Mod sh rt M) (hT : Mod sh rt T) (hTv : ∀ (v : Nat) (s : Sh), sh[v]? = some s → s.kind = 1 → rt v = v → T v = ⟨1, [], fstN P rt v N, 0, []⟩) : Sol l N (sg T P) := by
  have hvl : ∀ n ∈ N, vmap P n < sh.length ∧ ∃ s : Sh, sh[vmap P n]? = some s ∧ s.kind = 1 := fun n hn => by
    obtain ⟨i, hi⟩ := (sd.dom n).1 hn
    rw [vm_of (sh := sh) hi]
    exact ⟨lt_of_at (sd.ip.var n i hi), vSh, sd.ip.var n i hi, rfl⟩
  have hfs : ∀ (v : Nat) (s : Sh), sh[v]? = some s → s.kind = 1 → rt v = v → fstN P rt v N ∈ N ∧ rt (vmap P (fstN P rt v N)) = v := fun v s h1 h2 h3 => by
    obtain ⟨n, hn⟩ := sd.ip.sur v s h1 h2
    rw [fstN_fstP]
    exact fstP_spec N ⟨n, (sd.dom n).2 ⟨v, hn⟩, by rw [vm_of (sh := sh) hn]; exact h3⟩
  refine ⟨(hb T hT).2, fun th he n hn => ?_, fun n hn => ?_, fun n hn m hm => ?_⟩
  · obtain ⟨M, h1, h2⟩ := ex_con sd th
    have hM := hg M h1 (eqs_congr (fun n hn => (h2 n ((dom_l sd hty n).2 hn)).symm) he)
    have hM' : Mod sh rt (fun i => inst th (T i)) := ⟨fun i hi => congrArg (inst th) (hT.1 i hi), fun i s hi hk => by
      show inst th (T i) = _
      rw [hT.2 i s hi hk, inst_mk, if_neg hk, List.map_map]; rfl⟩
    have key := mod_ext ok hM hM' (fun v s h3 h4 h5 => by
      obtain ⟨f1, f2⟩ := hfs v s h3 h4 h5
      show M v = inst th (T v)
      rw [hTv v s h3 h4 h5, inst_mk, if_pos rfl, ← h2 _ f1, hM.1 _ (hvl _ f1).1, f2]) (r (vmap P n) + 1) (vmap P n) (hvl n hn).1 (by omega)
    rw [← h2 n hn, key]; rfl
  · have key : ∀ (k i : Nat), i < sh.length → r i < k → ∀ m ∈ tvars (T i), m ∈ N ∧ T (vmap P m) = vTm m := fun k => by
      induction k with
      | zero => intro i _ h; omega
      | succ k ih =>
        intro i hi hr m hm
        rw [hT.1 i hi] at hm
        have hle := ok.le i hi
        obtain ⟨s, hs⟩ := at_of_lt (ok.lt i hi)
        by_cases hk : s.kind = 1
        · obtain ⟨f1, f2⟩ := hfs _ s hs hk (ok.idem i hi)
          rw [hTv _ s hs hk (ok.idem i hi), tvars, if_pos rfl, List.mem_singleton] at hm
          subst hm
          refine ⟨f1, ?_⟩
          rw [hT.1 _ (hvl _ f1).1, f2, hTv _ s hs hk (ok.idem i hi)]; rfl
        · rw [hT.2 _ s hs hk, tvars, if_neg hk, tvarss_mem] at hm
          obtain ⟨t, ht, hm⟩ := hm
          obtain ⟨c, hc, rfl⟩ := List.mem_map.1 ht
          obtain ⟨g1, g2⟩ := ok.kid _ s c hs hc
          exact ih c g1 (by omega) m hm
    exact key _ _ (hvl n hn).1 (Nat.lt_succ_self _)
  · have hroot : ∀ x ∈ N, ∀ y, T (vmap P x) = vTm y → ∃ s : Sh, sh[rt (vmap P x)]? = some s ∧ s.kind = 1 ∧ fstN P rt (rt (vmap P x)) N = y := fun x hx y hy => by
      have hxl := (hvl x hx).1
      rw [hT.1 _ hxl] at hy
      obtain ⟨s, hs⟩ := at_of_lt (ok.lt _ hxl)
      by_cases hk : s.kind = 1
      · refine ⟨s, hs, hk, ?_⟩
        rw [hTv _ s hs hk (ok.idem _ hxl)] at hy
        unfold vTm at hy
        simp only [Tm.mk.injEq] at hy
        exact hy.2.2.1
      · rw [hT.2 _ s hs hk] at hy
        unfold vTm at hy
        simp only [Tm.mk.injEq] at hy
        exact absurd hy.1 hk
    obtain ⟨s, h1, h2, h3⟩ := hroot n hn m hm
    rw [← h3, fstN_fstP]
    have hnl := (hvl n hn).1
    refine fstP_congr N fun x hx => ?_
    show rt (vmap P x) = rt (vmap P n) ↔ T (vmap P x) = T (vmap P n)
    constructor
    · intro e
      rw [hT.1 _ (hvl x hx).1, e, ← hT.1 _ hnl]
    · intro e
      obtain ⟨s', k1, k2, k3⟩ := hroot x hx m (e.trans hm)
      obtain ⟨f1, f2⟩ := hfs _ s h1 h2 (ok.idem _ hnl)
      obtain ⟨g1, g2⟩ := hfs _ s' k1 k2 (ok.idem _ (hvl x hx).1)
      rw [h3] at f2
      rw [k3] at g2
      rw [← g2, f2]
end
theorem sol_uniq {l : List (Tm × Tm)} {N : List (List UInt8)} {s s' : List UInt8 → Tm} (hs : Sol l N s) (hs' : Sol l N s') (hN : ∀ n ∈ N, (s n).ty) (hN' : ∀ n ∈ N, (s' n).ty) : ∀ n ∈ N, s n = s' n := by
  have h1 : ∀ n ∈ N, s n = inst s (s' n) := hs'.gen s hs.eqs
  have h2 : ∀ n ∈ N, s' n = inst s' (s n) := hs.gen s' hs'.eqs
  have heq : ∀ a ∈ N, ∀ b ∈ N, (s a = s b ↔ s' a = s' b) := fun a ha b hb => ⟨fun e => by rw [h2 a ha, h2 b hb, e], fun e => by rw [h1 a ha, h1 b hb, e]⟩
  have hvar : ∀ m ∈ N, s m = vTm m → s' m = vTm m := fun m hm e => by
    have e2 := h1 m hm
    rw [e] at e2
    have hty := hN' m hm
    generalize hq : s' m = u at *
    obtain ⟨k, p, q, x, l'⟩ := u
    rw [inst_mk] at e2
    by_cases hk : k = 1
    · rw [Tm.ty] at hty
      obtain ⟨k1, k2⟩ := hty.1.2.2.2 hk
      have hv : s' m = vTm q := by rw [hq, hk, k1, k2, hty.1.2.2.1]; rfl
      have f1 := hs'.fst m hm q hv
      have f2 := hs.fst m hm m e
      have : fstP (fun x => s' x = s' m) N = fstP (fun x => s x = s m) N := fstP_congr N fun a ha => (heq a ha m hm).symm
      rw [this, ← f2] at f1
      rw [hk, k1, k2, hty.1.2.2.1, f1]; rfl
    · rw [if_neg hk] at e2
      unfold vTm at e2
      simp only [Tm.mk.injEq] at e2
      exact absurd e2.1.symm hk
  intro n hn
  rw [h2 n hn]
  exact (inst_id (s n) s' (hN n hn) fun m hm => hvar m (hs.idem n hn m hm).1 (hs.idem n hn m hm).2).symm
end Go.Proofs.YtncjbccjpneoiaaDoor
namespace Go.Proofs.YtncjbccjpneoiaaDoor
open Go Go.Ab Go.Proofs
open AV renaming unk → U
open Bool renaming false → J, true → O
set_option maxRecDepth 100000
set_option linter.unusedSimpArgs false
set_option linter.unusedVariables false
theorem tys_of {l : List Tm} (h : ∀ t ∈ l, t.ty) : Tm.tys l := by
  induction l with
  | nil => simp [Tm.tys]
  | cons a r ih => rw [Tm.tys]; exact ⟨h a (by simp), ih fun t ht => h t (by simp [ht])⟩
theorem fits_of {l : List Tm} (h : ∀ t ∈ l, t.fit) : Tm.fits l := by
  induction l with
  | nil => simp [Tm.fits]
  | cons a r ih => rw [Tm.fits]; exact ⟨h a (by simp), ih fun t ht => h t (by simp [ht])⟩
theorem kc_at : ∀ (l : List Sh) (j : Nat) (s : Sh), l[j]? = some s → s.kids.length ≤ kc l
  | [], j, s, h => by simp at h
  | a :: r, j, s, h => by
    have e : kc (a :: r) = a.kids.length + kc r := by simp [kc]
    rw [e]
    cases j with
    | zero => simp at h; subst h; omega
    | succ j => have := kc_at r j s (by simpa using h); omega
theorem sol_fit {l : List (Tm × Tm)} {sh : List Sh} {P : SMap} {N : List (List UInt8)} {rt r : Nat → Nat} {T : Nat → Tm} (sd : SD l sh P N) (hty : Tm.tys (flatE l)) (hft : Tm.fits (flatE l)) (hsz : tszs (flatE l) ≤ 40000) (ok : Ok sh rt r) (hT : Mod sh rt T) (hTv : ∀ (v : Nat) (s : Sh), sh[v]? = some s → s.kind = 1 → rt v = v → T v = ⟨1, [], fstN P rt v N, 0, []⟩) : ∀ (k i : Nat), i < sh.length → r i < k → (T i).ty ∧ (T i).fit
  | 0, i, _, h => by omega
  | k + 1, i, hi, h => by
    have hle := ok.le i hi
    obtain ⟨s, hs⟩ := at_of_lt (ok.lt i hi)
    rw [hT.1 i hi]
    by_cases hk : s.kind = 1
    · rw [hTv _ s hs hk (ok.idem i hi)]
      have hm : (fstN P rt (rt i) N).length ≤ 9223372036854775807 := by
        obtain ⟨n, hn⟩ := sd.ip.sur _ s hs hk
        rw [fstN_fstP]
        have := (fstP_spec (p := fun n => rt (vmap P n) = rt i) N ⟨n, (sd.dom n).2 ⟨_, hn⟩, by rw [vm_of (sh := sh) hn]; exact ok.idem i hi⟩).1
        exact tvarss_fit _ hft _ ((dom_l sd hty _).1 this)
      rw [Tm.ty, Tm.fit]
      simp [Tm.tys, Tm.fits, hm]
    · rw [hT.2 _ s hs hk, Tm.ty, Tm.fit]
      obtain ⟨f1, f2, f3, f4⟩ := sd.ip.fit _ s hs
      have hkl := kc_at _ _ _ hs
      have := sd.kc
      have hall : ∀ t ∈ s.kids.map T, t.ty ∧ t.fit := fun t ht => by
        obtain ⟨c, hc, rfl⟩ := List.mem_map.1 ht
        obtain ⟨g1, g2⟩ := ok.kid _ s c hs hc
        exact sol_fit sd hty hft hsz ok hT hTv k c g1 (by omega)
      exact ⟨⟨⟨f3, f4, rfl, fun e => absurd e hk⟩, tys_of fun t ht => (hall t ht).1⟩, f1, f2, by rw [List.length_map]; omega, fits_of fun t ht => (hall t ht).2⟩
theorem exp_val {H : AHeap} {K g : Nat} {es : List AV} (hK : hget H K = .arr 6 es g) (hs : solidL es = true) (c : Value) : exp1 H expDepth (.tup [.arr K 0 es.length g 6, .val c]) = some (.tup [.slc false es, .val c], [K]) := by
  have h1 := arr_exp hK hs 58
  have hb : exp1 H (58 + 1) (.val c) = some (.val c, []) := rfl
  show exp1 H (58 + 1 + 1) _ = _
  rw [exp1]
  simp only [solid, solidL, Bool.false_and, if_false, Bool.false_eq_true, expL, hb, h1, List.nil_append, List.append_nil, Option.map_some]
theorem exp_nil (H : AHeap) (c : Value) : exp1 H expDepth (.tup [.slc true [], .val c]) = some (.tup [.slc false [], .val c], []) := rfl
set_option maxHeartbeats 8000000 in
theorem solveP {l : List (Tm × Tm)} (hty : Tm.tys (flatE l)) (hft : Tm.fits (flatE l)) (hsz : tszs (flatE l) ≤ 40000) (hll : l.length ≤ 1000) :
    ((¬ ∃ th, Eqs th l) ∧ pcall Tryd.prog md fg 11 [.slc false (l.map eqV)] = some (.tup [.slc false [], .int 15])) ∨
    ∃ s, Sol l (vsL [] (flatE l)) s ∧ (∀ n ∈ vsL [] (flatE l), (s n).ty ∧ (s n).fit) ∧ (((∀ n ∈ vsL [] (flatE l), tsz (s n) ≤ 1000) ∧ pcall Tryd.prog md fg 11 [.slc false (l.map eqV)] = some (.tup [.slc false ((vsL [] (flatE l)).map fun n => valV (n, s n)), .int 0])) ∨ ((¬ ∀ n ∈ vsL [] (flatE l), tsz (s n) ≤ 1000) ∧ pcall Tryd.prog md fg 11 [.slc false (l.map eqV)] = some (.tup [.slc false [], .int 9]))) := by
  obtain ⟨H, res, sh, P, N, c1, sd, c3⟩ := solve_c hty hft hsz hll
  cases res with
  | false =>
    simp only [Bool.false_eq_true, if_false] at c3
    refine .inl ⟨no_sol sd hty c3, ?_⟩
    have e : aval Tryd.prog md fg 11 [.slc false (l.map eqV)] [] = some (.tup [.slc true [], .int 15], H) := by
      rw [aval_of Tryd.func11 body11 Tryd.results11 Tryd.ntmps11 ok11]
      simp (implicitDefEqProofs := false) (disch := omega) only [go_sem, seval, rgn Tryd.f11 0 rfl, rgn Tryd.f11 1 rfl, rgn Tryd.f11 2 rfl, rgn Tryd.f11 3 rfl, c1]
    rw [pcall_eq, e]
    unfold pureRes
    dsimp only
    rw [exp_nil]
    rfl
  | true =>
    simp only [if_true] at c3
    obtain ⟨B, rt, r, vis, w, ns, nb, ids, I, hb, hg⟩ := c3
    obtain ⟨T, hT, hTv0⟩ := ex_mod I.ok (fun v => ⟨1, [], fstN P rt v N, 0, []⟩)
    have hTv : ∀ (v : Nat) (s : Sh), sh[v]? = some s → s.kind = 1 → rt v = v → T v = ⟨1, [], fstN P rt v N, 0, []⟩ := fun v s h1 h2 h3 => hTv0 v s h1 h2 h3
    have hsol := sol_of sd hty I.ok hb hg hT hTv
    have hNl : N.length ≤ 40000 := by
      rw [sd.names]
      have := vsL_len (flatE l) []
      simp only [List.length_nil] at this
      omega
    have hNv : ∀ n ∈ N, vmap P n < sh.length := fun n hn => by
      obtain ⟨i, hi⟩ := (sd.dom n).1 hn
      rw [vm_of (sh := sh) hi]; exact lt_of_at (sd.ip.var n i hi)
    have hkc := sd.kc
    obtain ⟨H1, kt', a23, a2, a3, okk, d1, d2, d3, d4⟩ := sv_loop (B := B) (vis := vis) (w := w) (nb := nb) (ids := ids) hT hTv (by omega) (by omega) hNv N [] rfl H ns (.slc true []) I (.inl ⟨rfl, rfl⟩)
    simp only [List.length_nil, Int.natCast_zero] at d1
    have hZ := I.z
    unfold SO at hZ
    have hfit : ∀ n ∈ N, (sg T P n).ty ∧ (sg T P n).fit := fun n hn => sol_fit sd hty hft hsz I.ok hT hTv _ _ (hNv n hn) (Nat.lt_succ_self _)
    rw [← sd.names]
    refine .inr ⟨sg T P, hsol, hfit, ?_⟩
    cases okk with
    | true =>
      left
      refine ⟨d3.1 rfl, ?_⟩
      simp only [if_true] at d1
      have e : aval Tryd.prog md fg 11 [.slc false (l.map eqV)] [] = some (.tup [kt', .int 0], H1) := by
        rw [aval_of Tryd.func11 body11 Tryd.results11 Tryd.ntmps11 ok11]
        simp (implicitDefEqProofs := false) (disch := omega) only [go_sem, seval, rgn Tryd.f11 0 rfl, rgn Tryd.f11 1 rfl, rgn Tryd.f11 2 rfl, rgn Tryd.f11 4 rfl, rgn Tryd.f11 5 rfl, rgn Tryd.f11 13 rfl, c1, hZ, List.length_map, d1]
      rw [pcall_eq, e]
      unfold pureRes
      dsimp only
      rcases d4 rfl with ⟨e1, rfl⟩ | ⟨K, g, rfl, e2⟩
      · rw [exp_nil]
        have : N = [] := by simpa using e1
        subst this
        rfl
      · have := exp_val e2 (solid_val _) (.int .i64 0)
        rw [List.length_map, List.length_map] at this
        rw [List.length_map]
        rw [this]
        dsimp only
        rw [if_pos (by simp [canFrz, e2]), List.map_map]
        rfl
    | false =>
      right
      refine ⟨fun h => by have := d3.2 h; simp at this, ?_⟩
      simp only [Bool.false_eq_true, if_false] at d1
      obtain ⟨rfl, rfl⟩ := d2 rfl
      have e : aval Tryd.prog md fg 11 [.slc false (l.map eqV)] [] = some (.tup [.slc true [], .int 9], H1) := by
        rw [aval_of Tryd.func11 body11 Tryd.results11 Tryd.ntmps11 ok11]
        simp (implicitDefEqProofs := false) (disch := omega) only [go_sem, seval, rgn Tryd.f11 0 rfl, rgn Tryd.f11 1 rfl, rgn Tryd.f11 2 rfl, rgn Tryd.f11 4 rfl, rgn Tryd.f11 5 rfl, c1, hZ, List.length_map, d1]
      rw [pcall_eq, e]
      unfold pureRes
      dsimp only
      rw [exp_nil]
      rfl
mutual
theorem sameT_iff : ∀ a b : Tm, sameT a b = true ↔ a = b
  | ⟨k, p, m, n, l⟩, ⟨k', p', m', n', l'⟩ => by
    rw [sameT]
    simp only [Bool.and_eq_true, beq_iff_eq, decide_eq_true_eq, Tm.mk.injEq]
    constructor
    · rintro ⟨h1, h2, h3, h4, h5, h6⟩
      exact ⟨h1, h2, h3, h4, (sameTs_iff l l' h5).1 h6⟩
    · rintro ⟨h1, h2, h3, h4, h5⟩
      exact ⟨h1, h2, h3, h4, by rw [h5], (sameTs_iff l l' (by rw [h5])).2 h5⟩
theorem sameTs_iff : ∀ a b : List Tm, a.length = b.length → (sameTs a b = true ↔ a = b)
  | [], [], _ => by simp [sameTs]
  | [], _ :: _, h => by simp at h
  | _ :: _, [], h => by simp at h
  | t :: r, u :: s, h => by
    rw [sameTs]
    simp only [Bool.and_eq_true, List.cons.injEq]
    rw [sameT_iff t u, sameTs_iff r s (by simpa using h)]
end
theorem valV_mk (s : List UInt8) (k : Int) (p m : List UInt8) (n : Int) (l : List Tm) : valV (s, ⟨k, p, m, n, l⟩) = .agg [.str (txt s), .int k, .str (txt p), .str (txt m), .int n, .slc false (l.map tmV)] := rfl
theorem tsame_c (t u : Tm) (ht : t.fit) (hu : u.fit) (h : AHeap) : doCall md (aval Tryd.prog md fg) 16 [tmV t, tmV u] h = some (.val (.bool (sameT t u)), h) := doCall_pure md16 (solid2 t u) (Q2_all t ht u hu)
theorem no_p (n : Int) : pcall Tryd.prog md fg 14 [.int n] = some (.int n) := by
  have e : aval Tryd.prog md fg 14 [.int n] [] = some (.int n, []) := by
    rw [aval_of Tryd.func14 body14 Tryd.results14 Tryd.ntmps14 ok14]
    simp (implicitDefEqProofs := false) (disch := omega) only [go_sem, seval, rgn Tryd.f14 0 rfl, rgn Tryd.f14 1 rfl]
  rw [pcall_eq, e, pureRes_solid rfl]
theorem no_c (n : Int) (h : AHeap) : doCall md (aval Tryd.prog md fg) 14 [.int n] h = some (.int n, h) := doCall_pure md14 rfl (no_p n)
theorem u_loop (L : List Vl) (hL : L.length ≤ 100000) (hf : ∀ v ∈ L, v.2.fit) : ∀ (r : List Vl) (i : Nat) (a4 : AV), L.drop i = r → i ≤ L.length → ∃ a' : AV,
    lrun Tryd.prog md fg (fg 13) (loopOf Tryd.f13 0) (fg 13 1) (((.slc false (L.map valV)) :: (.slc false (L.map valV)) :: .unk :: .unk :: (a4) :: (.int i) :: U::U::U::U::U::U::U::U::U::U::U::U::U::U::U::U::U::U::U::U::U::U::U::U::U::U::U::U::U::U::U::U::U::U::U::U::[] : List AV)) [] = some (.exit 0, ((.slc false (L.map valV)) :: (.slc false (L.map valV)) :: .unk :: .unk :: (a') :: (.int L.length) :: U::U::U::U::U::U::U::U::U::U::U::U::U::U::U::U::U::U::U::U::U::U::U::U::U::U::U::U::U::U::U::U::U::U::U::U::[] : List AV), [])
  | [], i, a4, hdr, hi => by
    have : i = L.length := by have := congrArg List.length hdr; simp at this; omega
    subst this
    refine ⟨a4, ?_⟩
    rw [lrun_atC loop13_0]
    simp (implicitDefEqProofs := false) (disch := omega) only [go_sem, seval, rgn Tryd.f13 4 rfl, List.length_map]
  | ⟨s, k2, p2, m2, n2, l2⟩ :: r, i, a4, hdr, hi => by
    have hx : L[i]? = some (s, ⟨k2, p2, m2, n2, l2⟩) := by have := congrArg (·[0]?) hdr; simpa using this
    have hlt : i < L.length := (List.getElem?_eq_some_iff.1 hx).1
    have hd' : L.drop (i + 1) = r := by rw [← List.tail_drop, hdr]; rfl
    have ht : ((i : Int)).toNat = i := by omega
    have hft := hf _ (List.mem_of_getElem? hx)
    have cs := tsame_c ⟨k2, p2, m2, n2, l2⟩ ⟨k2, p2, m2, n2, l2⟩ hft hft
    rw [(sameT_iff _ _).2 rfl, tmV_mk] at cs
    obtain ⟨a', e⟩ := u_loop L hL hf r (i + 1) a4 hd' (by omega)
    refine ⟨a', ?_⟩
    rw [← e]
    rw [lrun_atC loop13_0]
    simp (implicitDefEqProofs := false) (disch := omega) only [go_sem, seval, rgn Tryd.f13 4 rfl, rgn Tryd.f13 6 rfl, rgn Tryd.f13 5 rfl, ↓tail_nil, ↓subs_nil_all, ↓List.forall_mem_cons, ↓all_nil, List.length_map, List.getElem?_map, ht, hx, Option.map_some, valV_mk, cs]
    all_goals (congr 1 <;> simp only [List.cons.injEq, AV.val.injEq, Value.int.injEq, Value.bool.injEq, true_and, and_true] <;> omega)
theorem usame_c (L : List Vl) (hL : L.length ≤ 100000) (hf : ∀ v ∈ L, v.2.fit) (h : AHeap) : doCall md (aval Tryd.prog md fg) 13 [.slc false (L.map valV), .slc false (L.map valV)] h = some (.val (.bool true), h) := by
  refine doCall_pure md13 (by simp only [solidL, solid, solid_val, Bool.not_false, Bool.and_true]) ?_
  have e : ∃ h, aval Tryd.prog md fg 13 [.slc false (L.map valV), .slc false (L.map valV)] [] = some (.val (.bool true), h) := by
    obtain ⟨a', e⟩ := u_loop L hL hf L 0 (.val (.bool false)) (by simp) (by omega)
    simp only [Int.natCast_zero] at e
    rw [aval_of Tryd.func13 body13 Tryd.results13 Tryd.ntmps13 ok13]
    simp (implicitDefEqProofs := false) (disch := omega) only [go_sem, seval, rgn Tryd.f13 0 rfl, rgn Tryd.f13 1 rfl, rgn Tryd.f13 3 rfl, rgn Tryd.f13 8 rfl, List.length_map, e]
    exact ⟨_, rfl⟩
  obtain ⟨h, e⟩ := e
  rw [pcall_eq, e, pureRes_solid rfl]
end Go.Proofs.YtncjbccjpneoiaaDoor
namespace Go.Proofs.YtncjbccjpneoiaaDoor
open Go Go.Ab Go.Proofs Go.RowKit Go.ChangeShapes Go.WideShapes
set_option maxRecDepth 100000
theorem und22 : Tryd.prog.underlying 22 = some (.slice 43) := by kernel_rfl
theorem own : ownKnob Tryd.prog.godebug = none := by kernel_rfl
theorem laidOut : laidOutB Tryd.prog = true := by kernel_rfl
theorem mixed : Tryd.prog.follows .mixedOrders = true := by kernel_rfl
theorem und3 : Tryd.prog.underlying 3 = some (.int .i64) := by kernel_rfl
theorem und9 : Tryd.prog.underlying 9 = some .string := by kernel_rfl
theorem und34 : Tryd.prog.underlying 34 = some (.slice 36) := by kernel_rfl
theorem WT_str {n : Nat} {a : AV} (h : WT Tryd.prog n 9 a) : ∃ s : ByteArray, a = .val (.string s) ∧ s.size ≤ maxLen := by
  cases n with
  | zero => exact h.elim
  | succ n => unfold WT at h; rw [und9] at h; exact h
theorem WT_i64 {n t : Nat} {a : AV} (ht : Tryd.prog.underlying t = some (.int .i64)) (h : WT Tryd.prog n t a) : ∃ x, a = .int x ∧ -9223372036854775808 ≤ x ∧ x ≤ 9223372036854775807 := by
  cases n with
  | zero => exact h.elim
  | succ n =>
    unfold WT at h; rw [ht] at h
    obtain ⟨x, rfl, hw⟩ := h
    have hw' : (decide (-9223372036854775808 ≤ x) && decide (x ≤ 9223372036854775807)) = true := hw
    simp only [Bool.and_eq_true, decide_eq_true_eq] at hw'
    exact ⟨x, rfl, hw'⟩
theorem allF {fs : List Field} {p : Field → Prop} (h : ∀ f ∈ fs.toArray, p f) : ∀ f ∈ fs, p f := fun f hf => h f (List.mem_toArray.2 hf)
mutual
def Tm.num : Tm → Prop | .mk k _ _ n l => (-9223372036854775808 ≤ k ∧ k ≤ 9223372036854775807) ∧ (-9223372036854775808 ≤ n ∧ n ≤ 9223372036854775807) ∧ Tm.nums l
def Tm.nums : List Tm → Prop | [] => True | t :: r => t.num ∧ Tm.nums r
end
theorem fits_of2 : ∀ {l : List Tm}, (∀ t ∈ l, t.fit ∧ t.num) → Tm.fits l ∧ Tm.nums l
  | [], _ => by rw [Tm.fits, Tm.nums]; exact ⟨trivial, trivial⟩
  | t :: r, h => by
    have h1 := h t (List.mem_cons_self ..)
    have h2 := fits_of2 fun u hu => h u (List.mem_cons_of_mem _ hu)
    rw [Tm.fits, Tm.nums]; exact ⟨⟨h1.1, h2.1⟩, ⟨h1.2, h2.2⟩⟩
theorem WT_tm : ∀ (n : Nat) {a : AV}, WT Tryd.prog n 36 a → ∃ t : Tm, a = tmV t ∧ t.fit ∧ t.num
  | 0, a, h => h.elim
  | 1, a, h => by
    unfold WT at h
    rw [Tryd.underlying36] at h
    obtain ⟨cs, rfl, hl, hf⟩ := h
    have hf := allF hf
    simp only [List.forall_mem_cons] at hf
    exact hf.1.elim
  | n + 2, a, h => by
    have ih := fun {a : AV} (h : WT Tryd.prog n 36 a) => WT_tm n h
    unfold WT at h
    rw [Tryd.underlying36] at h
    obtain ⟨cs, rfl, hl, hf⟩ := h
    have hl : cs.length = 5 := hl
    match cs, hl with
    | [a0, a1, a2, a3, a4], _ =>
      have hf := allF hf
      simp only [List.forall_mem_cons] at hf
      obtain ⟨f0, f1, f2, f3, f4, _⟩ := hf
      obtain ⟨k, e0, hk⟩ := WT_i64 und3 (show WT Tryd.prog (n + 1) 3 a0 from f0)
      obtain ⟨s, e1, h1⟩ := WT_str (show WT Tryd.prog (n + 1) 9 a1 from f1)
      obtain ⟨t, e2, h2⟩ := WT_str (show WT Tryd.prog (n + 1) 9 a2 from f2)
      obtain ⟨m, e3, hm⟩ := WT_i64 und3 (show WT Tryd.prog (n + 1) 3 a3 from f3)
      have g4 : WT Tryd.prog (n + 1) 34 a4 := f4
      unfold WT at g4
      rw [und34] at g4
      obtain ⟨es, e4, hlen, he⟩ := g4
      subst e0; subst e1; subst e2; subst e3; subst e4
      have key : ∀ es : List AV, (∀ x ∈ es, WT Tryd.prog n 36 x) → ∃ l : List Tm, es = l.map tmV ∧ ∀ t ∈ l, t.fit ∧ t.num := by
        intro es
        induction es with
        | nil => intro _; exact ⟨[], rfl, by simp⟩
        | cons e r ihr =>
          intro h
          obtain ⟨l, e1, e2⟩ := ihr fun y hy => h y (List.mem_cons_of_mem _ hy)
          obtain ⟨t, et, ft⟩ := ih (h e (List.mem_cons_self ..))
          refine ⟨t :: l, by rw [e1, et]; rfl, ?_⟩
          intro u hu
          rcases List.mem_cons.1 hu with hu | hu
          · rw [hu]; exact ft
          · exact e2 u hu
      obtain ⟨l, el, fl⟩ := key es he
      obtain ⟨S, rfl⟩ := txt_of s
      obtain ⟨T, rfl⟩ := txt_of t
      have := txt_size S
      have := txt_size T
      unfold maxLen at h1 h2 hlen
      refine ⟨⟨k, S, T, m, l⟩, by rw [tmV_mk, ← el], ?_, ?_⟩
      · rw [Tm.fit]
        refine ⟨by omega, by omega, ?_, (fits_of2 fl).1⟩
        have := congrArg List.length el
        rw [List.length_map] at this
        omega
      · rw [Tm.num]; exact ⟨hk, hm, (fits_of2 fl).2⟩
theorem WT_eq : ∀ (n : Nat) {a : AV}, WT Tryd.prog n 43 a → ∃ p : Tm × Tm, a = eqV p ∧ p.1.fit ∧ p.2.fit
  | 0, a, h => h.elim
  | n + 1, a, h => by
    unfold WT at h
    rw [Tryd.underlying43] at h
    obtain ⟨cs, rfl, hl, hf⟩ := h
    have hl : cs.length = 10 := hl
    match cs, hl with
    | [a0, a1, a2, a3, a4, a5, a6, a7, a8, a9], _ =>
      have hf := allF hf
      simp only [List.forall_mem_cons] at hf
      obtain ⟨f0, f1, _⟩ := hf
      obtain ⟨t, e0, h0, _⟩ := WT_tm _ (show WT Tryd.prog n 36 (.agg [a0, a1, a2, a3, a4]) from f0)
      obtain ⟨u, e1, h1, _⟩ := WT_tm _ (show WT Tryd.prog n 36 (.agg [a5, a6, a7, a8, a9]) from f1)
      obtain ⟨k, p, m, q, ks⟩ := t
      obtain ⟨k', p', m', q', ks'⟩ := u
      rw [tmV_mk] at e0 e1
      simp only [AV.agg.injEq, List.cons.injEq, and_true] at e0 e1
      obtain ⟨rfl, rfl, rfl, rfl, rfl⟩ := e0
      obtain ⟨rfl, rfl, rfl, rfl, rfl⟩ := e1
      exact ⟨(⟨k, p, m, q, ks⟩, ⟨k', p', m', q', ks'⟩), rfl, h0, h1⟩
theorem WT_eqs {n : Nat} {a : AV} (h : WT Tryd.prog n 22 a) : ∃ l : List (Tm × Tm), a = .slc false (l.map eqV) ∧ l.length ≤ 9223372036854775807 ∧ Tm.fits (flatE l) := by
  cases n with
  | zero => exact h.elim
  | succ n =>
    unfold WT at h
    rw [und22] at h
    obtain ⟨es, rfl, hlen, he⟩ := h
    have key : ∀ es : List AV, (∀ x ∈ es, WT Tryd.prog n 43 x) → ∃ l : List (Tm × Tm), es = l.map eqV ∧ Tm.fits (flatE l) := by
      intro es
      induction es with
      | nil => intro _; exact ⟨[], rfl, by simp [flatE, Tm.fits]⟩
      | cons e r ihr =>
        intro h
        obtain ⟨l, e1, e2⟩ := ihr fun y hy => h y (List.mem_cons_of_mem _ hy)
        obtain ⟨t, et, f1, f2⟩ := WT_eq n (h e (List.mem_cons_self ..))
        refine ⟨t :: l, by rw [e1, et]; rfl, ?_⟩
        rw [show flatE (t :: l) = t.1 :: t.2 :: flatE l from rfl, Tm.fits, Tm.fits]
        exact ⟨f1, f2, e2⟩
    obtain ⟨l, el, hl⟩ := key es he
    have := congrArg List.length el
    rw [List.length_map] at this
    unfold maxLen at hlen
    exact ⟨l, by rw [el], by omega, hl⟩
end Go.Proofs.YtncjbccjpneoiaaDoor
namespace Go.Proofs.YtncjbccjpneoiaaDoor
open Go Go.Ab Go.Proofs
open AV renaming unk → U
open Bool renaming false → J, true → O
set_option maxRecDepth 100000
set_option linter.unusedSimpArgs false
set_option linter.unusedVariables false
def bd (N : List (List UInt8)) (bs : List Tm) (n : List UInt8) : Option Tm :=
  match ix n N 0 with
  | none => none
  | some k => match bs[k]? with
    | none => none
    | some t => if t.kind = 0 then none else some t
theorem ix_at (k : List UInt8) : ∀ (l : List (List UInt8)) (i j : Nat), ix k l i = some j → i ≤ j ∧ l[j - i]? = some k
  | [], i, j, h => by cases h
  | e :: r, i, j, h => by
    unfold ix at h
    split at h
    · rename_i hk
      cases h
      exact ⟨Nat.le_refl _, by rw [Nat.sub_self, hk]; rfl⟩
    · obtain ⟨h1, h2⟩ := ix_at k r (i + 1) j h
      exact ⟨by omega, by rw [show j - i = (j - (i + 1)) + 1 by omega, List.getElem?_cons_succ]; exact h2⟩
theorem ix_some {n : List UInt8} {N : List (List UInt8)} (h : n ∈ N) : ∃ k, ix n N 0 = some k ∧ N[k]? = some n := by
  have := ix_mem n N 0
  rw [decide_eq_true h] at this
  obtain ⟨k, hk⟩ := Option.isSome_iff_exists.1 this
  exact ⟨k, hk, by have := (ix_at n N 0 k hk).2; rwa [Nat.sub_zero] at this⟩
theorem ix_first (n : List UInt8) : ∀ (N : List (List UInt8)) (i k : Nat), N[k]? = some n → (∀ j, j < k → N[j]? ≠ some n) → ix n N i = some (i + k)
  | [], i, k, h, _ => by simp at h
  | a :: r, i, 0, h, _ => by
    simp at h
    unfold ix
    rw [if_pos h.symm]; rfl
  | a :: r, i, k + 1, h, hj => by
    unfold ix
    rw [if_neg (fun e => hj 0 (by omega) (by simp [e])), ix_first n r (i + 1) k (by simpa using h) (fun j hjk => by have := hj (j + 1) (by omega); simpa using this)]
    congr 1; omega
theorem ix_nodup {N : List (List UInt8)} (hN : N.Nodup) {n : List UInt8} {k : Nat} (h : N[k]? = some n) : ix n N 0 = some k := by
  have := ix_first n N 0 k h (fun j hj e => by
    have hl := lt_of_at h
    have hl2 := lt_of_at e
    rw [List.getElem?_eq_getElem hl] at h
    rw [List.getElem?_eq_getElem hl2] at e
    have := List.pairwise_iff_getElem.1 hN j k hl2 hl hj
    simp only [Option.some.injEq] at h e
    exact this (by rw [h, e]))
  rwa [Nat.zero_add] at this
structure DW (N : List (List UInt8)) (bs : List Tm) (rk : List UInt8 → Nat) : Prop where
  len : bs.length = N.length
  nd : N.Nodup
  ok : ∀ n t, bd N bs n = some t → t.ty ∧ t.fit ∧ t.kind ≠ 0 ∧ ∀ m ∈ tvars t, m ∈ N ∧ rk m < rk n
  idx : ∀ n m, bd N bs n = some (vTm m) → ∃ j k, ix m N 0 = some j ∧ ix n N 0 = some k ∧ j < k
def DM (N : List (List UInt8)) (bs : List Tm) (th : List UInt8 → Tm) : Prop := ∀ n t, bd N bs n = some t → th n = inst th t
mutual
theorem tvars_inst {s : List UInt8 → Tm} {x : List UInt8} : ∀ t : Tm, (x ∈ tvars (inst s t) ↔ ∃ n ∈ tvars t, x ∈ tvars (s n))
  | .mk k p m y l => by
    rw [inst, tvars]
    by_cases hk : k = 1
    · rw [if_pos hk, if_pos hk]; simp
    · rw [if_neg hk, if_neg hk, tvars, if_neg hk]
      exact tvarss_inst l
theorem tvarss_inst {s : List UInt8 → Tm} {x : List UInt8} : ∀ l : List Tm, (x ∈ tvarss (insts s l) ↔ ∃ n ∈ tvarss l, x ∈ tvars (s n))
  | [] => by simp [insts, tvarss]
  | t :: r => by
    rw [insts, tvarss, tvarss, List.mem_append, tvars_inst t, tvarss_inst r]
    constructor
    · rintro (⟨n, h1, h2⟩ | ⟨n, h1, h2⟩)
      · exact ⟨n, by simp [h1], h2⟩
      · exact ⟨n, by simp [h1], h2⟩
    · rintro ⟨n, h1, h2⟩
      rcases List.mem_append.1 h1 with h | h
      · exact .inl ⟨n, h, h2⟩
      · exact .inr ⟨n, h, h2⟩
end
mutual
theorem inst_inst (a b : List UInt8 → Tm) : ∀ t : Tm, inst a (inst b t) = inst (fun n => inst a (b n)) t
  | .mk k p m y l => by
    rw [inst, inst]
    by_cases hk : k = 1
    · rw [if_pos hk, if_pos hk]
    · rw [if_neg hk, if_neg hk, inst, if_neg hk, insts_insts a b l]
theorem insts_insts (a b : List UInt8 → Tm) : ∀ l : List Tm, insts a (insts b l) = insts (fun n => inst a (b n)) l
  | [] => by simp [insts]
  | t :: r => by rw [insts, insts, insts, inst_inst a b t, insts_insts a b r]
end
mutual
theorem sz_var {s : List UInt8 → Tm} {n : List UInt8} : ∀ t : Tm, t.ty → n ∈ tvars t → (t.kind ≠ 1 → tsz (s n) < tsz (inst s t)) ∧ tsz (s n) ≤ tsz (inst s t)
  | .mk k p m y l, ht, hn => by
    rw [Tm.ty] at ht
    rw [tvars] at hn
    rw [inst]
    by_cases hk : k = 1
    · rw [if_pos hk] at hn ⊢
      rw [List.mem_singleton.1 hn]
      exact ⟨fun h => absurd hk h, Nat.le_refl _⟩
    · rw [if_neg hk] at hn ⊢
      have := szs_var (s := s) l ht.2 hn
      rw [tsz]
      exact ⟨fun _ => by omega, by omega⟩
theorem szs_var {s : List UInt8 → Tm} {n : List UInt8} : ∀ l : List Tm, Tm.tys l → n ∈ tvarss l → tsz (s n) ≤ tszs (insts s l)
  | [], _, hn => by simp [tvarss] at hn
  | t :: r, ht, hn => by
    rw [Tm.tys] at ht
    rw [tvarss, List.mem_append] at hn
    rw [insts, tszs]
    rcases hn with hn | hn
    · have := (sz_var (s := s) t ht.1 hn).2; omega
    · have := szs_var (s := s) r ht.2 hn; omega
end
section
variable {N : List (List UInt8)} {bs : List Tm} {rk : List UInt8 → Nat}
noncomputable def dn (N : List (List UInt8)) (bs : List Tm) : Nat → List UInt8 → Tm
  | 0, n => vTm n
  | f + 1, n => match bd N bs n with
    | none => vTm n
    | some t => inst (dn N bs f) t
theorem dn_fuel (w : DW N bs rk) : ∀ (f g : Nat) (n : List UInt8), rk n < f → rk n < g → dn N bs f n = dn N bs g n
  | 0, g, n, h, _ => by omega
  | f + 1, 0, n, _, h => by omega
  | f + 1, g + 1, n, h1, h2 => by
    unfold dn
    cases hb : bd N bs n with
    | none => rfl
    | some t =>
      exact inst_congr t fun m hm => dn_fuel w f g m (by have := ((w.ok n t hb).2.2.2 m hm).2; omega) (by have := ((w.ok n t hb).2.2.2 m hm).2; omega)
noncomputable def fin (N : List (List UInt8)) (bs : List Tm) (rk : List UInt8 → Nat) (n : List UInt8) : Tm := dn N bs (rk n + 1) n
theorem fin_free {n : List UInt8} (h : bd N bs n = none) : fin N bs rk n = vTm n := by unfold fin dn; rw [h]
theorem fin_dm (w : DW N bs rk) : DM N bs (fin N bs rk) := fun n t h => by
  show dn N bs (rk n + 1) n = _
  unfold dn
  rw [h]
  exact inst_congr t fun m hm => dn_fuel w _ _ m (by have := ((w.ok n t h).2.2.2 m hm).2; omega) (by omega)
theorem fin_gen (w : DW N bs rk) {th : List UInt8 → Tm} (hm : DM N bs th) : ∀ (f : Nat) (n : List UInt8), rk n < f → th n = inst th (fin N bs rk n)
  | 0, n, h => by omega
  | f + 1, n, h => by
    cases hb : bd N bs n with
    | none => rw [fin_free hb]; unfold vTm; rw [inst, if_pos rfl]
    | some t =>
      rw [fin_dm w n t hb, inst_inst, hm n t hb]
      exact inst_congr t fun m hmm => fin_gen w hm f m (by have := ((w.ok n t hb).2.2.2 m hmm).2; omega)
theorem inst_fin (w : DW N bs rk) {th : List UInt8 → Tm} (hm : DM N bs th) (t : Tm) : inst th (inst (fin N bs rk) t) = inst th t := by
  rw [inst_inst]
  exact inst_congr t fun n _ => (fin_gen w hm _ n (Nat.lt_succ_self _)).symm
theorem fin_vars (w : DW N bs rk) : ∀ (f : Nat) (n : List UInt8), rk n < f → n ∈ N → ∀ m ∈ tvars (fin N bs rk n), m ∈ N ∧ bd N bs m = none
  | 0, n, h, _ => by omega
  | f + 1, n, h, hn => by
    intro m hm
    cases hb : bd N bs n with
    | none =>
      rw [fin_free hb] at hm
      unfold vTm at hm
      rw [tvars, if_pos rfl, List.mem_singleton] at hm
      rw [hm]; exact ⟨hn, hb⟩
    | some t =>
      rw [fin_dm w n t hb, tvars_inst] at hm
      obtain ⟨x, hx, hm⟩ := hm
      have := (w.ok n t hb).2.2.2 x hx
      exact fin_vars w f x (by omega) this.1 m hm
end
section
variable {N : List (List UInt8)} {bs : List Tm} {rk : List UInt8 → Nat}
theorem bd_set (hl : bs.length = N.length) (hnd : N.Nodup) {m : List UInt8} {k : Nat} (hk : ix m N 0 = some k) {t : Tm} (ht : t.kind ≠ 0) (n : List UInt8) : bd N (bs.set k t) n = if n = m then some t else bd N bs n := by
  have hNk := (ix_at m N 0 k hk).2
  rw [Nat.sub_zero] at hNk
  have hkl := lt_of_at hNk
  unfold bd
  by_cases h : n = m
  · subst h
    rw [if_pos rfl, hk]
    dsimp only
    rw [List.getElem?_set_self (by omega)]
    dsimp only
    rw [if_neg ht]
  · rw [if_neg h]
    cases hx : ix n N 0 with
    | none => rfl
    | some j =>
      have hNj := (ix_at n N 0 j hx).2
      rw [Nat.sub_zero] at hNj
      dsimp only
      rw [List.getElem?_set_ne (by rintro rfl; rw [hNk] at hNj; exact h (by simpa using hNj.symm))]
def maxR (rk : List UInt8 → Nat) : List (List UInt8) → Nat
  | [] => 0
  | n :: r => max (rk n) (maxR rk r)
theorem maxR_le {n : List UInt8} : ∀ l : List (List UInt8), n ∈ l → rk n ≤ maxR rk l
  | [], h => by cases h
  | a :: r, h => by
    unfold maxR
    rcases List.mem_cons.1 h with rfl | h
    · omega
    · have := maxR_le r h; omega
open Classical in
noncomputable def rkB (N : List (List UInt8)) (bs : List Tm) (rk : List UInt8 → Nat) (m : List UInt8) (t : Tm) : List UInt8 → Nat := fun n => rk n + if m ∈ tvars (fin N bs rk n) then maxR rk (tvars t) + 1 else 0
theorem dw_bind (w : DW N bs rk) {m : List UInt8} {k : Nat} (hk : ix m N 0 = some k) (hb : bd N bs m = none) {t : Tm} (hty : t.ty) (hfit : t.fit) (hv : ∀ x ∈ tvars t, x ∈ N) (hno : m ∉ tvars (inst (fin N bs rk) t)) (hix : ∀ x, t = vTm x → ∃ j, ix x N 0 = some j ∧ j < k) : DW N (bs.set k t) (rkB N bs rk m t) := by
  have hk0 : t.kind ≠ 0 := by
    obtain ⟨a, b, c, d, e⟩ := t
    rw [Tm.ty] at hty
    show a ≠ 0
    omega
  have hset := bd_set w.len w.nd hk hk0
  refine ⟨by rw [List.length_set]; exact w.len, w.nd, fun n u hn => ?_, fun n x hn => ?_⟩
  · rw [hset n] at hn
    split at hn
    · rename_i e
      cases hn
      refine ⟨hty, hfit, hk0, fun x hx => ⟨hv x hx, ?_⟩⟩
      have hxn : m ∉ tvars (fin N bs rk x) := fun h => hno (tvars_inst t |>.2 ⟨x, hx, h⟩)
      unfold rkB
      rw [if_neg hxn, e, fin_free hb]
      unfold vTm
      rw [tvars, if_pos rfl, if_pos (by simp)]
      have := maxR_le (rk := rk) _ hx
      omega
    · obtain ⟨a, b, c, d⟩ := w.ok n u hn
      refine ⟨a, b, c, fun x hx => ⟨(d x hx).1, ?_⟩⟩
      have := (d x hx).2
      unfold rkB
      by_cases h : m ∈ tvars (fin N bs rk x)
      · have hn2 : m ∈ tvars (fin N bs rk n) := by rw [fin_dm w n u hn, tvars_inst]; exact ⟨x, hx, h⟩
        rw [if_pos h, if_pos hn2]; omega
      · rw [if_neg h]; omega
  · rw [hset n] at hn
    split at hn
    · rename_i e
      simp only [Option.some.injEq] at hn
      obtain ⟨j, h1, h2⟩ := hix x hn
      exact ⟨j, k, h1, by rw [e]; exact hk, h2⟩
    · exact w.idx n x hn
theorem dm_bind (w : DW N bs rk) {m : List UInt8} {k : Nat} (hk : ix m N 0 = some k) (hb : bd N bs m = none) {t : Tm} (hk0 : t.kind ≠ 0) {th : List UInt8 → Tm} : DM N (bs.set k t) th ↔ DM N bs th ∧ th m = inst th t := by
  have hset := bd_set w.len w.nd hk hk0
  constructor
  · intro h
    refine ⟨fun n u hn => h n u ?_, h m t (by rw [hset, if_pos rfl])⟩
    rw [hset, if_neg (by rintro rfl; rw [hb] at hn; cases hn)]; exact hn
  · rintro ⟨h1, h2⟩ n u hn
    rw [hset] at hn
    split at hn
    · rename_i e; cases hn; rw [e]; exact h2
    · exact h1 n u hn
def cnt (N : List (List UInt8)) (bs : List Tm) : Nat := N.countP fun n => (bd N bs n).isNone
theorem countP_lt' {p q : List UInt8 → Bool} {x : List UInt8} : ∀ l : List (List UInt8), (∀ n ∈ l, p n = true → q n = true) → x ∈ l → q x = true → p x = false → l.countP p < l.countP q
  | [], _, h, _, _ => by cases h
  | a :: r, h, hx, hq, hp => by
    have hle : r.countP p ≤ r.countP q := List.countP_mono_left fun n hn => h n (by simp [hn])
    rw [List.countP_cons, List.countP_cons]
    rcases List.mem_cons.1 hx with rfl | hx
    · rw [hp, hq]; simp; omega
    · have := countP_lt' r (fun n hn => h n (by simp [hn])) hx hq hp
      have := h a (by simp)
      by_cases ha : p a = true
      · rw [ha, this ha]; simp; omega
      · rw [Bool.eq_false_iff.2 ha]
        simp only [Bool.false_eq_true, if_false]
        split <;> omega
theorem cnt_bind (w : DW N bs rk) {m : List UInt8} {k : Nat} (hk : ix m N 0 = some k) (hb : bd N bs m = none) {t : Tm} (hk0 : t.kind ≠ 0) : cnt N (bs.set k t) < cnt N bs := by
  have hset := bd_set w.len w.nd hk hk0
  have hm : m ∈ N := List.mem_of_getElem? (ix_at m N 0 k hk).2
  refine countP_lt' (x := m) N (fun n _ h => ?_) hm (by rw [hb]; rfl) (by rw [hset, if_pos rfl]; rfl)
  rw [hset] at h
  split at h
  · cases h
  · exact h
theorem sol_doc {l : List (Tm × Tm)} (w : DW N bs rk) (hty : Tm.tys (flatE l)) (hdm : ∀ th, DM N bs th ↔ Eqs th l) : Sol l N (fin N bs rk) := by
  refine ⟨(hdm _).1 (fin_dm w), fun th he n _ => fin_gen w ((hdm th).2 he) _ n (Nat.lt_succ_self _), fun n hn m hm => ?_, fun n hn m hm => ?_⟩
  · obtain ⟨a, b⟩ := fin_vars w _ n (Nat.lt_succ_self _) hn m hm
    exact ⟨a, fin_free b⟩
  · have key : ∀ (f : Nat) (x m : List UInt8), rk x < f → x ∈ N → fin N bs rk x = vTm m → fin N bs rk m = vTm m ∧ ∃ j k, ix m N 0 = some j ∧ ix x N 0 = some k ∧ j ≤ k := fun f => by
      induction f with
      | zero => intro x m h; omega
      | succ f ih =>
        intro x m hr hx he
        cases hb : bd N bs x with
        | none =>
          rw [fin_free hb] at he
          unfold vTm at he
          simp only [Tm.mk.injEq, and_true, true_and] at he
          subst he
          obtain ⟨k, hk, _⟩ := ix_some hx
          exact ⟨fin_free hb, k, k, hk, hk, Nat.le_refl _⟩
        | some t =>
          rw [fin_dm w x t hb] at he
          obtain ⟨a, b, c, d⟩ := w.ok x t hb
          obtain ⟨kd, p, y, z, l'⟩ := t
          rw [inst_mk] at he
          by_cases hk : kd = 1
          · rw [if_pos hk] at he
            rw [Tm.ty] at a
            obtain ⟨a1, a2⟩ := a.1.2.2.2 hk
            have hv : bd N bs x = some (vTm y) := by rw [hb, hk, a1, a2, a.1.2.2.1]; rfl
            have hy := d y (by rw [tvars, if_pos hk]; simp)
            obtain ⟨q1, j, k, q2, q3, q4⟩ := ih y m (by omega) hy.1 he
            obtain ⟨j', k', r1, r2, r3⟩ := w.idx x y hv
            rw [q3] at r1
            cases r1
            exact ⟨q1, j, k', q2, r2, by omega⟩
          · rw [if_neg hk] at he
            unfold vTm at he
            simp only [Tm.mk.injEq] at he
            exact absurd he.1 hk
    obtain ⟨q1, j, k, q2, q3, q4⟩ := key _ n m (Nat.lt_succ_self _) hn hm
    have hmN : N[j]? = some m := by have := (ix_at m N 0 j q2).2; rwa [Nat.sub_zero] at this
    have hfirst : ∀ i, i < j → ∀ x, N[i]? = some x → fin N bs rk x ≠ fin N bs rk n := fun i hi x hx e => by
      rw [hm] at e
      obtain ⟨_, j', k', r1, r2, r3⟩ := key _ x m (Nat.lt_succ_self _) (List.mem_of_getElem? hx) e
      rw [q2] at r1
      cases r1
      rw [ix_nodup w.nd hx] at r2
      cases r2
      omega
    have hfp : ∀ (N' : List (List UInt8)) (j : Nat), N'[j]? = some m → (∀ i, i < j → ∀ x, N'[i]? = some x → fin N bs rk x ≠ fin N bs rk n) → fin N bs rk m = fin N bs rk n → m = fstP (fun x => fin N bs rk x = fin N bs rk n) N' := fun N' => by
      induction N' with
      | nil => intro j h; simp at h
      | cons a r ih =>
        intro j h h2 h3
        unfold fstP
        cases j with
        | zero => simp at h; rw [h, if_pos h3]
        | succ j =>
          rw [if_neg (h2 0 (by omega) a (by simp))]
          exact ih j (by simpa using h) (fun i hi x hx => h2 (i + 1) (by omega) x (by simpa using hx)) h3
    exact hfp N j hmN hfirst (by rw [q1, hm])
end
mutual
theorem solid_below (n : Nat) : ∀ v : AV, solid v = true → below n v = true
  | .val _, _ => rfl
  | .agg cs, h => by simp only [solid] at h; simp only [below]; exact solidL_below n cs h
  | .tup cs, h => by simp only [solid] at h; simp only [below]; exact solidL_below n cs h
  | .slc f es, h => by simp only [solid, Bool.and_eq_true] at h; simp only [below]; exact solidL_below n es h.2
  | .sptr _ _, h => by simp [solid] at h
  | .ptr _ _, h => by simp [solid] at h
  | .eptr .., h => by simp [solid] at h
  | .arr .., h => by simp [solid] at h
  | .clo .., h => by simp [solid] at h
  | .mp _, h => by simp [solid] at h
  | .emp, h => by simp [solid] at h
  | .unk, h => by simp [solid] at h
theorem solidL_below (n : Nat) : ∀ l : List AV, solidL l = true → belowL n l = true
  | [], _ => rfl
  | v :: r, h => by simp only [solidL, Bool.and_eq_true] at h; simp only [belowL, solid_below n v h.1, solidL_below n r h.2, Bool.and_self]
end
theorem pl_loop (k : List UInt8) (l : List (List UInt8)) (hl : l.length ≤ 9223372036854775807) : ∀ (r : List (List UInt8)) (i : Nat) (a4 : AV), l.drop i = r → i ≤ l.length → ∃ (i' : Int) (a' : AV),
    lrun Tryd.prog md fg (fg 71) (loopOf Tryd.f71 0) (fg 71 1) ([.slc false (l.map sV), sV k, .unk, .unk, a4, .int i, .unk, .unk, .unk, .unk, .unk, .unk, .unk, .unk, .unk, .unk, .unk, .unk, .unk]) [] = some (match ix k r i with | some j => (.ret, [.slc false (l.map sV), sV k, .unk, .unk, .int j, .int i', .unk, .unk, .unk, .unk, .unk, .unk, .unk, .unk, .unk, .unk, .unk, .unk, .unk], []) | none => (.exit 0, [.slc false (l.map sV), sV k, .unk, .unk, a', .int i', .unk, .unk, .unk, .unk, .unk, .unk, .unk, .unk, .unk, .unk, .unk, .unk, .unk], []))
  | [], i, a4, hdr, hi => by
    have : i = l.length := by have := congrArg List.length hdr; simp at this; omega
    subst this
    refine ⟨(l.length : Int), a4, ?_⟩
    simp only [ix]
    rw [lrun_atC loop71_0]
    simp (implicitDefEqProofs := false) (disch := omega) only [go_sem, seval, rgn Tryd.f71 2 rfl, List.length_map]
  | s :: r, i, a4, hdr, hi => by
    have hx : l[i]? = some s := by have := congrArg (·[0]?) hdr; simpa using this
    have hlt : i < l.length := (List.getElem?_eq_some_iff.1 hx).1
    have hd' : l.drop (i + 1) = r := by rw [← List.tail_drop, hdr]; rfl
    have ht : ((i : Int)).toNat = i := by omega
    have hs := str_eq s k
    by_cases hk : k = s
    · refine ⟨(i : Int), .unk, ?_⟩
      rw [ix, if_pos hk]
      subst hk
      dsimp only
      rw [lrun_atC loop71_0]
      simp (implicitDefEqProofs := false) (disch := omega) only [go_sem, seval, rgn Tryd.f71 2 rfl, rgn Tryd.f71 4 rfl, rgn Tryd.f71 5 rfl, List.length_map, List.getElem?_map, ht, hx, Option.map_some]
    · obtain ⟨i', a', e⟩ := pl_loop k l hl r (i + 1) a4 hd' (by omega)
      have hk' : ¬ s = k := fun q => hk q.symm
      refine ⟨i', a', ?_⟩
      rw [ix, if_neg hk, ← e]
      rw [lrun_atC loop71_0]
      simp (implicitDefEqProofs := false) (disch := omega) only [go_sem, seval, rgn Tryd.f71 2 rfl, rgn Tryd.f71 4 rfl, rgn Tryd.f71 3 rfl, List.length_map, List.getElem?_map, ht, hx, Option.map_some, hs, hk']
      all_goals (congr 1 <;> simp only [List.cons.injEq, AV.val.injEq, Value.int.injEq, Value.bool.injEq, true_and, and_true] <;> omega)
def ixI (k : List UInt8) (l : List (List UInt8)) : Int := match ix k l 0 with | some j => (j : Int) | none => -1
theorem place_p (k : List UInt8) (l : List (List UInt8)) (hl : l.length ≤ 9223372036854775807) : pcall Tryd.prog md fg 71 [.slc false (l.map sV), sV k] = some (.int (ixI k l)) := by
  have e : ∃ h, aval Tryd.prog md fg 71 [.slc false (l.map sV), sV k] [] = some (.int (ixI k l), h) := by
    obtain ⟨i', a', e⟩ := pl_loop k l hl l 0 (.int 0) (by simp) (by omega)
    simp only [Int.natCast_zero] at e
    unfold ixI
    rw [aval_of Tryd.func71 body71 Tryd.results71 Tryd.ntmps71 ok71]
    cases hf : ix k l 0 with
    | none =>
      rw [hf] at e
      dsimp only at e
      simp (implicitDefEqProofs := false) (disch := omega) only [go_sem, seval, rgn Tryd.f71 0 rfl, rgn Tryd.f71 1 rfl, rgn Tryd.f71 6 rfl, e]
      exact ⟨_, rfl⟩
    | some j =>
      rw [hf] at e
      dsimp only at e
      simp (implicitDefEqProofs := false) (disch := omega) only [go_sem, seval, rgn Tryd.f71 0 rfl, rgn Tryd.f71 1 rfl, e]
      exact ⟨_, rfl⟩
  obtain ⟨h, e⟩ := e
  rw [pcall_eq, e, pureRes_solid rfl]
theorem exp_slc {h : AHeap} {d : Nat} {es : List AV} (hs : solidL es = true) : exp1 h (d + 1) (.slc true es) = some (.slc false es, []) := by
  simp only [exp1, expL_solid hs]
  rfl
theorem exp_nms (h : AHeap) (nb : Bool) (l : List (List UInt8)) : exp1 h expDepth (.slc nb (l.map sV)) = some (.slc false (l.map sV), []) := by
  cases nb with
  | false => exact exp1_solid (by simp only [solid, Bool.not_false, Bool.true_and]; exact solid_names l)
  | true =>
    exact exp_slc (d := 59) (solid_names l)
theorem place_c (k : List UInt8) (l : List (List UInt8)) (hl : l.length ≤ 9223372036854775807) (nb : Bool) (h : AHeap) : doCall md (aval Tryd.prog md fg) 71 [.slc nb (l.map sV), .str (txt k)] h = some (.int (ixI k l), h) := by
  refine doCall_exp md71 (ys := [.slc false (l.map sV), sV k]) ?_ (place_p k l hl)
  unfold expL
  rw [exp_nms]
  rfl
def eV (t : Tm) : AV := if t.kind = 0 then .agg [.val (.int .i64 0), .val (.string ⟨#[]⟩), .val (.string ⟨#[]⟩), .val (.int .i64 0), .slc true []] else tmV t
def SV (h : AHeap) (Z K : Nat) (nb : Bool) (N : List (List UInt8)) (bs : List Tm) : Prop := hget h Z = .vars [.slc nb (N.map sV), .arr K 0 N.length 0 5] ∧ hget h K = .arr 5 (bs.map eV) 0
theorem SV.app {h : AHeap} {Z K : Nat} {nb : Bool} {N : List (List UInt8)} {bs : List Tm} (x : SV h Z K nb N bs) (l : AHeap) : SV (h ++ l) Z K nb N bs :=
  ⟨(hget_app l (hlt_of x.1 (by simp))).trans x.1, (hget_app l (hlt_of x.2 (by simp))).trans x.2⟩
structure LK (N : List (List UInt8)) (bs : List Tm) (rk : List UInt8 → Nat) (t u : Tm) : Prop where
  ty : u.ty
  fit : u.fit
  vars : ∀ m ∈ tvars u, m ∈ N
  same : ∀ th, DM N bs th → inst th t = inst th u
  free : u.kind = 1 → bd N bs u.name = none
def lookF (N : List (List UInt8)) (bs : List Tm) : Nat → Tm → Tm
  | 0, t => t
  | f + 1, t => if t.kind = 1 then (match bd N bs t.name with | none => t | some u => lookF N bs f u) else t
theorem lookF_free {N : List (List UInt8)} {bs : List Tm} {f : Nat} {m : List UInt8} (h : bd N bs m = none) : lookF N bs (f + 1) ⟨1, [], m, 0, []⟩ = ⟨1, [], m, 0, []⟩ := by
  have h' : bd N bs (Tm.name ⟨1, [], m, 0, []⟩) = none := h
  unfold lookF
  rw [if_pos (by rfl), h']
theorem lookF_bd {N : List (List UInt8)} {bs : List Tm} {f : Nat} {m : List UInt8} {u : Tm} (h : bd N bs m = some u) : lookF N bs (f + 1) ⟨1, [], m, 0, []⟩ = lookF N bs f u := by
  have h' : bd N bs (Tm.name ⟨1, [], m, 0, []⟩) = some u := h
  conv => lhs; unfold lookF
  rw [if_pos (by rfl), h']
theorem lookF_con {N : List (List UInt8)} {bs : List Tm} {f : Nat} {t : Tm} (h : t.kind ≠ 1) : lookF N bs f t = t := by
  cases f with
  | zero => rfl
  | succ f => unfold lookF; rw [if_neg h]
theorem var_of {t : Tm} (h : t.ty) (hk : t.kind = 1) : t = vTm t.name := by
  obtain ⟨k, p, m, n, l⟩ := t
  have hk : k = 1 := hk
  rw [Tm.ty] at h
  obtain ⟨h1, h2⟩ := h.1.2.2.2 hk
  rw [hk, h1, h2, h.1.2.2.1]; rfl
section
variable {N : List (List UInt8)} {bs : List Tm} {rk : List UInt8 → Nat} {h : AHeap} {Z K : Nat} {nb : Bool}
set_option maxHeartbeats 8000000 in
theorem lk_loop (w : DW N bs rk) (hN : N.length ≤ 100000) (hs : SV h Z K nb N bs) : ∀ (f : Nat) (t : Tm), t.ty → t.fit → (∀ m ∈ tvars t, m ∈ N) → (t.kind = 1 → rk t.name < f) →
    ∃ u c z, lrun Tryd.prog md fg (fg 58) (loopOf Tryd.f58 0) (fg 58 1) (((.ptr Z 0) :: .unk :: .unk :: (.ptr h.length 0) :: (.ptr (h.length + 1) 0) :: U::U::U::U::U::U::U::U::U::U::U::U::U::U::U::U::U::U::U::U::U::U::U::U::U::U::U::U::U::U::U::U::U::[] : List AV)) (h ++ [.vars (tmV t).cells, .vars [.val (.int .i64 0), .val (.string ⟨#[]⟩), .val (.string ⟨#[]⟩), .val (.int .i64 0), .slc true []]]) = some (c, ((.ptr Z 0) :: .unk :: .unk :: (.ptr h.length 0) :: (.ptr (h.length + 1) 0) :: U::U::U::U::U::U::U::U::U::U::U::U::U::U::U::U::U::U::U::U::U::U::U::U::U::U::U::U::U::U::U::U::U::[] : List AV), h ++ [.vars (tmV u).cells, .vars z]) ∧ (c = .exit 0 ∧ z = [.val (.int .i64 0), .val (.string ⟨#[]⟩), .val (.string ⟨#[]⟩), .val (.int .i64 0), .slc true []] ∨ c = .ret ∧ z = (tmV u).cells) ∧ LK N bs rk t u ∧ u = lookF N bs f t
  | 0, ⟨k, p, m, n, l⟩, ty, ft, hv, hr => by
    by_cases hk : k = 1
    · exact absurd (hr hk) (by omega)
    · refine ⟨⟨k, p, m, n, l⟩, .exit 0, _, ?_, .inl ⟨rfl, rfl⟩, ⟨ty, ft, hv, fun _ _ => rfl, fun e => absurd e hk⟩, rfl⟩
      rw [tmV_mk]
      have e : ∀ a b c d e : AV, (AV.agg [a, b, c, d, e]).cells = [a, b, c, d, e] := fun _ _ _ _ _ => rfl
      rw [e]
      rw [lrun_atC loop58_0]
      simp (implicitDefEqProofs := false) (disch := omega) only [go_sem, seval, rgn Tryd.f58 1 rfl, sb_get0, hk]
  | f + 1, ⟨k, p, m, n, l⟩, ty, ft, hv, hr => by
    have e : ∀ a b c d e : AV, (AV.agg [a, b, c, d, e]).cells = [a, b, c, d, e] := fun _ _ _ _ _ => rfl
    by_cases hk : k = 1
    · subst hk
      have ty' := ty
      rw [Tm.ty] at ty'
      obtain ⟨h1, h2⟩ := ty'.1.2.2.2 rfl
      have h3 := ty'.1.2.2.1
      subst h1; subst h2; subst h3
      have hm := hv m (by rw [tvars, if_pos rfl]; simp)
      obtain ⟨j, hj, hNj⟩ := ix_some hm
      have hjl := lt_of_at hNj
      have hjn : ((j : Int)).toNat = j := by omega
      have hj0 : ¬ (j : Int) < 0 := by omega
      have cp := fun h => place_c m N (by omega) nb h
      have hij : ixI m N = (j : Int) := by unfold ixI; rw [hj]
      rw [hij] at cp
      have hZl := hlt_of hs.1 (by simp)
      have hKl := hlt_of hs.2 (by simp)
      have hZ : ∀ l, hget (h ++ l) Z = .vars [.slc nb (N.map sV), .arr K 0 N.length 0 5] := fun l => (hget_app l hZl).trans hs.1
      have hK : ∀ l, hget (h ++ l) K = .arr 5 (bs.map eV) 0 := fun l => (hget_app l hKl).trans hs.2
      have hbl : bs.length = N.length := w.len
      obtain ⟨u0, hu0⟩ := at_of_lt (l := bs) (i := j) (by omega)
      have hat : (bs.map eV)[j]? = some (eV u0) := by rw [List.getElem?_map, hu0]; rfl
      by_cases hu : u0.kind = 0
      · have hbd : bd N bs m = none := by unfold bd; rw [hj]; dsimp only; rw [hu0]; dsimp only; rw [if_pos hu]
        rw [show eV u0 = .agg [.val (.int .i64 0), .val (.string ⟨#[]⟩), .val (.string ⟨#[]⟩), .val (.int .i64 0), .slc true []] from if_pos hu] at hat
        refine ⟨⟨1, [], m, 0, []⟩, .ret, _, ?_, .inr ⟨rfl, rfl⟩, ⟨ty, ft, hv, fun _ _ => rfl, fun _ => hbd⟩, (lookF_free hbd).symm⟩
        rw [tmV_mk, e]
        rw [lrun_atC loop58_0]
        simp (implicitDefEqProofs := false) (disch := first | omega | exact List.length_set) only [go_sem, seval, rgn Tryd.f58 1 rfl, rgn Tryd.f58 2 rfl, rgn Tryd.f58 3 rfl, rgn Tryd.f58 4 rfl, sb_get0, sb_get1, sb_set1, hZ, hK, cp, hjn, hj0, hat]
      · have hbd : bd N bs m = some u0 := by unfold bd; rw [hj]; dsimp only; rw [hu0]; dsimp only; rw [if_neg hu]
        rw [show eV u0 = tmV u0 from if_neg hu] at hat
        obtain ⟨a, b, c, d⟩ := w.ok m u0 hbd
        obtain ⟨u, c', z, e1, e2, e3, e4⟩ := lk_loop w hN hs f u0 a b (fun x hx => (d x hx).1) (fun hk0 => by
          have := d u0.name (by rw [var_of a hk0]; unfold vTm; rw [tvars, if_pos rfl]; simp [Tm.name])
          have h2 : rk m < f + 1 := hr rfl
          show rk u0.name < f
          omega)
        refine ⟨u, c', z, ?_, e2, ⟨e3.ty, e3.fit, e3.vars, fun th hth => ?_, e3.free⟩, by rw [e4, lookF_bd hbd]⟩
        · rw [← e1]
          obtain ⟨q1, q2, q3, q4, q5⟩ := u0
          have hu' : ¬ q1 = 0 := hu
          rw [tmV_mk] at hat
          rw [tmV_mk, tmV_mk, e, e]
          rw [lrun_atC loop58_0]
          simp (implicitDefEqProofs := false) (disch := first | omega | exact List.length_set) only [go_sem, seval, rgn Tryd.f58 1 rfl, rgn Tryd.f58 2 rfl, rgn Tryd.f58 3 rfl, rgn Tryd.f58 5 rfl, sb_get0, sb_get1, sb_set0, hZ, hK, cp, hjn, hj0, hat, hu']
        · rw [← e3.same th hth, inst, if_pos rfl]
          exact hth m u0 hbd
    · refine ⟨⟨k, p, m, n, l⟩, .exit 0, _, ?_, .inl ⟨rfl, rfl⟩, ⟨ty, ft, hv, fun _ _ => rfl, fun e => absurd e hk⟩, (lookF_con (t := ⟨k, p, m, n, l⟩) hk).symm⟩
      rw [tmV_mk, e]
      rw [lrun_atC loop58_0]
      simp (implicitDefEqProofs := false) (disch := omega) only [go_sem, seval, rgn Tryd.f58 1 rfl, sb_get0, hk]
theorem look_c (w : DW N bs rk) (hN : N.length ≤ 100000) (hs : SV h Z K nb N bs) (t : Tm) (ty : t.ty) (ft : t.fit) (hv : ∀ m ∈ tvars t, m ∈ N) : ∃ u, doCall md (aval Tryd.prog md fg) 58 [.ptr Z 0, tmV t] h = some (tmV u, h) ∧ LK N bs rk t u ∧ u = lookF N bs (rk t.name + 1) t := by
  obtain ⟨u, c, z, e1, e2, e3, e4⟩ := lk_loop w hN hs (rk t.name + 1) t ty ft hv (fun _ => Nat.lt_succ_self _)
  refine ⟨u, ?_, e3, e4⟩
  have e : ∀ a b c d e : AV, (AV.agg [a, b, c, d, e]).cells = [a, b, c, d, e] := fun _ _ _ _ _ => rfl
  suffices e : ∃ j, aval Tryd.prog md fg 58 [.ptr Z 0, tmV t] h = some (tmV u, h ++ j) by
    obtain ⟨j, e⟩ := e
    have := doCall_ref (by decide) (by decide) (by decide) e (solid_below _ _ (solid_tm u)) (gcOk_append h j)
    rw [List.take_left' rfl] at this
    exact this
  obtain ⟨k, p, m, n, l⟩ := t
  obtain ⟨k', p', m', n', l'⟩ := u
  rw [tmV_mk, tmV_mk, e, e] at e1
  rw [tmV_mk, tmV_mk]
  rcases e2 with ⟨rfl, rfl⟩ | ⟨rfl, rfl⟩
  · refine ⟨[.vars [.int k', .str (txt p'), .str (txt m'), .int n', .slc false (l'.map tmV)], .vars [.int k', .str (txt p'), .str (txt m'), .int n', .slc false (l'.map tmV)]], ?_⟩
    rw [aval_of Tryd.func58 body58 Tryd.results58 Tryd.ntmps58 ok58]
    simp (implicitDefEqProofs := false) (disch := first | omega | exact List.length_set) only [go_sem, seval, rgn Tryd.f58 0 rfl, rgn Tryd.f58 6 rfl, List.append_assoc, List.cons_append, List.nil_append, List.length_append, List.length_cons, List.length_nil, e1, sb_get0, sb_get1, sb_set1, aresults, tupOf]
  · rw [tmV_mk, e] at e1
    refine ⟨[.vars [.int k', .str (txt p'), .str (txt m'), .int n', .slc false (l'.map tmV)], .vars [.int k', .str (txt p'), .str (txt m'), .int n', .slc false (l'.map tmV)]], ?_⟩
    rw [aval_of Tryd.func58 body58 Tryd.results58 Tryd.ntmps58 ok58]
    simp (implicitDefEqProofs := false) (disch := first | omega | exact List.length_set) only [go_sem, seval, rgn Tryd.f58 0 rfl, List.append_assoc, List.cons_append, List.nil_append, List.length_append, List.length_cons, List.length_nil, e1, sb_get0, sb_get1, sb_set1, aresults, tupOf]
theorem look_all (w : DW N bs rk) (hN : N.length ≤ 100000) (hs : SV h Z K nb N bs) (t : Tm) (ty : t.ty) (ft : t.fit) (hv : ∀ m ∈ tvars t, m ∈ N) : ∃ u, (∀ l, doCall md (aval Tryd.prog md fg) 58 [.ptr Z 0, tmV t] (h ++ l) = some (tmV u, h ++ l)) ∧ LK N bs rk t u := by
  obtain ⟨u, _, lk, e⟩ := look_c w hN hs t ty ft hv
  refine ⟨u, fun l => ?_, lk⟩
  obtain ⟨u', c, _, e'⟩ := look_c w hN (hs.app l) t ty ft hv
  rw [← e] at e'
  rw [e'] at c
  exact c
end
section
variable {N : List (List UInt8)} {bs : List Tm} {rk : List UInt8 → Nat} {h : AHeap} {Z K : Nat} {nb : Bool} {n : List UInt8}
open Classical in
noncomputable def wiB (N : List (List UInt8)) (bs : List Tm) (rk : List UInt8 → Nat) (n : List UInt8) (t : Tm) : Bool := decide (n ∈ tvars (inst (fin N bs rk) t))
def WiOk (N : List (List UInt8)) (bs : List Tm) (rk : List UInt8 → Nat) (h : AHeap) (Z : Nat) (n : List UInt8) (t : Tm) : Prop := ∀ l, doCall md (aval Tryd.prog md fg) 72 [.ptr Z 0, .str (txt n), tmV t] (h ++ l) = some (.val (.bool (wiB N bs rk n t)), h ++ l)
theorem cells5 (a b c d e : AV) : (AV.agg [a, b, c, d, e]).cells = [a, b, c, d, e] := rfl
set_option maxHeartbeats 4000000 in
theorem wi_loop (k : Int) (p m : List UInt8) (x : Int) (l : List Tm) (hl : l.length ≤ 9223372036854775807) (hih : ∀ t ∈ l, WiOk N bs rk h Z n t) : ∀ (rem done : List Tm), l = done ++ rem →
    ∃ a6 a7 c, lrun Tryd.prog md fg (fg 72) (loopOf Tryd.f72 0) (fg 72 1) (((.ptr Z 0) :: (.str (txt n)) :: U::U::U::(.ptr h.length 0) :: (.val (.bool false)) :: (.int done.length) :: U::U::U::U::U::U::U::U::U::U::U::U::U::U::U::U::U::U::U::U::U::U::U::U::U::[] : List AV)) (h ++ [.vars [.int k, .str (txt p), .str (txt m), .int x, .slc false (l.map tmV)]]) = some (c, ((.ptr Z 0) :: (.str (txt n)) :: U::U::U::(.ptr h.length 0) :: (a6) :: (a7) :: U::U::U::U::U::U::U::U::U::U::U::U::U::U::U::U::U::U::U::U::U::U::U::U::U::[] : List AV), h ++ [.vars [.int k, .str (txt p), .str (txt m), .int x, .slc false (l.map tmV)]]) ∧ ((c = .exit 0 ∧ ∀ t ∈ rem, n ∉ tvars (inst (fin N bs rk) t)) ∨ (c = .ret ∧ a6 = .val (.bool true) ∧ ∃ t ∈ rem, n ∈ tvars (inst (fin N bs rk) t)))
  | [], done, he => by
    rw [List.append_nil] at he
    subst he
    refine ⟨.val (.bool false), .int l.length, .exit 0, ?_, .inl ⟨rfl, by simp⟩⟩
    rw [lrun_atC loop72_0]
    simp (implicitDefEqProofs := false) (disch := omega) only [go_sem, seval, rgn Tryd.f72 5 rfl, hget_last, List.length_map]
  | t :: rem, done, he => by
    have hll : l.length = done.length + (rem.length + 1) := by rw [he]; simp
    have hlt : (done.length : Int) < (l.length : Int) := by omega
    have htn : ((done.length : Int)).toNat = done.length := by omega
    have hat : (l.map tmV)[done.length]? = some (tmV t) := by rw [he]; simp
    have cw := hih t (by rw [he]; simp) [.vars [.int k, .str (txt p), .str (txt m), .int x, .slc false (l.map tmV)]]
    unfold wiB at cw
    by_cases hm : n ∈ tvars (inst (fin N bs rk) t)
    · rw [decide_eq_true hm] at cw
      refine ⟨.val (.bool true), .int done.length, .ret, ?_, .inr ⟨rfl, rfl, t, by simp, hm⟩⟩
      obtain ⟨k', p', m', x', l'⟩ := t
      rw [tmV_mk] at cw hat
      rw [lrun_atC loop72_0]
      simp (implicitDefEqProofs := false) (disch := omega) only [go_sem, seval, rgn Tryd.f72 5 rfl, rgn Tryd.f72 7 rfl, rgn Tryd.f72 8 rfl, hget_last, List.length_map, hlt, htn, hat, cw]
    · rw [decide_eq_false hm] at cw
      obtain ⟨a6, a7, c, e1, e2⟩ := wi_loop k p m x l hl hih rem (done ++ [t]) (by rw [he]; simp)
      refine ⟨a6, a7, c, ?_, ?_⟩
      · have hlen : (done ++ [t]).length = done.length + 1 := by simp
        rw [hlen] at e1
        rw [← e1]
        obtain ⟨k', p', m', x', l'⟩ := t
        rw [tmV_mk] at cw hat
        rw [lrun_atC loop72_0]
        simp (implicitDefEqProofs := false) (disch := omega) only [go_sem, seval, rgn Tryd.f72 5 rfl, rgn Tryd.f72 7 rfl, rgn Tryd.f72 6 rfl, hget_last, List.length_map, hlt, htn, hat, cw]
        all_goals (congr 1 <;> simp only [List.cons.injEq, AV.val.injEq, Value.int.injEq, Value.bool.injEq, true_and, and_true] <;> omega)
      · rcases e2 with ⟨e2, e3⟩ | ⟨e2, e3, t', h1, h2⟩
        · refine .inl ⟨e2, fun y hy => ?_⟩
          rcases List.mem_cons.1 hy with rfl | hy
          · exact hm
          · exact e3 y hy
        · exact .inr ⟨e2, e3, t', by simp [h1], h2⟩
set_option maxHeartbeats 4000000 in
theorem wi_step (w : DW N bs rk) (hN : N.length ≤ 100000) (hs : SV h Z K nb N bs) (hn : bd N bs n = none) (t : Tm) (ty : t.ty) (ft : t.fit) (hv : ∀ m ∈ tvars t, m ∈ N) (hih : ∀ u : Tm, u.ty → u.fit → (∀ m ∈ tvars u, m ∈ N) → tsz (inst (fin N bs rk) u) < tsz (inst (fin N bs rk) t) → WiOk N bs rk h Z n u) : WiOk N bs rk h Z n t := by
  intro l0
  obtain ⟨u, c1, lk, _⟩ := look_c w hN (hs.app (l0 ++ [.vars (tmV t).cells])) t ty ft hv
  have hsame := lk.same _ (fin_dm w)
  rw [← List.append_assoc] at c1
  have e5 := cells5
  suffices e : ∃ j, aval Tryd.prog md fg 72 [.ptr Z 0, .str (txt n), tmV t] (h ++ l0) = some (.val (.bool (wiB N bs rk n t)), h ++ l0 ++ j) by
    obtain ⟨j, e⟩ := e
    have := doCall_ref (by decide) (by decide) (by decide) e rfl (gcOk_append (h ++ l0) j)
    rw [List.take_left' rfl] at this
    exact this
  have huv := lk.vars
  have huf := lk.fit
  have hut := lk.ty
  have hfree := lk.free
  unfold wiB
  rw [hsame]
  obtain ⟨k', p', m', x', l'⟩ := u
  by_cases hk : k' = 1
  · subst hk
    have hv' := var_of hut rfl
    have hfr := hfree rfl
    have hvv : inst (fin N bs rk) ⟨1, p', m', x', l'⟩ = vTm m' := by rw [inst, if_pos rfl]; exact fin_free hfr
    rw [hvv]
    have htv : tvars (vTm m') = [m'] := by unfold vTm; rw [tvars, if_pos rfl]
    rw [htv]
    obtain ⟨k, p, m, x, l⟩ := t
    rw [tmV_mk] at c1 ⊢
    rw [tmV_mk, e5] at c1
    have hse := str_eq m' n
    refine ⟨[.vars [.int 1, .str (txt p'), .str (txt m'), .int x', .slc false (l'.map tmV)]], ?_⟩
    by_cases hmn : m' = n
    · have : decide (n ∈ [m']) = true := by simp [hmn]
      rw [this]
      rw [aval_of Tryd.func72 body72 Tryd.results72 Tryd.ntmps72 ok72]
      simp (implicitDefEqProofs := false) (disch := first | omega | exact List.length_set) only [go_sem, seval, rgn Tryd.f72 0 rfl, rgn Tryd.f72 1 rfl, rgn Tryd.f72 2 rfl, rgn Tryd.f72 3 rfl, hget_last, set_last, c1, hse, hmn]
    · have : decide (n ∈ [m']) = false := by simp; exact fun q => hmn q.symm
      rw [this]
      rw [aval_of Tryd.func72 body72 Tryd.results72 Tryd.ntmps72 ok72]
      simp (implicitDefEqProofs := false) (disch := first | omega | exact List.length_set) only [go_sem, seval, rgn Tryd.f72 0 rfl, rgn Tryd.f72 1 rfl, rgn Tryd.f72 2 rfl, rgn Tryd.f72 3 rfl, hget_last, set_last, c1, hse, hmn]
  · have hinst : inst (fin N bs rk) ⟨k', p', m', x', l'⟩ = .mk k' p' m' 0 (l'.map (inst (fin N bs rk))) := by rw [inst_mk, if_neg hk]
    have hkid : ∀ y ∈ l', WiOk N bs rk (h ++ l0) Z n y := fun y hy l2 => by
      have hy1 : y.ty := by rw [Tm.ty] at hut; exact tys_mem hut.2 y hy
      have hy2 : y.fit := by rw [Tm.fit] at huf; exact fits_mem huf.2.2.2 y hy
      have hy3 : ∀ m ∈ tvars y, m ∈ N := fun m hm => huv m (by rw [tvars, if_neg hk]; exact tvarss_mem.2 ⟨y, hy, hm⟩)
      have hy4 : tsz (inst (fin N bs rk) y) < tsz (inst (fin N bs rk) t) := by
        rw [hsame, hinst, tsz]
        have := tszs_mem (List.mem_map.2 ⟨y, hy, rfl⟩ : inst (fin N bs rk) y ∈ l'.map (inst (fin N bs rk)))
        omega
      have := hih y hy1 hy2 hy3 hy4 (l0 ++ l2)
      rwa [← List.append_assoc] at this
    have hll : l'.length ≤ 9223372036854775807 := by rw [Tm.fit] at huf; exact huf.2.2.1
    obtain ⟨a6, a7, c, e1, e2⟩ := wi_loop k' p' m' x' l' hll hkid l' [] rfl
    simp only [List.length_nil, Int.natCast_zero] at e1
    have hdec : (n ∈ tvars (inst (fin N bs rk) ⟨k', p', m', x', l'⟩)) ↔ ∃ y ∈ l', n ∈ tvars (inst (fin N bs rk) y) := by
      rw [hinst, tvars, if_neg hk, tvarss_mem]
      constructor
      · rintro ⟨y, hy, h2⟩
        obtain ⟨z, hz, rfl⟩ := List.mem_map.1 hy
        exact ⟨z, hz, h2⟩
      · rintro ⟨z, hz, h2⟩
        exact ⟨_, List.mem_map.2 ⟨z, hz, rfl⟩, h2⟩
    obtain ⟨k, p, m, x, l⟩ := t
    rw [tmV_mk, tmV_mk, e5] at c1
    rw [tmV_mk]
    refine ⟨[.vars [.int k', .str (txt p'), .str (txt m'), .int x', .slc false (l'.map tmV)]], ?_⟩
    rcases e2 with ⟨rfl, e3⟩ | ⟨rfl, rfl, y, h1, h2⟩
    · have : decide (n ∈ tvars (inst (fin N bs rk) ⟨k', p', m', x', l'⟩)) = false := decide_eq_false fun q => by
        obtain ⟨y, hy, h2⟩ := hdec.1 q
        exact e3 y hy h2
      rw [this]
      rw [aval_of Tryd.func72 body72 Tryd.results72 Tryd.ntmps72 ok72]
      simp (implicitDefEqProofs := false) (disch := first | omega | exact List.length_set) only [go_sem, seval, rgn Tryd.f72 0 rfl, rgn Tryd.f72 1 rfl, rgn Tryd.f72 2 rfl, rgn Tryd.f72 4 rfl, rgn Tryd.f72 9 rfl, hget_last, set_last, c1, hk, e1]
    · rw [decide_eq_true (hdec.2 ⟨y, h1, h2⟩)]
      rw [aval_of Tryd.func72 body72 Tryd.results72 Tryd.ntmps72 ok72]
      simp (implicitDefEqProofs := false) (disch := first | omega | exact List.length_set) only [go_sem, seval, rgn Tryd.f72 0 rfl, rgn Tryd.f72 1 rfl, rgn Tryd.f72 2 rfl, rgn Tryd.f72 4 rfl, hget_last, set_last, c1, hk, e1]
theorem within_c (w : DW N bs rk) (hN : N.length ≤ 100000) (hs : SV h Z K nb N bs) (hn : bd N bs n = none) : ∀ (s : Nat) (t : Tm), t.ty → t.fit → (∀ m ∈ tvars t, m ∈ N) → tsz (inst (fin N bs rk) t) < s → WiOk N bs rk h Z n t
  | 0, t, _, _, _, h => by omega
  | s + 1, t, ty, ft, hv, hlt => wi_step w hN hs hn t ty ft hv fun u h1 h2 h3 h4 => within_c w hN hs hn s u h1 h2 h3 (by omega)
end
mutual
theorem inst_ty {s : List UInt8 → Tm} : ∀ t : Tm, t.ty → (∀ m ∈ tvars t, (s m).ty) → (inst s t).ty
  | .mk k p m y l, ht, h => by
    rw [Tm.ty] at ht
    rw [tvars] at h
    rw [inst]
    by_cases hk : k = 1
    · rw [if_pos hk] at h ⊢
      exact h m (by simp)
    · rw [if_neg hk] at h ⊢
      rw [Tm.ty]
      exact ⟨⟨ht.1.1, ht.1.2.1, rfl, fun e => absurd e hk⟩, insts_ty l ht.2 h⟩
theorem insts_ty {s : List UInt8 → Tm} : ∀ l : List Tm, Tm.tys l → (∀ m ∈ tvarss l, (s m).ty) → Tm.tys (insts s l)
  | [], _, _ => by simp [insts, Tm.tys]
  | t :: r, ht, h => by
    rw [Tm.tys] at ht
    rw [tvarss] at h
    rw [insts, Tm.tys]
    exact ⟨inst_ty t ht.1 fun m hm => h m (by simp [hm]), insts_ty r ht.2 fun m hm => h m (by simp [hm])⟩
end
theorem vTm_ty (n : List UInt8) : (vTm n).ty := by unfold vTm; rw [Tm.ty]; simp [Tm.tys]
theorem tvars_vTm (n : List UInt8) : tvars (vTm n) = [n] := by unfold vTm; rw [tvars, if_pos rfl]
theorem inst_vTm (th : List UInt8 → Tm) (n : List UInt8) : inst th (vTm n) = th n := by unfold vTm; rw [inst, if_pos rfl]
structure UR (N : List (List UInt8)) (bs : List Tm) (a b : Tm) (res : Bool) (bs' : List Tm) : Prop where
  dw : ∃ rk', DW N bs' rk'
  cle : cnt N bs' ≤ cnt N bs
  ceq : cnt N bs' = cnt N bs → bs' = bs
  yes : res = true → ∀ th, DM N bs' th ↔ DM N bs th ∧ inst th a = inst th b
  no : res = false → ∀ th, DM N bs th → inst th a ≠ inst th b
theorem e71 (x : Option Tmp) : (md 71 == 1 || md 71 == 3 || decide (100 ≤ md 71) && (x == some (md 71 - 100))) = false := rfl
theorem septr_c {i : Nat} {H1 : AHeap} {T g : Nat} (L : List AV) {a0 a1 a2 a3 a4 x0 x1 x2 x3 x4 : AV} (hL : L[i]? = some (.agg [a0, a1, a2, a3, a4])) : septr true 5 (.agg [x0, x1, x2, x3, x4]) g 5 i 0 H1 T (.arr 5 L g) = some (H1.set T (.arr 5 (L.set i (.agg [x0, x1, x2, x3, x4])) g)) := by
  simp [septr, hL, AV.cells, patch, putAt]
theorem eV_agg (t : Tm) : ∃ a b c d e, eV t = .agg [a, b, c, d, e] := by
  unfold eV
  split
  · exact ⟨_, _, _, _, _, rfl⟩
  · obtain ⟨k, p, m, n, l⟩ := t
    rw [tmV_mk]; exact ⟨_, _, _, _, _, rfl⟩
theorem eV_below (n : Nat) (t : Tm) : below n (eV t) = true := by
  unfold eV
  split
  · rfl
  · exact solid_below _ _ (solid_tm t)
theorem belowL_map (n : Nat) : ∀ l : List Tm, belowL n (l.map eV) = true
  | [] => rfl
  | t :: r => by rw [List.map_cons]; simp only [belowL, eV_below, belowL_map n r, Bool.and_self]
section
variable {N : List (List UInt8)} {bs : List Tm} {rk : List UInt8 → Nat} {h : AHeap} {Z K : Nat} {nb : Bool}
theorem fin_ty (w : DW N bs rk) : ∀ (f : Nat) (n : List UInt8), rk n < f → (fin N bs rk n).ty
  | 0, n, h => by omega
  | f + 1, n, h => by
    cases hb : bd N bs n with
    | none => rw [fin_free hb]; exact vTm_ty n
    | some t =>
      rw [fin_dm w n t hb]
      obtain ⟨a, b, c, d⟩ := w.ok n t hb
      exact inst_ty t a fun m hm => fin_ty w f m (by have := (d m hm).2; omega)
theorem SV.set {bs' : List Tm} (x : SV h Z K nb N bs) : SV (h.set K (.arr 5 (bs'.map eV) 0)) Z K nb N bs' :=
  ⟨by rw [hget_set_ne (by rintro rfl; have := x.1; rw [x.2] at this; cases this)]; exact x.1, hget_set_eq (hlt_of x.2 (by simp))⟩
theorem set_id (x : SV h Z K nb N bs) : h.set K (.arr 5 (bs.map eV) 0) = h := by
  have hl := hlt_of x.2 (by simp)
  apply List.ext_getElem?
  intro j
  by_cases hj : K = j
  · subst hj
    rw [List.getElem?_set_self hl, List.getElem?_eq_getElem hl]
    have := x.2
    unfold hget at this
    rw [List.getD_eq_getElem?_getD, List.getElem?_eq_getElem hl] at this
    simpa using this.symm
  · rw [List.getElem?_set_ne hj]
theorem fin57 {vs : List AV} (x : SV h Z K nb N bs) {bs' : List Tm} {r : Bool} {j : AHeap} (e : aval Tryd.prog md fg 57 vs h = some (.val (.bool r), h.set K (.arr 5 (bs'.map eV) 0) ++ j)) : doCall md (aval Tryd.prog md fg) 57 vs h = some (.val (.bool r), h.set K (.arr 5 (bs'.map eV) 0)) := by
  have hl := hlt_of x.2 (by simp)
  rw [doCall_0 (by decide)]
  unfold doCall0
  rw [if_neg (by decide), rated_id (by decide), e]
  dsimp only
  rw [if_pos]
  · rw [List.take_left' (List.length_set)]
  · refine ⟨rfl, fun i hi => ?_⟩
    by_cases hik : K = i
    · right
      subst hik
      rw [hget_app _ (by rw [List.length_set]; exact hi), hget_set_eq hl]
      exact belowL_map _ _
    · left
      rw [List.getElem?_append_left (by rw [List.length_set]; exact hi), List.getElem?_set_ne hik]
def UniOk (N : List (List UInt8)) (Z K : Nat) (nb : Bool) (bs : List Tm) (a b : Tm) : Prop := ∀ h, SV h Z K nb N bs → ∃ res bs', doCall md (aval Tryd.prog md fg) 57 [.ptr Z 0, tmV a, tmV b] h = some (.val (.bool res), h.set K (.arr 5 (bs'.map eV) 0)) ∧ UR N bs a b res bs'
theorem ur_bind (w : DW N bs rk) {x : List UInt8} {k : Nat} (hk : ix x N 0 = some k) (hx : bd N bs x = none) {t : Tm} (hty : t.ty) (hfit : t.fit) (hv : ∀ y ∈ tvars t, y ∈ N) (hno : x ∉ tvars (inst (fin N bs rk) t)) (hix : ∀ y, t = vTm y → ∃ j, ix y N 0 = some j ∧ j < k) {a b : Tm} (hab : ∀ th, DM N bs th → (inst th a = inst th b ↔ th x = inst th t)) : UR N bs a b true (bs.set k t) := by
  have hk0 : t.kind ≠ 0 := by
    obtain ⟨q, b, c, d, e⟩ := t
    rw [Tm.ty] at hty
    show q ≠ 0
    omega
  have hc := cnt_bind w hk hx hk0
  refine ⟨⟨_, dw_bind w hk hx hty hfit hv hno hix⟩, by omega, fun e => by omega, fun _ th => ?_, fun e => by cases e⟩
  rw [dm_bind w hk hx hk0]
  exact ⟨fun ⟨h1, h2⟩ => ⟨h1, (hab th h1).2 h2⟩, fun ⟨h1, h2⟩ => ⟨h1, (hab th h1).1 h2⟩⟩
set_option maxHeartbeats 16000000 in
theorem uni_var (w : DW N bs rk) (hN : N.length ≤ 100000) {a b : Tm} (ha : a.ty) (fa : a.fit) (va : ∀ m ∈ tvars a, m ∈ N) (hb : b.ty) (fb : b.fit) (vb : ∀ m ∈ tvars b, m ∈ N) (hs : SV h Z K nb N bs) {u v : Tm} (cu : ∀ l, doCall md (aval Tryd.prog md fg) 58 [.ptr Z 0, tmV a] (h ++ l) = some (tmV u, h ++ l)) (cv : ∀ l, doCall md (aval Tryd.prog md fg) 58 [.ptr Z 0, tmV b] (h ++ l) = some (tmV v, h ++ l)) (lu : LK N bs rk a u) (lv : LK N bs rk b v) (hu1 : u.kind = 1) : ∃ res bs', doCall md (aval Tryd.prog md fg) 57 [.ptr Z 0, tmV a, tmV b] h = some (.val (.bool res), h.set K (.arr 5 (bs'.map eV) 0)) ∧ UR N bs a b res bs' := by
  have huv := var_of lu.ty hu1
  have hfx := lu.free hu1
  generalize hx : u.name = x at *
  subst huv
  have hxN := lu.vars x (by rw [tvars_vTm]; simp)
  obtain ⟨i, hi, hNi⟩ := ix_some hxN
  have hil := lt_of_at hNi
  have cpx := fun h => place_c x N (by omega) nb h
  have hix : ixI x N = (i : Int) := by unfold ixI; rw [hi]
  rw [hix] at cpx
  have hin : ((i : Int)).toNat = i := by omega
  have hZl := hlt_of hs.1 (by simp)
  have hKl := hlt_of hs.2 (by simp)
  have hZ : ∀ l, hget (h ++ l) Z = .vars [.slc nb (N.map sV), .arr K 0 N.length 0 5] := fun l => (hget_app l hZl).trans hs.1
  have hK : ∀ l, hget (h ++ l) K = .arr 5 (bs.map eV) 0 := fun l => (hget_app l hKl).trans hs.2
  have hbl : bs.length = N.length := w.len
  have e5 := cells5
  have hav : ∀ th, DM N bs th → inst th a = th x := fun th h => by rw [lu.same th h, inst_vTm]
  have hsetA : ∀ (X : AObj) (l : AHeap), (h ++ l).set K X = h.set K X ++ l := fun X l => List.set_append_left _ _ hKl
  obtain ⟨ak, ap, am, an, al⟩ := a
  obtain ⟨bk, bp, bm, bn, bl⟩ := b
  rw [tmV_mk] at cu cv
  rw [show tmV (vTm x) = .agg [.int 1, .str (txt []), .str (txt x), .int 0, .slc false []] from by unfold vTm; rw [tmV_mk]; rfl] at cu
  by_cases hv1 : v.kind = 1
  · have hvv := var_of lv.ty hv1
    have hfy := lv.free hv1
    generalize hy : v.name = y at *
    subst hvv
    have hyN := lv.vars y (by rw [tvars_vTm]; simp)
    obtain ⟨k, hk, hNk⟩ := ix_some hyN
    have hkl := lt_of_at hNk
    have cpy := fun h => place_c y N (by omega) nb h
    have hky : ixI y N = (k : Int) := by unfold ixI; rw [hk]
    rw [hky] at cpy
    have hkn : ((k : Int)).toNat = k := by omega
    have hbv : ∀ th, DM N bs th → inst th ⟨bk, bp, bm, bn, bl⟩ = th y := fun th h => by rw [lv.same th h, inst_vTm]
    rw [show tmV (vTm y) = .agg [.int 1, .str (txt []), .str (txt y), .int 0, .slc false []] from by unfold vTm; rw [tmV_mk]; rfl] at cv
    have hvx : eV (vTm x) = .agg [.int 1, .str (txt []), .str (txt x), .int 0, .slc false []] := by unfold eV vTm; rw [if_neg (by simp [Tm.kind]), tmV_mk]; rfl
    have hvy : eV (vTm y) = .agg [.int 1, .str (txt []), .str (txt y), .int 0, .slc false []] := by unfold eV vTm; rw [if_neg (by simp [Tm.kind]), tmV_mk]; rfl
    by_cases hik : i < k
    · have hlt : (i : Int) < (k : Int) := by omega
      have hge : ¬ (k : Int) < (i : Int) := by omega
      obtain ⟨t0, ht0⟩ := at_of_lt (l := bs) (i := k) (by omega)
      obtain ⟨z0, z1, z2, z3, z4, hz⟩ := eV_agg t0
      have hat : (bs.map eV)[k]? = some (.agg [z0, z1, z2, z3, z4]) := by rw [List.getElem?_map, ht0, Option.map_some, hz]
      have hmap : (bs.map eV).set k (.agg [.int 1, .str (txt []), .str (txt x), .int 0, .slc false []]) = (bs.set k (vTm x)).map eV := by rw [List.map_set, hvx]
      refine ⟨true, bs.set k (vTm x), fin57 hs (j := [.vars [.int 1, .str (txt []), .str (txt x), .int 0, .slc false []], .vars [.int 1, .str (txt []), .str (txt y), .int 0, .slc false []]]) ?_, ur_bind w hk hfy (vTm_ty x) lu.fit (fun y' hy' => by rw [tvars_vTm, List.mem_singleton] at hy'; rw [hy']; exact hxN) (by
          rw [inst_vTm, fin_free hfx, tvars_vTm, List.mem_singleton]
          rintro rfl
          rw [hi] at hk; cases hk; omega) (fun y' hy' => by
          have : y' = x := by unfold vTm at hy'; simp only [Tm.mk.injEq] at hy'; exact hy'.2.2.1.symm
          rw [this]; exact ⟨i, hi, hik⟩) (fun th h => by rw [hav th h, hbv th h, inst_vTm]; exact eq_comm)⟩
      have st := septr_c (x0 := .int 1) (x1 := .str (txt [])) (x2 := .str (txt x)) (x3 := .int 0) (x4 := .slc false []) (H1 := h ++ [.vars [.int 1, .str (txt []), .str (txt x), .int 0, .slc false []], .vars [.int 1, .str (txt []), .str (txt y), .int 0, .slc false []]]) (T := K) (g := 0) _ hat
      rw [hmap, hsetA] at st
      rw [tmV_mk, tmV_mk]
      rw [aval_of Tryd.func57 body57 Tryd.results57 Tryd.ntmps57 ok57]
      simp (implicitDefEqProofs := false) (disch := first | omega | exact List.length_set) only [go_sem, seval, rgn Tryd.f57 0 rfl, rgn Tryd.f57 1 rfl, rgn Tryd.f57 2 rfl, rgn Tryd.f57 3 rfl, rgn Tryd.f57 4 rfl, rgn Tryd.f57 5 rfl, rgn Tryd.f57 6 rfl, rgn Tryd.f57 7 rfl, rgn Tryd.f57 9 rfl, List.append_assoc, List.cons_append, List.nil_append, List.length_append, List.length_cons, List.length_nil, sb_get0, sb_get1, sb_set0, sb_set1, cu, cv, hZ, hK, cpx, cpy, hkn, hin, hlt, hge, hat, st, thenDraw_store, e71]
    · have hge : ¬ (i : Int) < (k : Int) := by omega
      by_cases hki : k < i
      · have hlt : (k : Int) < (i : Int) := by omega
        obtain ⟨t0, ht0⟩ := at_of_lt (l := bs) (i := i) (by omega)
        obtain ⟨z0, z1, z2, z3, z4, hz⟩ := eV_agg t0
        have hat : (bs.map eV)[i]? = some (.agg [z0, z1, z2, z3, z4]) := by rw [List.getElem?_map, ht0, Option.map_some, hz]
        have hmap : (bs.map eV).set i (.agg [.int 1, .str (txt []), .str (txt y), .int 0, .slc false []]) = (bs.set i (vTm y)).map eV := by rw [List.map_set, hvy]
        refine ⟨true, bs.set i (vTm y), fin57 hs (j := [.vars [.int 1, .str (txt []), .str (txt x), .int 0, .slc false []], .vars [.int 1, .str (txt []), .str (txt y), .int 0, .slc false []]]) ?_, ur_bind w hi hfx (vTm_ty y) lv.fit (fun y' hy' => by rw [tvars_vTm, List.mem_singleton] at hy'; rw [hy']; exact hyN) (by
            rw [inst_vTm, fin_free hfy, tvars_vTm, List.mem_singleton]
            rintro rfl
            rw [hk] at hi; cases hi; omega) (fun y' hy' => by
            have : y' = y := by unfold vTm at hy'; simp only [Tm.mk.injEq] at hy'; exact hy'.2.2.1.symm
            rw [this]; exact ⟨k, hk, hki⟩) (fun th h => by rw [hav th h, hbv th h, inst_vTm])⟩
        have st := septr_c (x0 := .int 1) (x1 := .str (txt [])) (x2 := .str (txt y)) (x3 := .int 0) (x4 := .slc false []) (H1 := h ++ [.vars [.int 1, .str (txt []), .str (txt x), .int 0, .slc false []], .vars [.int 1, .str (txt []), .str (txt y), .int 0, .slc false []]]) (T := K) (g := 0) _ hat
        rw [hmap, hsetA] at st
        rw [tmV_mk, tmV_mk]
        rw [aval_of Tryd.func57 body57 Tryd.results57 Tryd.ntmps57 ok57]
        simp (implicitDefEqProofs := false) (disch := first | omega | exact List.length_set) only [go_sem, seval, rgn Tryd.f57 0 rfl, rgn Tryd.f57 1 rfl, rgn Tryd.f57 2 rfl, rgn Tryd.f57 3 rfl, rgn Tryd.f57 4 rfl, rgn Tryd.f57 5 rfl, rgn Tryd.f57 7 rfl, rgn Tryd.f57 8 rfl, rgn Tryd.f57 9 rfl, List.append_assoc, List.cons_append, List.nil_append, List.length_append, List.length_cons, List.length_nil, sb_get0, sb_get1, sb_set0, sb_set1, cu, cv, hZ, hK, cpx, cpy, hkn, hin, hlt, hge, hat, st, thenDraw_store, e71]
      · have hxy : x = y := by
          have : i = k := by omega
          subst this
          rw [hNi] at hNk
          simpa using hNk
        have hgx : ¬ (k : Int) < (i : Int) := by omega
        refine ⟨true, bs, fin57 hs (j := [.vars [.int 1, .str (txt []), .str (txt x), .int 0, .slc false []], .vars [.int 1, .str (txt []), .str (txt y), .int 0, .slc false []]]) ?_, ⟨rk, w⟩, Nat.le_refl _, fun _ => rfl, fun _ th => ⟨fun h => ⟨h, by rw [hav th h, hbv th h, hxy]⟩, fun h => h.1⟩, fun e => by cases e⟩
        rw [set_id hs, tmV_mk, tmV_mk]
        rw [aval_of Tryd.func57 body57 Tryd.results57 Tryd.ntmps57 ok57]
        simp (implicitDefEqProofs := false) (disch := first | omega | exact List.length_set) only [go_sem, seval, rgn Tryd.f57 0 rfl, rgn Tryd.f57 1 rfl, rgn Tryd.f57 2 rfl, rgn Tryd.f57 3 rfl, rgn Tryd.f57 4 rfl, rgn Tryd.f57 5 rfl, rgn Tryd.f57 7 rfl, rgn Tryd.f57 9 rfl, List.append_assoc, List.cons_append, List.nil_append, List.length_append, List.length_cons, List.length_nil, sb_get0, sb_get1, sb_set0, sb_set1, cu, cv, hZ, hK, cpx, cpy, hkn, hin, hge, hgx, e71]
  · have hwi := fun l => within_c w hN hs hfx _ v lv.ty lv.fit lv.vars (Nat.lt_succ_self _) l
    have hbv : ∀ th, DM N bs th → inst th ⟨bk, bp, bm, bn, bl⟩ = inst th v := lv.same
    have hv0 : v.kind ≠ 0 := by
      have := lv.ty
      obtain ⟨q, b, c, d, e⟩ := v
      rw [Tm.ty] at this
      show q ≠ 0
      omega
    have hev : eV v = tmV v := if_neg hv0
    have hxv := fin_ty w
    by_cases hm : x ∈ tvars (inst (fin N bs rk) v)
    · have hwt : ∀ l, doCall md (aval Tryd.prog md fg) 72 [.ptr Z 0, .str (txt x), tmV v] (h ++ l) = some (.val (.bool true), h ++ l) := fun l => by
        have := hwi l
        unfold wiB at this
        rwa [decide_eq_true hm] at this
      have hno : ∀ th, DM N bs th → inst th ⟨ak, ap, am, an, al⟩ ≠ inst th ⟨bk, bp, bm, bn, bl⟩ := fun th hth e => by
        rw [hav th hth, hbv th hth, ← inst_fin w hth v] at e
        have hity : (inst (fin N bs rk) v).ty := inst_ty v lv.ty fun m _ => fin_ty w _ m (Nat.lt_succ_self _)
        have hik : (inst (fin N bs rk) v).kind ≠ 1 := by
          obtain ⟨q, b, c, d, e⟩ := v
          have hq : q ≠ 1 := hv1
          rw [inst_mk, if_neg hq]
          exact hq
        have := (sz_var (s := th) _ hity hm).1 hik
        rw [← e] at this
        omega
      obtain ⟨q1, q2, q3, q4, q5⟩ := v
      have hv1' : ¬ q1 = 1 := hv1
      rw [tmV_mk] at cv hwt
      refine ⟨false, bs, fin57 hs (j := [.vars [.int 1, .str (txt []), .str (txt x), .int 0, .slc false []], .vars [.int q1, .str (txt q2), .str (txt q3), .int q4, .slc false (q5.map tmV)]]) ?_, ⟨rk, w⟩, Nat.le_refl _, fun _ => rfl, (fun e => by cases e), fun _ => hno⟩
      rw [set_id hs, tmV_mk, tmV_mk]
      rw [aval_of Tryd.func57 body57 Tryd.results57 Tryd.ntmps57 ok57]
      simp (implicitDefEqProofs := false) (disch := first | omega | exact List.length_set) only [go_sem, seval, rgn Tryd.f57 0 rfl, rgn Tryd.f57 1 rfl, rgn Tryd.f57 2 rfl, rgn Tryd.f57 3 rfl, rgn Tryd.f57 10 rfl, rgn Tryd.f57 11 rfl, rgn Tryd.f57 12 rfl, List.append_assoc, List.cons_append, List.nil_append, List.length_append, List.length_cons, List.length_nil, sb_get0, sb_get1, sb_set0, sb_set1, cu, cv, hZ, hK, cpx, hv1', hwt, e71]
    · have hwt : ∀ l, doCall md (aval Tryd.prog md fg) 72 [.ptr Z 0, .str (txt x), tmV v] (h ++ l) = some (.val (.bool false), h ++ l) := fun l => by
        have := hwi l
        unfold wiB at this
        rwa [decide_eq_false hm] at this
      obtain ⟨t0, ht0⟩ := at_of_lt (l := bs) (i := i) (by omega)
      obtain ⟨z0, z1, z2, z3, z4, hz⟩ := eV_agg t0
      have hat : (bs.map eV)[i]? = some (.agg [z0, z1, z2, z3, z4]) := by rw [List.getElem?_map, ht0, Option.map_some, hz]
      have hur : UR N bs ⟨ak, ap, am, an, al⟩ ⟨bk, bp, bm, bn, bl⟩ true (bs.set i v) := ur_bind w hi hfx lv.ty lv.fit lv.vars hm (fun y' hy' => by rw [hy'] at hv1; exact absurd rfl hv1) (fun th h => by rw [hav th h, hbv th h])
      obtain ⟨q1, q2, q3, q4, q5⟩ := v
      have hv1' : ¬ q1 = 1 := hv1
      have hmap : (bs.map eV).set i (.agg [.int q1, .str (txt q2), .str (txt q3), .int q4, .slc false (q5.map tmV)]) = (bs.set i ⟨q1, q2, q3, q4, q5⟩).map eV := by rw [List.map_set, hev, tmV_mk]
      rw [tmV_mk] at cv hwt
      refine ⟨true, bs.set i ⟨q1, q2, q3, q4, q5⟩, fin57 hs (j := [.vars [.int 1, .str (txt []), .str (txt x), .int 0, .slc false []], .vars [.int q1, .str (txt q2), .str (txt q3), .int q4, .slc false (q5.map tmV)]]) ?_, hur⟩
      have st := septr_c (x0 := .int q1) (x1 := .str (txt q2)) (x2 := .str (txt q3)) (x3 := .int q4) (x4 := .slc false (q5.map tmV)) (H1 := h ++ [.vars [.int 1, .str (txt []), .str (txt x), .int 0, .slc false []], .vars [.int q1, .str (txt q2), .str (txt q3), .int q4, .slc false (q5.map tmV)]]) (T := K) (g := 0) _ hat
      rw [hmap, hsetA] at st
      rw [tmV_mk, tmV_mk]
      rw [aval_of Tryd.func57 body57 Tryd.results57 Tryd.ntmps57 ok57]
      simp (implicitDefEqProofs := false) (disch := first | omega | exact List.length_set) only [go_sem, seval, rgn Tryd.f57 0 rfl, rgn Tryd.f57 1 rfl, rgn Tryd.f57 2 rfl, rgn Tryd.f57 3 rfl, rgn Tryd.f57 10 rfl, rgn Tryd.f57 11 rfl, rgn Tryd.f57 13 rfl, rgn Tryd.f57 14 rfl, List.append_assoc, List.cons_append, List.nil_append, List.length_append, List.length_cons, List.length_nil, sb_get0, sb_get1, sb_set0, sb_set1, cu, cv, hZ, hK, cpx, hv1', hwt, hin, hat, st, thenDraw_store, e71]
end
theorem map_zip {f : Tm → Tm} : ∀ (l l' : List Tm), l.length = l'.length → (l.map f = l'.map f ↔ ∀ q ∈ l.zip l', f q.1 = f q.2)
  | [], [], _ => by simp
  | [], _ :: _, h => by simp at h
  | _ :: _, [], h => by simp at h
  | a :: r, b :: s, h => by
    have := map_zip (f := f) r s (by simpa using h)
    simp only [List.map_cons, List.zip_cons_cons, List.cons.injEq, List.forall_mem_cons, this]
theorem ur_congr {N : List (List UInt8)} {bs bs' : List Tm} {a b c d : Tm} {res : Bool} (x : UR N bs a b res bs') (h : ∀ th, DM N bs th → (inst th c = inst th d ↔ inst th a = inst th b)) : UR N bs c d res bs' :=
  ⟨x.dw, x.cle, x.ceq, fun e th => by
    rw [x.yes e th]
    exact ⟨fun ⟨h1, h2⟩ => ⟨h1, (h th h1).2 h2⟩, fun ⟨h1, h2⟩ => ⟨h1, (h th h1).1 h2⟩⟩, fun e th hd q => x.no e th hd ((h th hd).1 q)⟩
theorem callD_57 {env : Env} {d d2 : Option Tmp} {ty : TypeId} {pos : String} {aft : Array Edge} {g : Option (Nat × Bool)} (cs : Array Operand) (ts : Array TypeId) (h0 h' : AHeap) (v : AV) (k : Env → AHeap → Option (Env × AHeap)) : callD Tryd.prog md ⟨d, .call ⟨.value (.func 57), cs, ts⟩, ty, pos, aft, g⟩ h0 (some (v, h')) d2 k env = k (aput env d2 v) h' := by
  have : effOp Tryd.prog md ⟨d, .call ⟨.value (.func 57), cs, ts⟩, ty, pos, aft, g⟩ = true := rfl
  simp [callD, this]
structure KR (N : List (List UInt8)) (bs : List Tm) (done : List (Tm × Tm)) (bs' : List Tm) : Prop where
  dw : ∃ rk', DW N bs' rk'
  cle : cnt N bs' ≤ cnt N bs
  ceq : cnt N bs' = cnt N bs → bs' = bs
  yes : ∀ th, DM N bs' th ↔ DM N bs th ∧ ∀ q ∈ done, inst th q.1 = inst th q.2
section
variable {N : List (List UInt8)} {bs : List Tm} {rk : List UInt8 → Nat} {h : AHeap} {Z K : Nat} {nb : Bool}
set_option maxHeartbeats 16000000 in
theorem kr_loop (hs : SV h Z K nb N bs) (k : Int) (p m : List UInt8) (n n' : Int) (l l' : List Tm) (hl : l.length ≤ 9223372036854775807) (hll : l.length = l'.length) (hk : ∀ bs1, (∃ rk', DW N bs1 rk') → cnt N bs1 ≤ cnt N bs → (cnt N bs1 = cnt N bs → bs1 = bs) → ∀ q ∈ l.zip l', UniOk N Z K nb bs1 q.1 q.2) : ∀ (rem done : List (Tm × Tm)), l.zip l' = done ++ rem → ∀ (bs1 : List Tm), KR N bs done bs1 →
    ∃ bs2 a6 a9 c, lrun Tryd.prog md fg (fg 57) (loopOf Tryd.f57 0) (fg 57 1) (((.ptr Z 0) :: U::U::U::(.ptr h.length 0) :: (.ptr (h.length + 1) 0) :: (.val (.bool false)) :: .unk :: .unk :: (.int done.length) :: U::U::U::U::U::U::U::U::U::U::U::U::U::U::U::U::U::U::U::U::U::U::U::U::U::U::U::U::U::U::U::U::U::U::U::U::U::U::U::U::U::U::U::U::U::U::U::U::U::U::U::U::U::U::U::U::U::U::U::U::U::U::U::U::U::U::U::U::U::U::U::U::U::U::U::U::U::U::U::U::U::U::U::U::U::U::U::U::U::U::U::U::U::U::U::U::U::U::U::U::U::U::U::U::U::U::U::U::U::U::U::U::U::U::U::U::U::U::U::U::U::U::U::U::[] : List AV)) (h.set K (.arr 5 (bs1.map eV) 0) ++ [.vars [.int k, .str (txt p), .str (txt m), .int n, .slc false (l.map tmV)], .vars [.int k, .str (txt p), .str (txt m), .int n', .slc false (l'.map tmV)]]) = some (c, ((.ptr Z 0) :: U::U::U::(.ptr h.length 0) :: (.ptr (h.length + 1) 0) :: (a6) :: .unk :: .unk :: (a9) :: U::U::U::U::U::U::U::U::U::U::U::U::U::U::U::U::U::U::U::U::U::U::U::U::U::U::U::U::U::U::U::U::U::U::U::U::U::U::U::U::U::U::U::U::U::U::U::U::U::U::U::U::U::U::U::U::U::U::U::U::U::U::U::U::U::U::U::U::U::U::U::U::U::U::U::U::U::U::U::U::U::U::U::U::U::U::U::U::U::U::U::U::U::U::U::U::U::U::U::U::U::U::U::U::U::U::U::U::U::U::U::U::U::U::U::U::U::U::U::U::U::U::U::U::[] : List AV), h.set K (.arr 5 (bs2.map eV) 0) ++ [.vars [.int k, .str (txt p), .str (txt m), .int n, .slc false (l.map tmV)], .vars [.int k, .str (txt p), .str (txt m), .int n', .slc false (l'.map tmV)]]) ∧ ((c = .exit 0 ∧ KR N bs (l.zip l') bs2) ∨ (c = .ret ∧ a6 = .val (.bool false) ∧ (∃ rk', DW N bs2 rk') ∧ cnt N bs2 ≤ cnt N bs ∧ (cnt N bs2 = cnt N bs → bs2 = bs) ∧ ∀ th, DM N bs th → ¬ ∀ q ∈ l.zip l', inst th q.1 = inst th q.2))
  | [], done, he, bs1, I => by
    rw [List.append_nil] at he
    have hdl : done.length = l.length := by rw [← he, List.length_zip]; omega
    refine ⟨bs1, .val (.bool false), .int done.length, .exit 0, ?_, .inl ⟨rfl, by rw [he]; exact I⟩⟩
    have hle : (h.set K (.arr 5 (bs1.map eV) 0)).length = h.length := List.length_set
    have g0 : ∀ A B, hget (h.set K (.arr 5 (bs1.map eV) 0) ++ [A, B]) h.length = A := fun A B => sb_get0 A _ hle
    rw [hdl]
    rw [lrun_atC loop57_0]
    simp (implicitDefEqProofs := false) (disch := omega) only [go_sem, seval, rgn Tryd.f57 20 rfl, g0, List.length_map]
  | (c, d) :: rem, done, he, bs1, I => by
    have hlz : (l.zip l').length = l.length := by rw [List.length_zip]; omega
    have hdl : l.length = done.length + (rem.length + 1) := by rw [← hlz, he]; simp
    have hlt : (done.length : Int) < (l.length : Int) := by omega
    have htn : ((done.length : Int)).toNat = done.length := by omega
    have hz : (l.zip l')[done.length]? = some (c, d) := by rw [he]; simp
    rw [List.getElem?_zip_eq_some] at hz
    have hat : (l.map tmV)[done.length]? = some (tmV c) := by rw [List.getElem?_map, hz.1]; rfl
    have hat' : (l'.map tmV)[done.length]? = some (tmV d) := by rw [List.getElem?_map, hz.2]; rfl
    have hmem : (c, d) ∈ l.zip l' := by rw [he]; simp
    have hle : (h.set K (.arr 5 (bs1.map eV) 0)).length = h.length := List.length_set
    have g0 : ∀ A B, hget (h.set K (.arr 5 (bs1.map eV) 0) ++ [A, B]) h.length = A := fun A B => sb_get0 A _ hle
    have g1 : ∀ A B, hget (h.set K (.arr 5 (bs1.map eV) 0) ++ [A, B]) (h.length + 1) = B := fun A B => sb_get1 A B _ hle
    have hs1 : SV (h.set K (.arr 5 (bs1.map eV) 0)) Z K nb N bs1 := hs.set
    obtain ⟨res, bs2, e1, u1⟩ := hk bs1 I.dw I.cle I.ceq (c, d) hmem _ (hs1.app [.vars [.int k, .str (txt p), .str (txt m), .int n, .slc false (l.map tmV)], .vars [.int k, .str (txt p), .str (txt m), .int n', .slc false (l'.map tmV)]])
    have hKl := hlt_of hs1.2 (by simp)
    rw [List.set_append_left _ _ hKl, List.set_set] at e1
    dsimp only at e1 u1
    have hcle : cnt N bs2 ≤ cnt N bs := Nat.le_trans u1.cle I.cle
    have hceq : cnt N bs2 = cnt N bs → bs2 = bs := fun e => by
      have h1 := u1.cle
      have h2 := I.cle
      have h3 := I.ceq (by omega)
      rw [u1.ceq (by omega), h3]
    cases res with
    | false =>
      refine ⟨bs2, .val (.bool false), .int done.length, .ret, ?_, .inr ⟨rfl, rfl, u1.dw, hcle, hceq, fun th hth hall => ?_⟩⟩
      · obtain ⟨k1, p1, m1, n1, l1⟩ := c
        obtain ⟨k2, p2, m2, n2, l2⟩ := d
        rw [tmV_mk] at hat hat'
        rw [tmV_mk, tmV_mk] at e1
        rw [lrun_atC loop57_0]
        simp (implicitDefEqProofs := false) (disch := omega) only [go_sem, seval, rgn Tryd.f57 20 rfl, rgn Tryd.f57 22 rfl, rgn Tryd.f57 23 rfl, g0, g1, List.length_map, hlt, htn, hat, hat', e1, callD_57]
      · exact u1.no rfl th ((I.yes th).2 ⟨hth, fun q hq => hall q (by rw [he]; simp [hq])⟩) (hall (c, d) hmem)
    | true =>
      have I2 : KR N bs (done ++ [(c, d)]) bs2 := ⟨u1.dw, hcle, hceq, fun th => by
        rw [u1.yes rfl th, I.yes th]
        constructor
        · rintro ⟨⟨h1, h2⟩, h3⟩
          refine ⟨h1, fun q hq => ?_⟩
          rcases List.mem_append.1 hq with hq | hq
          · exact h2 q hq
          · rw [List.mem_singleton.1 hq]; exact h3
        · rintro ⟨h1, h2⟩
          exact ⟨⟨h1, fun q hq => h2 q (by simp [hq])⟩, h2 (c, d) (by simp)⟩⟩
      obtain ⟨bs3, a6, a9, cc, f1, f2⟩ := kr_loop hs k p m n n' l l' hl hll hk rem (done ++ [(c, d)]) (by rw [he]; simp) bs2 I2
      refine ⟨bs3, a6, a9, cc, ?_, f2⟩
      have hlen : (done ++ [(c, d)]).length = done.length + 1 := by simp
      rw [hlen] at f1
      rw [← f1]
      obtain ⟨k1, p1, m1, n1, l1⟩ := c
      obtain ⟨k2, p2, m2, n2, l2⟩ := d
      rw [tmV_mk] at hat hat'
      rw [tmV_mk, tmV_mk] at e1
      rw [lrun_atC loop57_0]
      simp (implicitDefEqProofs := false) (disch := omega) only [go_sem, seval, rgn Tryd.f57 20 rfl, rgn Tryd.f57 22 rfl, rgn Tryd.f57 21 rfl, g0, g1, List.length_map, hlt, htn, hat, hat', e1, callD_57]
      all_goals (congr 1 <;> simp only [List.cons.injEq, AV.val.injEq, Value.int.injEq, Value.bool.injEq, true_and, and_true] <;> omega)
end
end Go.Proofs.YtncjbccjpneoiaaDoor
