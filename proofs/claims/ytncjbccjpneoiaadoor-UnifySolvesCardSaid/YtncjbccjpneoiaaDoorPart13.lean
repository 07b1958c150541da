/- Parts of the proof, each with its own heading: told: a type as a term. Vars of types; a list of variables. varTerms; Vars of a list of one's own. solve: the equations are taken in. Chapter 13: alive. The law's guards: few, equations. solve: a round of its first loop. solve: its two loops, and as a whole. solve as a whole. of. Solve. -/
import Derived.Test.YtncjbccjpneoiaaDoorPart12
set_option linter.unusedSimpArgs false
set_option linter.unusedVariables false
namespace Go.Proofs.YtncjbccjpneoiaaDoor
open Go Go.Ab Go.Proofs
open AV renaming unk → U
open Bool renaming false → J, true → O
set_option maxRecDepth 100000
set_option linter.unusedSimpArgs false
set_option linter.unusedVariables false
theorem exp_agg5 {H : AHeap} {v : AV} {us : List Tm} {ids : List Nat} (a b c d : Value) (hn : solid v = false) (e : exp1 H 59 v = some (.slc false (us.map tmV), ids)) : exp1 H expDepth (.agg [.val a, .val b, .val c, .val d, v]) = some (.agg [.val a, .val b, .val c, .val d, .slc false (us.map tmV)], ids) := by
  have hb : ∀ a : Value, exp1 H (58 + 1) (.val a) = some (.val a, []) := fun a => rfl
  show exp1 H (58 + 1 + 1) _ = _
  rw [exp1]
  have e : exp1 H (58 + 1) v = some (.slc false (us.map tmV), ids) := e
  simp only [solid, solidL, hn, Bool.false_and, Bool.and_false, Bool.true_and, if_false, Bool.false_eq_true, expL, hb, e, List.nil_append, List.append_nil, Option.map_some]
theorem headOk_tm (l : List Tm) : headOk 5 (l.map tmV) = true := by
  cases l with
  | nil => rfl
  | cons t r => obtain ⟨k, p, m, n, ks⟩ := t; rw [List.map_cons, tmV_mk]; rfl
theorem b31 : ((3 : Nat) == 1) = false := rfl
theorem solid_tmL : ∀ us : List Tm, solidL (us.map tmV) = true := fun us => by rw [← tmsV_eq]; exact solid_tms us
theorem call56 : callable Tryd.prog 56 = true := by kernel_rfl
def KT (h : AHeap) (n0 : Nat) (kt : AV) (l : List Tm) : Prop := (l = [] ∧ kt = .slc true []) ∨ ∃ K g, kt = .arr K 0 l.length g 5 ∧ hget h K = .arr 5 (l.map tmV) g ∧ n0 ≤ K
theorem kt_add {h : AHeap} {n0 : Nat} {kt : AV} {l : List Tm} (hk : KT h n0 kt l) (hl : l.length ≤ 100000) (h0 : n0 ≤ h.length) (t : Tm) : ∃ v H, (∀ z, appT (some (5, 72, z)) h kt (some [tmV t]) = some (v, H)) ∧ KT H n0 v (l ++ [t]) ∧ (h.length ≤ H.length ∧ ∀ j o, hget h j = o → o ≠ .dead → (n0 ≤ j → ∀ b c, o ≠ .arr 5 b c) → hget H j = o) ∧ fits 1 v = true ∧ v.cells = [v] := by
  have hh : headOk 5 [tmV t] = true := headOk_tm [t]
  rcases hk with ⟨rfl, rfl⟩ | ⟨K, g, rfl, h2, h3⟩
  · refine ⟨_, _, fun z => appT_slc _ _ _ _ _ hh rfl (by simp) (by simp), .inr ⟨h.length, 0, by simp, by rw [hget_last]; rfl, h0⟩, ⟨by simp, fun j o e h1 _ => by rw [hget_app _ (hlt_of e h1)]; exact e⟩, rfl, rfl⟩
  · refine ⟨_, _, fun z => appT_arr _ _ _ _ _ _ _ _ h2 (by simp) hh (by simp; omega), .inr ⟨K, g + 1, by simp, by rw [hget_set_eq (hlt_of h2 (by simp))]; simp, h3⟩, ⟨by simp, fun j o e h1 h4 => ?_⟩, rfl, rfl⟩
    rw [hget_set_ne (by rintro rfl; rw [h2] at e; exact h4 h3 _ _ e.symm)]; exact e
def Kt (S b8 n0 : Nat) (h H : AHeap) : Prop := h.length ≤ H.length ∧ ∀ j o, hget h j = o → o ≠ .dead → j ≠ S → j ≠ b8 → (∀ b c, o ≠ .arr 7 b c) → (n0 ≤ j → ∀ b c, o ≠ .arr 5 b c) → hget H j = o
theorem Kt.refl (S b8 n0 : Nat) (h : AHeap) : Kt S b8 n0 h h := ⟨Nat.le_refl _, fun _ _ e _ _ _ _ _ => e⟩
theorem Kt.trans {S b8 n0 : Nat} {a b c : AHeap} (x : Kt S b8 n0 a b) (y : Kt S b8 n0 b c) : Kt S b8 n0 a c := ⟨Nat.le_trans x.1 y.1, fun j o e h1 h2 h3 h4 h5 => y.2 j o (x.2 j o e h1 h2 h3 h4 h5) h1 h2 h3 h4 h5⟩
theorem Kf.kt {S : Nat} {a b : AHeap} (b8 n0 : Nat) (x : Kf S a b) : Kt S b8 n0 a b := ⟨x.1, fun j o e h1 h2 _ h4 _ => x.2 j o e h1 h2 h4⟩
section
variable {S B V Zs : Nat} {b w : Int} {fl : Bool} {sh : List Sh} {rt r : Nat → Nat} {vis : Nat → Bool} {P : SMap} {nb : Bool} {N : List (List UInt8)} {T : Nat → Tm}
def ToOk (S B V Zs : Nat) (b w : Int) (fl : Bool) (sh : List Sh) (rt r : Nat → Nat) (vis : Nat → Bool) (P : SMap) (nb : Bool) (N : List (List UInt8)) (T : Nat → Tm) (i : Nat) : Prop := ∀ (h : AHeap) (ns : List Nd), B ≤ h.length → SP h S ns b fl w → NR h S B sh rt r vis w ns → MS h V P → SO h Zs S V (.slc nb (N.map sV)) →
  ∃ H ns', doCall md (aval Tryd.prog md fg) 50 [.ptr S 0, .int (i : Nat), .clo 56 [.ptr Zs 0] []] h = some (tmV (T i), H) ∧ SP H S ns' b fl w ∧ NR H S B sh rt r vis w ns' ∧ Kf S h H
theorem KB.kt {h H : AHeap} {S B b8 n0 : Nat} (hB : B ≤ n0) (h8 : n0 ≤ b8) (k : Kt S b8 n0 h H) {v : AV} {kl : List Int} (x : KB h S B v kl) : KB H S B v kl := by
  rcases x with x | ⟨K, g, e1, e2, e3, e4⟩
  · exact .inl x
  · exact .inr ⟨K, g, e1, k.2 K _ e2 (by simp) e3 (by omega) (by simp) (by simp), e3, e4⟩
theorem NR.kt {h H : AHeap} {S B b8 n0 : Nat} (hB : B ≤ n0) (h8 : n0 ≤ b8) (k : Kt S b8 n0 h H) {sh : List Sh} {rt r : Nat → Nat} {vis : Nat → Bool} {w : Int} {ns : List Nd} (x : NR h S B sh rt r vis w ns) : NR H S B sh rt r vis w ns :=
  ⟨x.1, fun i n s h1 h2 => by
    have y := x.2 i n s h1 h2
    exact ⟨y.kind, y.pkg, y.name, y.kids.kt hB h8 k, y.to, y.mark, y.le⟩⟩
theorem sp_keep {h H : AHeap} {S : Nat} {ns : List Nd} {b : Int} {f : Bool} {w : Int} (hs : SP h S ns b f w) (h1 : hget H S = hget h S) (h2 : ∀ A es g, hget h A = .arr 7 es g → hget H A = .arr 7 es g) : SP H S ns b f w := by
  obtain ⟨nv, z1, z2⟩ := hs
  refine ⟨nv, by rw [h1]; exact z1, ?_⟩
  rcases z2 with z2 | ⟨A', g', z2, z3⟩
  · exact .inl z2
  · exact .inr ⟨A', g', z2, h2 _ _ _ z3⟩
set_option maxHeartbeats 8000000 in
theorem told_loop (hVS : V ≠ S) (hZS : Zs ≠ S) {n0 b6 b8 : Nat} (hSn : S < n0) (hVn : V < n0) (hZn : Zs < n0) (hB : B ≤ n0) (h68 : n0 ≤ b8) {kv : AV} {kl : List Nat} (hkl : kl.length ≤ 90000) (c0 c1 c2 c3 : AV) : ∀ (rem done : List Nat), (∀ k ∈ rem, ToOk S B V Zs b w fl sh rt r vis P nb N T k) → kl = done ++ rem → ∀ (h : AHeap) (ns : List Nd) (kt : AV), SP h S ns b fl w → NR h S B sh rt r vis w ns → MS h V P → SO h Zs S V (.slc nb (N.map sV)) → KB h S B kv (ints kl) → n0 ≤ h.length → hget h b8 = .vars [c0, c1, c2, c3, kt] → KT h n0 kt (done.map T) →
    ∃ H ns' kt', lrun Tryd.prog md fg (fg 50) (loopOf Tryd.f50 1) (fg 50 2) (((.ptr S 0) :: .unk :: (.clo 56 [.ptr Zs 0] []) :: U::U::U::(.ptr b6 0) :: .unk :: (.ptr b8 0) :: U::U::U::U::U::U::U::U::U::U::U::U::U::U::U::U::U::U::U::U::U::U::U::U::U::U::U::U::U::U::U::U::U::U::(kv) :: (.int kl.length) :: (.int done.length) :: U::U::U::U::U::U::U::U::U::U::U::U::U::U::[] : List AV)) h = some (.exit 1, ((.ptr S 0) :: .unk :: (.clo 56 [.ptr Zs 0] []) :: U::U::U::(.ptr b6 0) :: .unk :: (.ptr b8 0) :: U::U::U::U::U::U::U::U::U::U::U::U::U::U::U::U::U::U::U::U::U::U::U::U::U::U::U::U::U::U::U::U::U::U::(kv) :: (.int kl.length) :: (.int kl.length) :: U::U::U::U::U::U::U::U::U::U::U::U::U::U::[] : List AV), H) ∧ SP H S ns' b fl w ∧ NR H S B sh rt r vis w ns' ∧ Kt S b8 n0 h H ∧ hget H b8 = .vars [c0, c1, c2, c3, kt'] ∧ KT H n0 kt' (kl.map T)
  | [], done, hih, he, h, ns, kt, hs, hn, hm, hz, hkb, hl, h8, hkt => by
    rw [List.append_nil] at he
    subst he
    refine ⟨h, ns, kt, ?_, hs, hn, Kt.refl _ _ _ _, h8, hkt⟩
    rw [lrun_atC loop50_1]
    simp (implicitDefEqProofs := false) (disch := omega) only [go_sem, seval, rgn Tryd.f50 10 rfl]
  | k :: rem, done, hih, he, h, ns, kt, hs, hn, hm, hz, hkb, hl, h8, hkt => by
    obtain ⟨H1, ns1, d1, d2, d3, d4⟩ := hih k (List.mem_cons_self ..) h ns (by omega) hs hn hm hz
    have h8' : hget H1 b8 = .vars [c0, c1, c2, c3, kt] := d4.2 _ _ h8 (by simp) (by omega) (by simp)
    have hkt1 : KT H1 n0 kt (done.map T) := by
      rcases hkt with hkt | ⟨K, g, e1, e2, e3⟩
      · exact .inl hkt
      · exact .inr ⟨K, g, e1, d4.2 K _ e2 (by simp) (by omega) (by simp), e3⟩
    have hll : kl.length = done.length + (rem.length + 1) := by rw [he]; simp
    have hl1 := d4.1
    obtain ⟨v, H2, x1, x2, x3, x4, x5⟩ := kt_add hkt1 (by rw [List.length_map]; omega) (by omega) (T k)
    have h8l := hlt_of h8' (by simp)
    have h82 : hget H2 b8 = .vars [c0, c1, c2, c3, kt] := x3.2 _ _ h8' (by simp) (by simp)
    have kt2 : Kt S b8 n0 h (H2.set b8 (.vars [c0, c1, c2, c3, v])) := ⟨by rw [List.length_set]; have := x3.1; omega, fun j o e z1 z2 z3 z4 z5 => by
      rw [hget_set_ne (fun q => z3 q.symm)]
      exact x3.2 j o (d4.2 j o e z1 z2 z4) z1 z5⟩
    have s2 : SP (H2.set b8 (.vars [c0, c1, c2, c3, v])) S ns1 b fl w := sp_keep d2 (by
        rw [hget_set_ne (by omega)]
        obtain ⟨nv, q1, _⟩ := d2
        rw [q1]; exact x3.2 S _ q1 (by simp) (by simp)) (fun A es g q => by
        rw [hget_set_ne (by rintro rfl; rw [h8'] at q; cases q)]
        exact x3.2 A _ q (by simp) (by simp))
    have kt12 : Kt S b8 n0 H1 (H2.set b8 (.vars [c0, c1, c2, c3, v])) := ⟨by rw [List.length_set]; exact x3.1, fun j o e z1 z2 z3 z4 z5 => by
      rw [hget_set_ne (fun q => z3 q.symm)]; exact x3.2 j o e z1 z5⟩
    have hx2 : KT (H2.set b8 (.vars [c0, c1, c2, c3, v])) n0 v ((done ++ [k]).map T) := by
      rw [List.map_append, List.map_cons, List.map_nil]
      rcases x2 with ⟨q, _⟩ | ⟨K, g, e1, e2, e3⟩
      · simp at q
      · exact .inr ⟨K, g, e1, by rw [hget_set_ne (by rintro rfl; rw [h82] at e2; cases e2)]; exact e2, e3⟩
    have hm2 : MS (H2.set b8 (.vars [c0, c1, c2, c3, v])) V P := kt2.2 V _ hm (by simp) hVS (by omega) (by simp) (by simp)
    have hz2 : SO (H2.set b8 (.vars [c0, c1, c2, c3, v])) Zs S V (.slc nb (N.map sV)) := kt2.2 Zs _ hz (by simp) hZS (by omega) (by simp) (by simp)
    obtain ⟨H, ns', kt', e1, e2, e3, e4, e5, e6⟩ := told_loop hVS hZS hSn hVn hZn hB h68 hkl c0 c1 c2 c3 rem (done ++ [k]) (fun x hx => hih x (List.mem_cons_of_mem _ hx)) (by rw [he]; simp) _ ns1 v s2 (d3.kt hB h68 kt12) hm2 hz2 (hkb.kt hB h68 kt2) (by have := kt2.1; omega) (hget_set_eq (by have := x3.1; omega)) hx2
    refine ⟨H, ns', kt', ?_, e2, e3, kt2.trans e4, e5, e6⟩
    have hlen : (done ++ [k]).length = done.length + 1 := by simp
    rw [hlen] at e1
    rw [← e1]
    rcases hkb with ⟨_, hkb2⟩ | ⟨K, g, rfl, hK, hKS, hKB⟩
    · have := congrArg List.length hkb2; rw [he] at this; simp [ints] at this
    have hlt : (done.length : Int) < (kl.length : Int) := by omega
    have htn : ((done.length : Int)).toNat = done.length := by omega
    have hat : ((ints kl).map AV.int)[done.length]? = some (.int (k : Int)) := by rw [he]; simp [ints]
    generalize hTk : T k = tk at *
    obtain ⟨q1, q2, q3, q4, q5⟩ := tk
    rw [tmV_mk] at d1 x1
    rw [lrun_atC loop50_1]
    simp (implicitDefEqProofs := false) (disch := omega) only [go_sem, seval, rgn Tryd.f50 10 rfl, rgn Tryd.f50 11 rfl, rgn Tryd.f50 12 rfl, rgn Tryd.f50 13 rfl, hlt, htn, hK, hat, ints_len, h8, h8', h82, d1, x1, x4, x5, thenDraw_append, thenDraw_store, md50, b31, Bool.false_or, beq_self_eq_true, Bool.true_or]
    all_goals (congr 1 <;> simp only [List.cons.injEq, AV.val.injEq, Value.int.injEq, Value.bool.injEq, true_and, and_true] <;> omega)
set_option maxHeartbeats 8000000 in
theorem told_step (ok : Ok sh rt r) (hT : Mod sh rt T) (hTv : ∀ (v : Nat) (s : Sh), sh[v]? = some s → s.kind = 1 → rt v = v → T v = ⟨1, [], fstN P rt v N, 0, []⟩) (hkc : kc sh ≤ 90000) (hVS : V ≠ S) (hZS : Zs ≠ S) (hN : N.length ≤ 90000) (hNv : ∀ n ∈ N, vmap P n < sh.length) {i : Nat} (hi : i < sh.length) (hih : ∀ (s : Sh), sh[rt i]? = some s → ∀ k ∈ s.kids, ToOk S B V Zs b w fl sh rt r vis P nb N T k) : ToOk S B V Zs b w fl sh rt r vis P nb N T i := by
  intro h ns hB hs hn hm hz
  have hS : S < h.length := by obtain ⟨_, q, _⟩ := hs; exact hlt_of q (by simp)
  have hVl := hlt_of hm (by simp)
  have hZl := hlt_of hz (by simp)
  have k0 := kf_app S h [AObj.vars [.val (.int .i64 0), .val (.string ⟨#[]⟩), .val (.string ⟨#[]⟩), .val (.int .i64 0), .slc true []]]
  obtain ⟨H1, ns1, c1, c2, c3, c4, c5⟩ := find_c hi (sp_app hs [AObj.vars [.val (.int .i64 0), .val (.string ⟨#[]⟩), .val (.string ⟨#[]⟩), .val (.int .i64 0), .slc true []]]) (hn.kf k0)
  simp only [List.length_append, List.length_cons, List.length_nil] at c5
  have hTi := hT.1 i hi
  obtain ⟨n, s, hx, hsx, q⟩ := c3.at (ok.lt i hi)
  obtain ⟨A, g, h1, h2⟩ := sp_arr c2 (ne_of_at hx)
  have hlt := lt_of_at hx
  have ht : (((rt i : Nat) : Int)).toNat = rt i := by omega
  have hk5 : n.kind ≠ 5 := by rw [q.kind]; exact ok.rig _ s hsx
  have k01 := k0.trans c4
  have hb6 : hget H1 h.length = .vars [.val (.int .i64 0), .val (.string ⟨#[]⟩), .val (.string ⟨#[]⟩), .val (.int .i64 0), .slc true []] := c4.2 _ _ hget_last (by simp) (by omega) (by simp)
  by_cases hk : s.kind = 1
  · have hk1 : n.kind = 1 := by rw [q.kind]; exact hk
    obtain ⟨k, p, m, ks, l, t, mk⟩ := n
    dsimp only at hk1 hk5
    subst hk1
    have k1 := kf_app S H1 [AObj.vars [.int 1, .str (txt p), .str (txt m), ks, .int l, .int t, .int mk]]
    have kk := k01.trans k1
    obtain ⟨H2, ns2, d1, d2, d3, d4, d5⟩ := first_c (N := N) (nb := nb) (id := rt i) hVS hZS (by omega) hNv (sp_app c2 [AObj.vars [.int 1, .str (txt p), .str (txt m), ks, .int l, .int t, .int mk]]) (c3.kf k1) (kk.2 V _ hm (by simp) hVS (by simp)) (kk.2 Zs _ hz (by simp) hZS (by simp))
    have hb62 : hget H2 h.length = .vars [.val (.int .i64 0), .val (.string ⟨#[]⟩), .val (.string ⟨#[]⟩), .val (.int .i64 0), .slc true []] := (k1.trans d4).2 _ _ hb6 (by simp) (by omega) (by simp)
    have hb6l := hlt_of hb62 (by simp)
    have hall := k01.trans (k1.trans d4)
    have hTv' := hTv _ s hsx hk (ok.idem i hi)
    have e : aval Tryd.prog md fg 50 [.ptr S 0, .int (i : Nat), .clo 56 [.ptr Zs 0] []] h = some (.agg [.int 1, .val (.string ⟨#[]⟩), .str (txt (fstN P rt (rt i) N)), .val (.int .i64 0), .slc true []], H2.set h.length (.vars [.int 1, .val (.string ⟨#[]⟩), .str (txt (fstN P rt (rt i) N)), .val (.int .i64 0), .slc true []])) := by
      rw [aval_of Tryd.func50 body50 Tryd.results50 Tryd.ntmps50 ok50]
      simp (implicitDefEqProofs := false) (disch := first | omega | exact List.length_set) only [go_sem, seval, rgn Tryd.f50 0 rfl, rgn Tryd.f50 1 rfl, rgn Tryd.f50 2 rfl, rgn Tryd.f50 3 rfl, rgn Tryd.f50 4 rfl, rgn Tryd.f50 5 rfl, c1, h1, h2, List.getElem?_map, ht, hx, Option.map_some, ndV_mk, hget_last, set_last, hget_app, d1, hb62, hb6, hget_set_eq, call56, if_true, aresults, tupOf, List.nil_append, List.cons_append, List.append_nil]
    have s2 : SP (H2.set h.length (.vars [.int 1, .val (.string ⟨#[]⟩), .str (txt (fstN P rt (rt i) N)), .val (.int .i64 0), .slc true []])) S ns2 b fl w := sp_keep d2 (hget_set_ne (by omega)) (fun A es g q => by rw [hget_set_ne (by rintro rfl; rw [hb62] at q; cases q)]; exact q)
    obtain ⟨H, f1, f2, f3, f4⟩ := doCall_rate5 md50 e hs s2 (by rw [List.length_set]; exact hall.1) (exp_agg5 (us := []) _ _ _ _ rfl rfl) (.inl rfl)
    refine ⟨H, ns2, ?_, f2, d3.agree hB (fun j hj => by rw [f4 j hj, hget_set_ne (by omega)]), ⟨f3, fun j o e z1 z2 z3 => by
      have := hlt_of e z1
      rw [f4 j this, hget_set_ne (by omega)]
      exact hall.2 j o e z1 z2 z3⟩⟩
    rw [f1, hTi, hTv', tmV_mk]; rfl
  · have hk1 : ¬ n.kind = 1 := by rw [q.kind]; exact hk
    have hkk := q.kind
    have hpp := q.pkg
    have hmm := q.name
    have hkb := q.kids
    have hlen := kb_len q.kids
    rw [ints_len] at hlen
    obtain ⟨k, p, m, ks, l, t, mk⟩ := n
    dsimp only at hk1 hk5 hkk hpp hmm hkb hlen
    have hkl : s.kids.length ≤ 90000 := by
      have : ∀ (l : List Sh) (j : Nat) (s : Sh), l[j]? = some s → s.kids.length ≤ kc l := fun l => by
        induction l with
        | nil => intro j s h; simp at h
        | cons a r ih =>
          intro j s h
          have e : kc (a :: r) = a.kids.length + kc r := by simp [kc]
          rw [e]
          cases j with
          | zero => simp at h; subst h; omega
          | succ j => have := ih j s (by simpa using h); omega
      have := this sh _ s hsx
      omega
    have k1 := kf_app S H1 [AObj.vars [.int k, .str (txt p), .str (txt m), ks, .int l, .int t, .int mk], AObj.vars [.int k, .str (txt p), .str (txt m), .val (.int .i64 0), .slc true []]]
    have kk := k01.trans k1
    have hb61 : hget (H1 ++ [AObj.vars [.int k, .str (txt p), .str (txt m), ks, .int l, .int t, .int mk], AObj.vars [.int k, .str (txt p), .str (txt m), .val (.int .i64 0), .slc true []]]) h.length = _ := (hget_app _ (by omega)).trans hb6
    obtain ⟨H2, ns2, kt', d1, d2, d3, d4, d5, d6⟩ := told_loop (n0 := h.length) (b6 := h.length) (b8 := h.length + 2) (b := b) (w := w) (fl := fl) (sh := sh) (rt := rt) (r := r) (vis := vis) (P := P) (nb := nb) (N := N) (T := T) hVS hZS hS hVl hZl hB (by omega) hkl (.int k) (.str (txt p)) (.str (txt m)) (.val (.int .i64 0)) s.kids [] (hih s hsx) rfl (H1 ++ [AObj.vars [.int k, .str (txt p), .str (txt m), ks, .int l, .int t, .int mk], AObj.vars [.int k, .str (txt p), .str (txt m), .val (.int .i64 0), .slc true []]]) ns1 (.slc true []) (sp_app c2 _) (c3.kf k1) (kk.2 V _ hm (by simp) hVS (by simp)) (kk.2 Zs _ hz (by simp) hZS (by simp)) (hkb.kf k1) (by simp; omega) (by
      have : h.length + 2 = H1.length + 1 := by omega
      rw [this]; exact sb_get1 _ _ _ rfl) (.inl ⟨rfl, rfl⟩)
    have hb62 : hget H2 h.length = .vars [.val (.int .i64 0), .val (.string ⟨#[]⟩), .val (.string ⟨#[]⟩), .val (.int .i64 0), .slc true []] := d4.2 _ _ hb61 (by simp) (by omega) (by omega) (by simp) (by simp)
    have hb6l := hlt_of hb62 (by simp)
    have e : aval Tryd.prog md fg 50 [.ptr S 0, .int (i : Nat), .clo 56 [.ptr Zs 0] []] h = some (.agg [.int k, .str (txt p), .str (txt m), .val (.int .i64 0), kt'], H2.set h.length (.vars [.int k, .str (txt p), .str (txt m), .val (.int .i64 0), kt'])) := by
      simp only [List.length_nil, Int.natCast_zero] at d1
      have e2 : h.length + 2 = H1.length + 1 := by omega
      rw [e2] at d1 d5
      have a1 : ∀ a b : AObj, H1 ++ [a] ++ [b] = H1 ++ [a, b] := fun a b => by simp
      have a2 : ∀ a : AObj, (H1 ++ [a]).length = H1.length + 1 := fun a => by simp
      rw [aval_of Tryd.func50 body50 Tryd.results50 Tryd.ntmps50 ok50]
      simp (implicitDefEqProofs := false) (disch := first | omega | exact List.length_set) only [go_sem, seval, rgn Tryd.f50 0 rfl, rgn Tryd.f50 1 rfl, rgn Tryd.f50 2 rfl, rgn Tryd.f50 3 rfl, rgn Tryd.f50 4 rfl, rgn Tryd.f50 6 rfl, rgn Tryd.f50 8 rfl, rgn Tryd.f50 9 rfl, rgn Tryd.f50 14 rfl, c1, h1, h2, List.getElem?_map, ht, hx, Option.map_some, ndV_mk, hget_last, set_last, hget_app, sb_get0, sb_get1, hb62, hb6, hget_set_eq, aresults, tupOf, List.append_assoc, List.nil_append, List.cons_append, List.append_nil, hk1, hk5, hlen, d1, d5, List.length_append, List.length_cons, List.length_nil, sb_set1]
    have kf : h.length ≤ H2.length := by have := d4.1; simp at this; omega
    have s2 : SP (H2.set h.length (.vars [.int k, .str (txt p), .str (txt m), .val (.int .i64 0), kt'])) S ns2 b fl w := sp_keep d2 (hget_set_ne (by omega)) (fun A es g q => by rw [hget_set_ne (by rintro rfl; rw [hb62] at q; cases q)]; exact q)
    have hx : solid kt' = false ∧ ∃ ids, exp1 (H2.set h.length (.vars [.int k, .str (txt p), .str (txt m), .val (.int .i64 0), kt'])) 59 kt' = some (.slc false ((s.kids.map T).map tmV), ids) ∧ (ids = [] ∨ ∃ K es g, ids = [K] ∧ h.length ≤ K ∧ hget (H2.set h.length (.vars [.int k, .str (txt p), .str (txt m), .val (.int .i64 0), kt'])) K = .arr 5 es g) := by
      rcases d6 with ⟨e1, e2⟩ | ⟨K, g, e1, e2, e3⟩
      · rw [e1, e2]; exact ⟨rfl, [], rfl, .inl rfl⟩
      · have hg : hget (H2.set h.length (.vars [.int k, .str (txt p), .str (txt m), .val (.int .i64 0), kt'])) K = .arr 5 ((s.kids.map T).map tmV) g := by rw [hget_set_ne (by rintro rfl; rw [hb62] at e2; cases e2)]; exact e2
        have := arr_exp hg (solid_tmL _) 58
        rw [e1] at hg ⊢
        refine ⟨rfl, [K], ?_, .inr ⟨K, _, g, rfl, e3, hg⟩⟩
        rw [List.length_map (f := tmV), e1] at this
        exact this
    obtain ⟨x1, ids, x2, x3⟩ := hx
    obtain ⟨H, f1, f2, f3, f4⟩ := doCall_rate5 md50 e hs s2 (by rw [List.length_set]; exact kf) (exp_agg5 _ _ _ _ x1 x2) x3
    have kall : ∀ j o, hget h j = o → o ≠ .dead → j ≠ S → (∀ b c, o ≠ .arr 7 b c) → hget H2 j = o := fun j o e z1 z2 z3 => by
      have := hlt_of e z1
      exact d4.2 j o (kk.2 j o e z1 z2 z3) z1 z2 (by omega) z3 (by omega)
    refine ⟨H, ns2, ?_, f2, d3.agree hB (fun j hj => by rw [f4 j hj, hget_set_ne (by omega)]), ⟨f3, fun j o e z1 z2 z3 => by
      have := hlt_of e z1
      rw [f4 j this, hget_set_ne (by omega)]
      exact kall j o e z1 z2 z3⟩⟩
    rw [f1, hTi, hT.2 _ s hsx hk, tmV_mk, hkk, hpp, hmm]
theorem told_all (ok : Ok sh rt r) (hT : Mod sh rt T) (hTv : ∀ (v : Nat) (s : Sh), sh[v]? = some s → s.kind = 1 → rt v = v → T v = ⟨1, [], fstN P rt v N, 0, []⟩) (hkc : kc sh ≤ 90000) (hVS : V ≠ S) (hZS : Zs ≠ S) (hN : N.length ≤ 90000) (hNv : ∀ n ∈ N, vmap P n < sh.length) : ∀ (M i : Nat), r i < M → i < sh.length → ToOk S B V Zs b w fl sh rt r vis P nb N T i
  | 0, i, h, _ => by omega
  | M + 1, i, h, hi => told_step ok hT hTv hkc hVS hZS hN hNv hi fun s hs k hk => by
    obtain ⟨a, b⟩ := ok.kid _ s k hs hk
    have := ok.le i hi
    exact told_all ok hT hTv hkc hVS hZS hN hNv M k (by omega) a
end
theorem fits_clo (f : FuncId) (a b : List AV) : fits 1 (.clo f a b) = true := rfl
theorem cells_clo (f : FuncId) (a b : List AV) : (AV.clo f a b).cells = [.clo f a b] := rfl
theorem vs_loop (ks : List Tm) (hl : ks.length ≤ 9223372036854775807) (hV : ∀ t ∈ ks, VT t) : ∀ (r : List Tm) (i : Nat) (h : AHeap) (out : List (List UInt8)), ks.drop i = r → i ≤ ks.length → WN h 0 out → hget h 1 = walkV → out.length + tszs r ≤ 100000 → ∃ h',
    lrun Tryd.prog md fg (fg 53) (loopOf Tryd.f53 0) (fg 53 1) ([.unk, .unk, .unk, .ptr 0 0, .ptr 1 0, .unk, .unk, .unk, .slc false (ks.map tmV), .int ks.length, .int i, .unk, .unk, .unk, .unk, .unk, .unk, .unk, .unk]) h = some (.exit 0, [.unk, .unk, .unk, .ptr 0 0, .ptr 1 0, .unk, .unk, .unk, .slc false (ks.map tmV), .int ks.length, .int ks.length, .unk, .unk, .unk, .unk, .unk, .unk, .unk, .unk], h') ∧ WN h' 0 (vsL out r) ∧ FrN 0 h h'
  | [], i, h, out, hdr, hi, hw, h1, hn => by
    have : i = ks.length := by have := congrArg List.length hdr; simp at this; omega
    subst this
    refine ⟨h, ?_, by rw [vsL]; exact hw, FrN.refl _ _⟩
    rw [lrun_atC loop53_0]
    simp (implicitDefEqProofs := false) (disch := omega) only [go_sem, seval, rgn Tryd.f53 5 rfl]
  | ⟨k2, p2, m2, n2, l2⟩ :: r, i, h, out, hdr, hi, hw, h1, hn => by
    have hx : ks[i]? = some ⟨k2, p2, m2, n2, l2⟩ := by have := congrArg (·[0]?) hdr; simpa using this
    have hlt : i < ks.length := (List.getElem?_eq_some_iff.1 hx).1
    have hd' : ks.drop (i + 1) = r := by rw [← List.tail_drop, hdr]; rfl
    have ht : ((i : Int)).toNat = i := by omega
    simp only [tszs] at hn
    have hvl := vsT_len ⟨k2, p2, m2, n2, l2⟩ out
    have g1 : ∀ l, hget (h ++ l) 1 = walkV := fun l => by rw [hget_app l (hlt_of h1 (by simp))]; exact h1
    obtain ⟨h2, e2, w2, f2⟩ := hV _ (List.mem_of_getElem? hx) (h ++ [.vars [.int k2, .str (txt p2), .str (txt m2), .int n2, .slc false (l2.map tmV)]]) out (wn_app h _ hw) (g1 _) (by omega)
    rw [tmV_mk] at e2
    obtain ⟨h3, e3, w3, f3⟩ := vs_loop ks hl hV r (i + 1) h2 (vsT out ⟨k2, p2, m2, n2, l2⟩) hd' (by omega) w2 (f2.2 1 _ (by decide) (g1 _)) (by omega)
    refine ⟨h3, ?_, by rw [vsL]; exact w3, (frN_app 0 h _).trans (f2.trans f3)⟩
    rw [← e3]
    rw [lrun_atC loop53_0]
    simp (implicitDefEqProofs := false) (disch := first | omega | exact List.length_set) only [go_sem, seval, rgn Tryd.f53 5 rfl, rgn Tryd.f53 6 rfl, rgn Tryd.f53 7 rfl, rgn Tryd.f53 8 rfl, List.getElem?_map, ht, hx, Option.map_some, tmV_mk, hget_last, set_last, g1, e2, List.nil_append, List.cons_append, callable_69]
    all_goals (congr 1 <;> simp only [List.cons.injEq, AV.val.injEq, Value.int.injEq, Value.bool.injEq, true_and, and_true] <;> omega)
set_option maxHeartbeats 4000000 in
theorem varsL_p (ts : List Tm) (ht : Tm.fits ts) (hl : ts.length ≤ 9223372036854775807) (hz : tszs ts ≤ 100000) : pcall Tryd.prog md fg 53 [.slc false (ts.map tmV)] = some (.slc false ((vsL [] ts).map sV)) := by
  have e : ∃ bv h, aval Tryd.prog md fg 53 [.slc false (ts.map tmV)] [] = some (bv, h) ∧ WN h 0 (vsL [] ts) ∧ hget h 0 = .vars [bv] := by
    obtain ⟨h2, e2, w2, f2⟩ := vs_loop ts hl (VT_alls ts ht) ts 0 [.vars [.slc true []], walkV] [] (by simp) (by omega) ⟨by simp, .inl ⟨rfl, rfl⟩⟩ rfl (by simpa using hz)
    have hb : ∃ bv, hget h2 0 = .vars [bv] := by
      obtain ⟨_, ⟨hb, _⟩ | ⟨k, g, _, _, hb, _⟩⟩ := w2
      · exact ⟨_, hb⟩
      · exact ⟨_, hb⟩
    obtain ⟨bv, hb⟩ := hb
    refine ⟨bv, h2, ?_, w2, hb⟩
    clear w2 f2
    simp only [Int.natCast_zero] at e2
    rw [aval_of Tryd.func53 body53 Tryd.results53 Tryd.ntmps53 ok53]
    simp (implicitDefEqProofs := false) (disch := omega) only [go_sem, seval, rgn Tryd.f53 0 rfl, rgn Tryd.f53 1 rfl, rgn Tryd.f53 2 rfl, rgn Tryd.f53 3 rfl, rgn Tryd.f53 4 rfl, List.length_map, fits_clo, cells_clo]
    simp (implicitDefEqProofs := false) (disch := omega) only [go_sem, seval, rgn Tryd.f53 9 rfl, e2, hb]
  obtain ⟨bv, h, e, w, hb⟩ := e
  obtain ⟨bv', ids, x1, x2, x3⟩ := names_exp w
  rw [hb] at x1
  cases x1
  rw [pcall_eq, e]
  unfold pureRes
  dsimp only
  rw [x2]
  dsimp only
  rw [if_pos x3]
def KV (h : AHeap) (n0 : Nat) (kt : AV) (l : List AV) : Prop := (l = [] ∧ kt = .slc true []) ∨ ∃ K g, kt = .arr K 0 l.length g 5 ∧ hget h K = .arr 5 l g ∧ n0 ≤ K
def Kb (n0 : Nat) (h H : AHeap) : Prop := h.length ≤ H.length ∧ ∀ j, j < n0 → hget H j = hget h j
theorem Kb.refl (n0 : Nat) (h : AHeap) : Kb n0 h h := ⟨Nat.le_refl _, fun _ _ => rfl⟩
theorem Kb.trans {n0 : Nat} {a b c : AHeap} (x : Kb n0 a b) (y : Kb n0 b c) : Kb n0 a c := ⟨Nat.le_trans x.1 y.1, fun j h => (y.2 j h).trans (x.2 j h)⟩
theorem kv_add {h : AHeap} {n0 : Nat} {kt : AV} {l : List AV} (hk : KV h n0 kt l) (hl : l.length ≤ 100000) (h0 : n0 ≤ h.length) (es : List AV) (hes : headOk 5 es = true) (hne : es ≠ []) (hel : es.length ≤ 10) : ∃ v H, (∀ z, appT (some (5, 72, z)) h kt (some es) = some (v, H)) ∧ KV H n0 v (l ++ es) ∧ Kb n0 h H ∧ fits 1 v = true ∧ v.cells = [v] := by
  rcases hk with ⟨rfl, rfl⟩ | ⟨K, g, rfl, h2, h3⟩
  · refine ⟨_, _, fun z => appT_slc _ _ _ _ _ hes rfl hne (by simp; omega), .inr ⟨h.length, 0, by simp, by rw [hget_last], h0⟩, ⟨by simp, fun j hj => hget_app _ (by omega)⟩, rfl, rfl⟩
  · refine ⟨_, _, fun z => appT_arr _ _ _ _ _ _ _ _ h2 rfl hes (by omega), .inr ⟨K, g + 1, by simp, by rw [hget_set_eq (hlt_of h2 (by simp))], h3⟩, ⟨by simp, fun j hj => hget_set_ne (by omega)⟩, rfl, rfl⟩
def vtV (n : List UInt8) : AV := .agg [.int 1, .val (.string ⟨#[]⟩), .val (.string (txt n)), .val (.int .i64 0), .slc true []]
set_option maxHeartbeats 4000000 in
theorem vt_loop (nb : Bool) (N : List (List UInt8)) (hN : N.length ≤ 90000) (n0 : Nat) : ∀ (rem done : List (List UInt8)), N = done ++ rem → ∀ (h : AHeap) (kt : AV), n0 ≤ h.length → KV h n0 kt (done.map vtV) →
    ∃ H kt', lrun Tryd.prog md fg (fg 54) (loopOf Tryd.f54 0) (fg 54 1) ([.unk, .unk, .unk, kt, .unk, .unk, .slc nb (N.map sV), .int N.length, .int done.length, .unk, .unk, .unk, .unk, .unk, .unk, .unk, .unk, .unk, .unk]) h = some (.exit 0, [.unk, .unk, .unk, kt', .unk, .unk, .slc nb (N.map sV), .int N.length, .int N.length, .unk, .unk, .unk, .unk, .unk, .unk, .unk, .unk, .unk, .unk], H) ∧ KV H n0 kt' (N.map vtV) ∧ Kb n0 h H
  | [], done, he, h, kt, h0, hk => by
    rw [List.append_nil] at he
    subst he
    refine ⟨h, kt, ?_, hk, Kb.refl _ _⟩
    rw [lrun_atC loop54_0]
    simp (implicitDefEqProofs := false) (disch := omega) only [go_sem, seval, rgn Tryd.f54 3 rfl]
  | n :: rem, done, he, h, kt, h0, hk => by
    have hll : N.length = done.length + (rem.length + 1) := by rw [he]; simp
    obtain ⟨v, H1, x1, x2, x3, x4, x5⟩ := kv_add hk (by rw [List.length_map]; omega) h0 [vtV n] rfl (by simp) (by simp)
    obtain ⟨H, kt', e1, e2, e3⟩ := vt_loop nb N hN n0 rem (done ++ [n]) (by rw [he]; simp) H1 v (by have := x3.1; omega) (by rw [List.map_append]; exact x2)
    refine ⟨H, kt', ?_, e2, x3.trans e3⟩
    have hlen : (done ++ [n]).length = done.length + 1 := by simp
    rw [hlen] at e1
    rw [← e1]
    have hlt : (done.length : Int) < (N.length : Int) := by omega
    have htn : ((done.length : Int)).toNat = done.length := by omega
    have hat : (N.map sV)[done.length]? = some (.val (.string (txt n))) := by rw [he]; simp [sV]
    unfold vtV at x1
    rw [lrun_atC loop54_0]
    simp (implicitDefEqProofs := false) (disch := omega) only [go_sem, seval, rgn Tryd.f54 3 rfl, rgn Tryd.f54 4 rfl, rgn Tryd.f54 5 rfl, rgn Tryd.f54 6 rfl, hlt, htn, hat, x1, x4, x5]
    all_goals (congr 1 <;> simp only [List.cons.injEq, AV.val.injEq, Value.int.injEq, Value.bool.injEq, true_and, and_true] <;> omega)
theorem varTerms_c (nb : Bool) (N : List (List UInt8)) (hN : N.length ≤ 90000) (h : AHeap) : ∃ H v, doCall md (aval Tryd.prog md fg) 54 [.slc nb (N.map sV)] h = some (v, H) ∧ KV H h.length v (N.map vtV) ∧ Kb h.length h H := by
  obtain ⟨H, kt', e1, e2, e3⟩ := vt_loop nb N hN h.length N [] rfl h (.slc true []) (Nat.le_refl _) (.inl ⟨rfl, rfl⟩)
  simp only [List.length_nil, Int.natCast_zero] at e1
  have e : aval Tryd.prog md fg 54 [.slc nb (N.map sV)] h = some (kt', H) := by
    rw [aval_of Tryd.func54 body54 Tryd.results54 Tryd.ntmps54 ok54]
    simp (implicitDefEqProofs := false) (disch := omega) only [go_sem, seval, rgn Tryd.f54 0 rfl, rgn Tryd.f54 1 rfl, rgn Tryd.f54 2 rfl, rgn Tryd.f54 7 rfl, List.length_map, e1]
  by_cases hne : N = []
  · subst hne
    rcases e2 with ⟨_, rfl⟩ | ⟨K, g, rfl, q1, q2⟩
    · rw [doCall_0 (by decide)]
      unfold doCall0
      rw [if_neg (by decide), rated_id (by decide), e]
      dsimp only
      split
      · exact ⟨_, _, rfl, .inl ⟨rfl, rfl⟩, by rw [List.length_take]; have := e3.1; omega, fun j hj => by rw [hget_take hj]; exact e3.2 j hj⟩
      · exact ⟨_, _, rfl, .inl ⟨rfl, rfl⟩, e3⟩
    · rw [doCall_0 (by decide)]
      unfold doCall0
      rw [if_neg (by decide), rated_id (by decide), e]
      dsimp only
      rw [if_neg (fun q => by have := q.1; simp [below] at this; omega)]
      exact ⟨_, _, rfl, .inr ⟨K, g, rfl, q1, q2⟩, e3⟩
  · rcases e2 with ⟨q, _⟩ | ⟨K, g, rfl, q1, q2⟩
    · simp at q; exact absurd q hne
    · rw [doCall_0 (by decide)]
      unfold doCall0
      rw [if_neg (by decide), rated_id (by decide), e]
      dsimp only
      rw [if_neg (fun q => by have := q.1; simp [below] at this; omega)]
      exact ⟨_, _, rfl, .inr ⟨K, g, rfl, q1, q2⟩, e3⟩
def vTm (n : List UInt8) : Tm := ⟨1, [], n, 0, []⟩
theorem exp_vt (h : AHeap) (n : List UInt8) : exp1 h 59 (vtV n) = some (tmV (vTm n), []) := by
  have hb : ∀ a : Value, exp1 h (57 + 1) (.val a) = some (.val a, []) := fun a => rfl
  have hs : exp1 h (57 + 1) (.slc true []) = some (.slc false [], []) := rfl
  show exp1 h (57 + 1 + 1) _ = _
  unfold vtV
  rw [exp1]
  unfold vTm
  rw [tmV_mk]
  simp only [solid, solidL, Bool.not_true, Bool.false_and, Bool.and_false, Bool.true_and, if_false, Bool.false_eq_true, expL, hb, hs, List.nil_append, List.append_nil, Option.map_some]
  rfl
theorem expL_app {α : Type} {F : AV → Option (AV × List Nat)} : ∀ {a b a' b' : List AV} {i j : List Nat}, expL F a = some (a', i) → expL F b = some (b', j) → expL F (a ++ b) = some (a' ++ b', i ++ j)
  | [], b, a', b', i, j, h1, h2 => by
    simp only [expL, Option.some.injEq, Prod.mk.injEq] at h1
    obtain ⟨rfl, rfl⟩ := h1
    exact h2
  | x :: r, b, a', b', i, j, h1, h2 => by
    rw [List.cons_append]
    unfold expL at h1 ⊢
    cases hx : F x with
    | none => rw [hx] at h1; simp at h1
    | some p =>
      rw [hx] at h1
      cases hr : expL F r with
      | none => rw [hr] at h1; simp at h1
      | some q =>
        obtain ⟨q1, q2⟩ := q
        rw [hr] at h1
        simp only [Option.some.injEq, Prod.mk.injEq] at h1
        obtain ⟨rfl, rfl⟩ := h1
        rw [expL_app (α := α) hr h2]
        simp
theorem expL_vt (h : AHeap) : ∀ N : List (List UInt8), expL (exp1 h 59) (N.map vtV) = some ((N.map vTm).map tmV, [])
  | [] => rfl
  | n :: r => by
    rw [List.map_cons, List.map_cons, List.map_cons]
    unfold expL
    rw [exp_vt, expL_vt h r]
    rfl
theorem solidL_one (t : Tm) (l : List AV) : solidL (tmV t :: l) = solidL l := by
  have := solid_tm t
  simp [solidL, this]
theorem arr_exp' {h : AHeap} {id g k : Nat} {es es' : List AV} (ho : hget h id = .arr k es g) (d : Nat) (hx : expL (exp1 h d) es = some (es', [])) : exp1 h (d + 1) (.arr id 0 es.length g k) = some (.slc false es', [id]) := by
  have hv : sview h (.arr id 0 es.length g k) = some es := sview_arr _ _ _ _ _ ho rfl
  simp only [exp1, hv, hx]
  rfl
theorem vars_hand {h : AHeap} {K g : Nat} {N : List (List UInt8)} {A B : Tm} (hK : hget h K = .arr 5 (N.map vtV ++ [tmV A, tmV B]) g) (hf : Tm.fits (N.map vTm ++ [A, B])) (hl : N.length ≤ 90000) (hz : tszs (N.map vTm ++ [A, B]) ≤ 100000) : ∃ H, doCall md (aval Tryd.prog md fg) 53 [.arr K 0 (N.map vtV ++ [tmV A, tmV B]).length g 5] h = some (.slc false ((vsL [] (N.map vTm ++ [A, B])).map sV), H) ∧ H.length = h.length ∧ (∀ j, j ≠ K → hget H j = hget h j) := by
  have hv : sview h (.arr K 0 (N.map vtV ++ [tmV A, tmV B]).length g 5) = some (N.map vtV ++ [tmV A, tmV B]) := sview_arr _ _ _ _ _ hK rfl
  have hx : expL (exp1 h 59) (N.map vtV ++ [tmV A, tmV B]) = some ((N.map vTm ++ [A, B]).map tmV, []) := by
    have h2 : expL (exp1 h 59) [tmV A, tmV B] = some ([tmV A, tmV B], []) := expL_solid (by rw [solidL_one, solidL_one]; rfl)
    have := expL_app (α := Nat) (expL_vt h N) h2
    rw [this]; simp
  have hs : expL (exp1 h expDepth) [.arr K 0 (N.map vtV ++ [tmV A, tmV B]).length g 5] = some ([.slc false ((N.map vTm ++ [A, B]).map tmV)], [K]) := by
    have h1 : exp1 h (59 + 1) (.arr K 0 (N.map vtV ++ [tmV A, tmV B]).length g 5) = some (.slc false ((N.map vTm ++ [A, B]).map tmV), [K]) := arr_exp' hK 59 hx
    show expL (exp1 h (59 + 1)) _ = _
    unfold expL
    rw [h1]
    rfl
  have hc : canFrz h [K] = true := by simp [canFrz, hK]
  rw [doCall_0 (by decide)]; unfold doCall0
  rw [if_pos (.inr (by decide)), hs]
  simp only [hc, if_true]
  rw [← pcall_eq, varsL_p _ hf (by simp; omega) hz]
  by_cases hfl : flat (.slc false ((vsL [] (N.map vTm ++ [A, B])).map sV)) = true
  · exact ⟨h, by simp [hfl], rfl, fun _ _ => rfl⟩
  · refine ⟨h.set K (.frz 5 (N.map vtV ++ [tmV A, tmV B]) g), by simp [hfl, frzAll, frz1, hK], by simp, fun j hj => hget_set_ne (fun q => hj q.symm)⟩
theorem vsL_app : ∀ (a b : List Tm) (out : List (List UInt8)), vsL out (a ++ b) = vsL (vsL out a) b
  | [], b, out => by rw [List.nil_append, vsL]
  | t :: r, b, out => by rw [List.cons_append, vsL, vsL, vsL_app r b]
theorem vadd_mem {out : List (List UInt8)} {k : Int} {m n : List UInt8} : n ∈ vadd out k m ↔ n ∈ out ∨ (k = 1 ∧ n = m) := by
  unfold vadd
  split
  · rename_i h; simp [h.1]
  · rename_i h
    constructor
    · exact .inl
    · rintro (h1 | ⟨h1, rfl⟩)
      · exact h1
      · exact Classical.byContradiction fun h2 => h ⟨h1, h2⟩
mutual
theorem vsT_mem : ∀ (t : Tm) (out : List (List UInt8)) (n : List UInt8), t.ty → (n ∈ vsT out t ↔ n ∈ out ∨ n ∈ tvars t)
  | .mk k p m x l, out, n, ht => by
    rw [Tm.ty] at ht
    rw [vsT, vsL_mem l _ n ht.2, vadd_mem, tvars]
    by_cases hk : k = 1
    · obtain ⟨hl, _⟩ := ht.1.2.2.2 hk
      subst hl
      simp [hk, tvarss]
    · simp [hk]
theorem vsL_mem : ∀ (l : List Tm) (out : List (List UInt8)) (n : List UInt8), Tm.tys l → (n ∈ vsL out l ↔ n ∈ out ∨ n ∈ tvarss l)
  | [], out, n, _ => by rw [vsL, tvarss]; simp
  | t :: r, out, n, ht => by
    rw [Tm.tys] at ht
    rw [vsL, vsL_mem r _ n ht.2, vsT_mem t out n ht.1, tvarss, List.mem_append, or_assoc]
end
theorem vadd_nodup {out : List (List UInt8)} (h : out.Nodup) (k : Int) (m : List UInt8) : (vadd out k m).Nodup := by
  unfold vadd
  split
  · rename_i hc
    rw [List.nodup_append]
    refine ⟨h, by simp, fun a ha b hb => ?_⟩
    rw [List.mem_singleton] at hb
    rw [hb]
    rintro rfl
    exact hc.2 ha
  · exact h
mutual
theorem vsT_nodup : ∀ (t : Tm) (out : List (List UInt8)), out.Nodup → (vsT out t).Nodup
  | .mk k p m x l, out, h => by rw [vsT]; exact vsL_nodup l _ (vadd_nodup h k m)
theorem vsL_nodup : ∀ (l : List Tm) (out : List (List UInt8)), out.Nodup → (vsL out l).Nodup
  | [], out, h => by rw [vsL]; exact h
  | t :: r, out, h => by rw [vsL]; exact vsL_nodup r _ (vsT_nodup t out h)
end
theorem vsL_vars : ∀ (N out : List (List UInt8)), (out ++ N).Nodup → vsL out (N.map vTm) = out ++ N
  | [], out, _ => by rw [List.map_nil, vsL, List.append_nil]
  | n :: r, out, h => by
    have h2 : out ++ n :: r = (out ++ [n]) ++ r := by simp
    have hn : n ∉ out := by
      rw [List.nodup_append] at h
      exact fun hm => h.2.2 n hm n (by simp) rfl
    have : vsT out (vTm n) = out ++ [n] := by
      unfold vTm
      rw [vsT, vsL]
      unfold vadd
      rw [if_pos ⟨rfl, hn⟩]
    rw [List.map_cons, vsL, this, vsL_vars r (out ++ [n]) (by rw [← h2]; exact h), h2]
def flatE (l : List (Tm × Tm)) : List Tm := l.flatMap fun q => [q.1, q.2]
theorem flatE_app (a b : List (Tm × Tm)) : flatE (a ++ b) = flatE a ++ flatE b := by simp [flatE]
theorem tszs_append : ∀ (a b : List Tm), tszs (a ++ b) = tszs a + tszs b
  | [], b => by simp [tszs]
  | t :: r, b => by rw [List.cons_append, tszs, tszs, tszs_append r b]; omega
theorem tys_append : ∀ (a b : List Tm), Tm.tys (a ++ b) ↔ Tm.tys a ∧ Tm.tys b
  | [], b => by simp [Tm.tys]
  | t :: r, b => by rw [List.cons_append, Tm.tys, Tm.tys, tys_append r b, and_assoc]
theorem fits_append : ∀ (a b : List Tm), Tm.fits (a ++ b) ↔ Tm.fits a ∧ Tm.fits b
  | [], b => by simp [Tm.fits]
  | t :: r, b => by rw [List.cons_append, Tm.fits, Tm.fits, fits_append r b, and_assoc]
theorem vs_next {N : List (List UInt8)} (h : N.Nodup) (A B : Tm) : vsL [] (N.map vTm ++ [A, B]) = vsL N [A, B] := by
  rw [vsL_app, vsL_vars N [] (by simpa using h), List.nil_append]
def eqV : Tm × Tm → AV
  | (⟨k, p, m, n, l⟩, ⟨k', p', m', n', l'⟩) => .agg [.int k, .str (txt p), .str (txt m), .int n, .slc false (l.map tmV), .int k', .str (txt p'), .str (txt m'), .int n', .slc false (l'.map tmV)]
structure LS (h : AHeap) (B : Nat) (sh : List Sh) (P : SMap) (ns : List Nd) (nb : Bool) (N : List (List UInt8)) (n : Nat) (done : List (Tm × Tm)) (ids : List (Nat × Nat)) : Prop where
  is : IS h 0 B 1 sh P ns
  ip : IP sh P
  z : SO h 2 0 1 (.slc nb (N.map sV))
  q : hget h 3 = .vars [.ptr 2 0]
  t : hget h 4 = .arr 2 ((ids ++ List.replicate (n - done.length) (0, 0)).map prV) 0
  len : ids.length = done.length
  vals : ∀ (j a b : Nat) (A B : Tm), ids[j]? = some (a, b) → done[j]? = some (A, B) → Val sh P a A ∧ Val sh P b B
  names : N = vsL [] (flatE done)
  dom : ∀ n, n ∈ N ↔ ∃ i, mg P n = some i
  sz : sh.length ≤ tszs (flatE done)
  kc : kc sh ≤ tszs (flatE done)
theorem fr_55 {h0 : AHeap} {nv : AV} (hq : hget h0 3 = .vars [.ptr 2 0]) (hz : SO h0 2 0 1 nv) : Fr 0 1 55 [.ptr 3 0] h0 := fun h1 ns1 hk hs hl =>
  fresh_c hs hl (hk.2 3 _ hq (by simp) (by decide) (by decide) (by decide) (by simp)) (hk.2 2 _ hz (by simp) (by decide) (by decide) (by decide) (by simp) : SO h1 2 0 1 nv)
theorem callable_55 : callable Tryd.prog 55 = true := by kernel_rfl
theorem septr_pr {i a b : Nat} {H1 : AHeap} {T g : Nat} (L : List AV) (hL : L[i]? = some (.agg [.int 0, .int 0])) : septr true 2 (.agg [.int (a : Int), .int (b : Int)]) g 2 i 0 H1 T (.arr 2 L g) = some (H1.set T (.arr 2 (L.set i (.agg [.int (a : Int), .int (b : Int)])) g)) := by
  simp [septr, hL, AV.cells, patch, putAt]
theorem sp_set2 {h : AHeap} {S T : Nat} {ns : List Nd} {b : Int} {f : Bool} {w : Int} (hs : SP h S ns b f w) (hTS : T ≠ S) {es : List AV} {g : Nat} (hT : hget h T = .arr 2 es g) (o : AObj) : SP (h.set T o) S ns b f w :=
  sp_keep hs (hget_set_ne hTS) fun A es' g' q => by rw [hget_set_ne (by rintro rfl; rw [hT] at q; simp at q)]; exact q
theorem nr_set2 {h : AHeap} {S B T : Nat} {sh : List Sh} {rt r : Nat → Nat} {vis : Nat → Bool} {w : Int} {ns : List Nd} (x : NR h S B sh rt r vis w ns) {es : List AV} {g : Nat} (hT : hget h T = .arr 2 es g) (o : AObj) : NR (h.set T o) S B sh rt r vis w ns :=
  ⟨x.1, fun i n s h1 h2 => by
    have y := x.2 i n s h1 h2
    refine ⟨y.kind, y.pkg, y.name, ?_, y.to, y.mark, y.le⟩
    rcases y.kids with z | ⟨K, g', e1, e2, e3, e4⟩
    · exact .inl z
    · exact .inr ⟨K, g', e1, by rw [hget_set_ne (by rintro rfl; rw [hT] at e2; simp at e2)]; exact e2, e3, e4⟩⟩
theorem IS.set2 {h : AHeap} {S B V T : Nat} {sh : List Sh} {P : SMap} {ns : List Nd} (x : IS h S B V sh P ns) (hTS : T ≠ S) (hTV : T ≠ V) {es : List AV} {g : Nat} (hT : hget h T = .arr 2 es g) (o : AObj) : IS (h.set T o) S B V sh P ns :=
  ⟨sp_set2 x.sp hTS hT o, nr_set2 x.nr hT o, by rw [List.length_set]; exact x.b, x.vs, by have := x.ms; unfold MS at this ⊢; rw [hget_set_ne hTV]; exact this⟩
theorem IS.keep {h H : AHeap} {S B V : Nat} {sh : List Sh} {P : SMap} {ns : List Nd} (x : IS h S B V sh P ns) (hl : h.length ≤ H.length) (hk : ∀ j o, hget h j = o → o ≠ .dead → (∀ cs, j ≠ S → o ≠ .vars cs) → hget H j = o) (hS : hget H S = hget h S) : IS H S B V sh P ns :=
  ⟨sp_keep x.sp hS fun A es g q => hk A _ q (by simp) (by simp), ⟨x.nr.1, fun i n s h1 h2 => by
    have y := x.nr.2 i n s h1 h2
    refine ⟨y.kind, y.pkg, y.name, ?_, y.to, y.mark, y.le⟩
    rcases y.kids with z | ⟨K, g', e1, e2, e3, e4⟩
    · exact .inl z
    · exact .inr ⟨K, g', e1, hk K _ e2 (by simp) (by simp), e3, e4⟩⟩, by have := x.b; omega, x.vs, hk V _ x.ms (by simp) (by simp)⟩
end Go.Proofs.YtncjbccjpneoiaaDoor
namespace Go.Proofs.YtncjbccjpneoiaaDoor
open Go Go.Ab Go.Proofs
open AV renaming unk → U
open Bool renaming false → J, true → O
set_option maxRecDepth 100000
theorem alive_p : pcall Tryd.prog md fg 10 [] = some (.bool true) := pcall_strue okKnown 200 (by decide +kernel)
theorem alive_c (h : AHeap) : doCall md (aval Tryd.prog md fg) 10 [] h = some (.val (.bool true), h) := doCall_pure md10 rfl alive_p
end Go.Proofs.YtncjbccjpneoiaaDoor
namespace Go.Proofs.YtncjbccjpneoiaaDoor
open Go Go.Ab Go.Proofs
open AV renaming unk → U
open Bool renaming false → J, true → O
set_option maxRecDepth 100000
set_option linter.unusedSimpArgs false
set_option linter.unusedVariables false
mutual
theorem ty_of_typ : ∀ t : Tm, typ t → t.ty
  | .mk k p m n l, h => by
    rw [typ] at h
    rw [Tm.ty]
    exact ⟨⟨h.1, h.2.1, h.2.2.1, h.2.2.2.1⟩, tys_of_typs l h.2.2.2.2⟩
theorem tys_of_typs : ∀ l : List Tm, typs l → Tm.tys l
  | [], _ => by simp [Tm.tys]
  | t :: r, h => by
    rw [typs] at h
    rw [Tm.tys]
    exact ⟨ty_of_typ t h.1, tys_of_typs r h.2⟩
end
theorem few1_p (a : Tm) (ha : a.fit) : ∃ b : Bool, (b = true → tsz a ≤ 600) ∧ pcall Tryd.prog md fg 37 [tmV a] = some (.val (.bool b)) := by
  obtain ⟨w, w0, w1, w2, w3⟩ := W_all a ha 0 (by omega) (by omega)
  have cw : ∀ h : AHeap, doCall md (aval Tryd.prog md fg) 59 [tmV a, .int 0] h = some (.int w, h) := fun h => doCall_pure md59 (by simp only [solidL, solid_tm, Bool.true_and]; rfl) w3
  refine ⟨decide (w ≤ 600), fun hb => ?_, ?_⟩
  · have := of_decide_eq_true hb
    have := w2 (by omega)
    omega
  · have e : ∃ h, aval Tryd.prog md fg 37 [tmV a] [] = some (.val (.bool (decide (w ≤ 600))), h) := by
      clear w3 w2
      obtain ⟨k, p, m, n, l⟩ := a
      rw [tmV_mk] at cw ⊢
      rw [aval_of Tryd.func37 body37 Tryd.results37 Tryd.ntmps37 ok37]
      simp (implicitDefEqProofs := false) (disch := omega) only [go_sem, seval, rgn Tryd.f37 0 rfl, rgn Tryd.f37 1 rfl, hget_last, cw]
      exact ⟨_, rfl⟩
    obtain ⟨h, e⟩ := e
    rw [pcall_eq, e, pureRes_solid rfl]
theorem few_loop (ts : List Tm) (hl : ts.length ≤ 1000) (hf : Tm.fits ts) : ∀ (rem done : List Tm), ts = done ++ rem → ∀ (c : Nat), c ≤ 600 * done.length →
    ∃ (b : Bool) (a2 a3 a7 : AV) (cc : Ex), lrun Tryd.prog md fg (fg 18) (loopOf Tryd.f18 0) (fg 18 1) (((.slc false (ts.map tmV)) :: .unk :: (.val (.bool false)) :: (.int (c : Nat)) :: .unk :: .unk :: (.int ts.length) :: (.int done.length) :: U::U::U::U::U::U::U::U::U::U::U::U::U::U::U::U::U::U::U::U::U::U::U::U::U::U::[] : List AV)) [] = some (cc, ((.slc false (ts.map tmV)) :: .unk :: (a2) :: (a3) :: .unk :: .unk :: (.int ts.length) :: (a7) :: U::U::U::U::U::U::U::U::U::U::U::U::U::U::U::U::U::U::U::U::U::U::U::U::U::U::[] : List AV), []) ∧ (if b then cc = .exit 0 ∧ a3 = .int ((c + tszs rem : Nat) : Int) ∧ Tm.tys rem ∧ tszs rem ≤ 600 * rem.length else cc = .ret ∧ a2 = .val (.bool false))
  | [], done, he, c, hc => by
    rw [List.append_nil] at he
    subst he
    refine ⟨true, .val (.bool false), .int (c : Nat), .int ts.length, .exit 0, ?_, by rw [if_pos rfl]; exact ⟨rfl, by rw [tszs, Nat.add_zero], by simp [Tm.tys], by rw [tszs]; simp⟩⟩
    rw [lrun_atC loop18_0]
    simp (implicitDefEqProofs := false) (disch := omega) only [go_sem, seval, rgn Tryd.f18 3 rfl]
  | t :: rem, done, he, c, hc => by
    have hll : ts.length = done.length + (rem.length + 1) := by rw [he]; simp
    have hlt : (done.length : Int) < (ts.length : Int) := by omega
    have htn : ((done.length : Int)).toNat = done.length := by omega
    have hft : t.fit := fits_mem hf t (by rw [he]; simp)
    have hat : (ts.map tmV)[done.length]? = some (tmV t) := by rw [he]; simp
    obtain ⟨b1, b2, b3⟩ := few1_p t hft
    obtain ⟨y1, y2, y3⟩ := Y_all t hft
    have c1 : ∀ h, doCall md (aval Tryd.prog md fg) 37 [tmV t] h = some (.val (.bool b1), h) := fun h => doCall_pure md37 (solid1 t) b3
    have c2 : ∀ h, doCall md (aval Tryd.prog md fg) 38 [tmV t] h = some (.val (.bool y1), h) := fun h => doCall_pure md38 (solid1 t) y3
    by_cases hb : b1 = true ∧ y1 = true
    · obtain ⟨rfl, rfl⟩ := hb
      have hsz := b2 rfl
      have hty := ty_of_typ t (y2 rfl)
      have c3 : ∀ h, doCall md (aval Tryd.prog md fg) 15 [tmV t] h = some (.int (tsz t : Int), h) := fun h => doCall_pure md15 (solid1 t) (Z_all t (by omega))
      obtain ⟨b, a2, a3, a7, cc, e1, e2⟩ := few_loop ts hl hf rem (done ++ [t]) (by rw [he]; simp) (c + tsz t) (by simp; omega)
      refine ⟨b, a2, a3, a7, cc, ?_, ?_⟩
      · have hlen : (done ++ [t]).length = done.length + 1 := by simp
        rw [hlen] at e1
        rw [← e1]
        obtain ⟨k, p, m, n, l⟩ := t
        rw [tmV_mk] at c1 c2 c3 hat
        have hb1 : (0 : Int) ≤ (c : Int) := by omega
        have hb2 : (c : Int) ≤ 600000 := by omega
        have hb3 : (tsz ⟨k, p, m, n, l⟩ : Int) ≤ 600 := by omega
        generalize hz : tsz ⟨k, p, m, n, l⟩ = z at *
        rw [lrun_atC loop18_0]
        simp (implicitDefEqProofs := false) (disch := omega) only [go_sem, seval, rgn Tryd.f18 3 rfl, rgn Tryd.f18 4 rfl, rgn Tryd.f18 5 rfl, rgn Tryd.f18 7 rfl, rgn Tryd.f18 8 rfl, List.length_map, hlt, htn, hat, c1, c2, c3]
        all_goals (congr 1 <;> simp only [List.cons.injEq, AV.val.injEq, Value.int.injEq, Value.bool.injEq, true_and, and_true] <;> omega)
      · cases b with
        | false => simpa using e2
        | true =>
          simp only [if_true] at e2 ⊢
          obtain ⟨f1, f2, f3, f4⟩ := e2
          refine ⟨f1, ?_, ?_, ?_⟩
          · rw [f2, tszs, Nat.add_assoc]
          · rw [Tm.tys]; exact ⟨hty, f3⟩
          · rw [tszs, List.length_cons]; omega
    · refine ⟨false, .val (.bool false), .int (c : Nat), .int done.length, .ret, ?_, by simp⟩
      obtain ⟨k, p, m, n, l⟩ := t
      rw [tmV_mk] at c1 c2 hat
      by_cases h1 : b1 = true
      · have h2 : y1 = false := by cases y1 with
          | false => rfl
          | true => exact absurd ⟨h1, rfl⟩ hb
        subst h1; subst h2
        rw [lrun_atC loop18_0]
        simp (implicitDefEqProofs := false) (disch := omega) only [go_sem, seval, rgn Tryd.f18 3 rfl, rgn Tryd.f18 4 rfl, rgn Tryd.f18 5 rfl, rgn Tryd.f18 6 rfl, List.length_map, hlt, htn, hat, c1, c2]
      · have h1 : b1 = false := by simpa using h1
        subst h1
        rw [lrun_atC loop18_0]
        simp (implicitDefEqProofs := false) (disch := omega) only [go_sem, seval, rgn Tryd.f18 3 rfl, rgn Tryd.f18 4 rfl, rgn Tryd.f18 5 rfl, rgn Tryd.f18 6 rfl, List.length_map, hlt, htn, hat, c1]
theorem few_p (ts : List Tm) (hl : ts.length ≤ 1000) (hf : Tm.fits ts) : ∃ b : Bool, (b = true → tszs ts ≤ 60 ∧ Tm.tys ts) ∧ pcall Tryd.prog md fg 18 [.slc false (ts.map tmV)] = some (.val (.bool b)) := by
  obtain ⟨b, a2, a3, a7, cc, e1, e2⟩ := few_loop ts hl hf ts [] rfl 0 (by omega)
  simp only [List.length_nil, Int.natCast_zero] at e1
  cases b with
  | false =>
    simp only [Bool.false_eq_true, if_false] at e2
    obtain ⟨rfl, rfl⟩ := e2
    refine ⟨false, by simp, ?_⟩
    have e : aval Tryd.prog md fg 18 [.slc false (ts.map tmV)] [] = some (.val (.bool false), []) := by
      rw [aval_of Tryd.func18 body18 Tryd.results18 Tryd.ntmps18 ok18]
      simp (implicitDefEqProofs := false) (disch := omega) only [go_sem, seval, rgn Tryd.f18 0 rfl, rgn Tryd.f18 1 rfl, rgn Tryd.f18 2 rfl, List.length_map, e1]
    rw [pcall_eq, e, pureRes_solid rfl]
  | true =>
    simp only [if_true] at e2
    obtain ⟨rfl, rfl, f3, f4⟩ := e2
    rw [Nat.zero_add] at e1
    refine ⟨decide (tszs ts ≤ 60), fun h => ⟨of_decide_eq_true h, f3⟩, ?_⟩
    have hi : ((tszs ts : Nat) : Int) ≤ 60 ↔ tszs ts ≤ 60 := by omega
    have e : aval Tryd.prog md fg 18 [.slc false (ts.map tmV)] [] = some (.val (.bool (decide (tszs ts ≤ 60))), []) := by
      by_cases h : tszs ts ≤ 60
      · rw [decide_eq_true h]
        have h' : ((tszs ts : Nat) : Int) ≤ 60 := by omega
        rw [aval_of Tryd.func18 body18 Tryd.results18 Tryd.ntmps18 ok18]
        simp (implicitDefEqProofs := false) (disch := omega) only [go_sem, seval, rgn Tryd.f18 0 rfl, rgn Tryd.f18 1 rfl, rgn Tryd.f18 2 rfl, rgn Tryd.f18 9 rfl, List.length_map, e1, h']
      · rw [decide_eq_false h]
        have h' : ¬ ((tszs ts : Nat) : Int) ≤ 60 := by omega
        rw [aval_of Tryd.func18 body18 Tryd.results18 Tryd.ntmps18 ok18]
        simp (implicitDefEqProofs := false) (disch := omega) only [go_sem, seval, rgn Tryd.f18 0 rfl, rgn Tryd.f18 1 rfl, rgn Tryd.f18 2 rfl, rgn Tryd.f18 9 rfl, List.length_map, e1, h']
    rw [pcall_eq, e, pureRes_solid rfl]
theorem solid_eqs : ∀ l : List (Tm × Tm), solidL (l.map eqV) = true
  | [] => rfl
  | (⟨k, p, m, n, l1⟩, ⟨k', p', m', n', l2⟩) :: r => by
    rw [List.map_cons]
    have h1 : solidL (l1.map tmV) = true := solid_byl l1
    have h2 : solidL (l2.map tmV) = true := solid_byl l2
    simp only [solidL, solid_eqs r, Bool.and_true, eqV, solid, Bool.not_false, Bool.true_and, h1, h2]
theorem eqs_loop (l : List (Tm × Tm)) (hl : l.length ≤ 20) : ∀ (rem done : List (Tm × Tm)), l = done ++ rem → ∀ (h : AHeap) (kt : AV), KV h 0 kt ((flatE done).map tmV) →
    ∃ H kt', lrun Tryd.prog md fg (fg 9) (loopOf Tryd.f9 0) (fg 9 1) (((.slc false (l.map eqV)) :: .unk :: .unk :: (kt) :: U::U::U::U::U::(.int l.length) :: (.int done.length) :: U::U::U::U::U::U::U::U::U::U::U::U::U::U::U::U::U::U::[] : List AV)) h = some (.exit 0, ((.slc false (l.map eqV)) :: .unk :: .unk :: (kt') :: U::U::U::U::U::(.int l.length) :: (.int l.length) :: U::U::U::U::U::U::U::U::U::U::U::U::U::U::U::U::U::U::[] : List AV), H) ∧ KV H 0 kt' ((flatE l).map tmV)
  | [], done, he, h, kt, hk => by
    rw [List.append_nil] at he
    subst he
    refine ⟨h, kt, ?_, hk⟩
    rw [lrun_atC loop9_0]
    simp (implicitDefEqProofs := false) (disch := omega) only [go_sem, seval, rgn Tryd.f9 5 rfl]
  | (A, B) :: rem, done, he, h, kt, hk => by
    have hll : l.length = done.length + (rem.length + 1) := by rw [he]; simp
    have hlt : (done.length : Int) < (l.length : Int) := by omega
    have htn : ((done.length : Int)).toNat = done.length := by omega
    have hfl : (flatE done).length = 2 * done.length := by
      clear hk he hll hlt htn
      induction done with
      | nil => rfl
      | cons a r ih => rw [show flatE (a :: r) = a.1 :: a.2 :: flatE r from rfl]; simp [ih]; omega
    obtain ⟨v, H1, x1, x2, x3, x4, x5⟩ := kv_add hk (by rw [List.length_map]; omega) (Nat.zero_le _) [tmV A, tmV B] (headOk_tm [A, B]) (by simp) (by simp)
    obtain ⟨H, kt', e1, e2⟩ := eqs_loop l hl rem (done ++ [(A, B)]) (by rw [he]; simp) H1 v (by rw [flatE_app, List.map_append]; exact x2)
    refine ⟨H, kt', ?_, e2⟩
    have hlen : (done ++ [(A, B)]).length = done.length + 1 := by simp
    rw [hlen] at e1
    rw [← e1]
    obtain ⟨k, p, m, n, l1⟩ := A
    obtain ⟨k', p', m', n', l2⟩ := B
    have hat : (l.map eqV)[done.length]? = some (.agg [.int k, .str (txt p), .str (txt m), .int n, .slc false (l1.map tmV), .int k', .str (txt p'), .str (txt m'), .int n', .slc false (l2.map tmV)]) := by rw [he]; simp [eqV]
    rw [tmV_mk, tmV_mk] at x1
    rw [lrun_atC loop9_0]
    simp (implicitDefEqProofs := false) (disch := omega) only [go_sem, seval, rgn Tryd.f9 5 rfl, rgn Tryd.f9 6 rfl, rgn Tryd.f9 7 rfl, rgn Tryd.f9 8 rfl, List.length_map, hlt, htn, hat, x1, x4, x5, thenDraw_append]
    all_goals (congr 1 <;> simp only [List.cons.injEq, AV.val.injEq, Value.int.injEq, Value.bool.injEq, true_and, and_true] <;> omega)
theorem equations_p (l : List (Tm × Tm)) (hl : l.length ≤ 9223372036854775807) (hf : Tm.fits (flatE l)) : ∃ b : Bool, (b = true → tszs (flatE l) ≤ 60 ∧ Tm.tys (flatE l) ∧ l.length ≤ 20) ∧ pcall Tryd.prog md fg 9 [.slc false (l.map eqV)] = some (.val (.bool b)) := by
  by_cases h20 : l.length ≤ 20
  · have hfl : (flatE l).length = 2 * l.length := by
      clear hf h20 hl
      induction l with
      | nil => rfl
      | cons a r ih => rw [show flatE (a :: r) = a.1 :: a.2 :: flatE r from rfl]; simp [ih]; omega
    obtain ⟨b, b1, b2⟩ := few_p (flatE l) (by omega) hf
    obtain ⟨H, kt', e1, e2⟩ := eqs_loop l h20 l [] rfl [] (.slc true []) (.inl ⟨rfl, rfl⟩)
    simp only [List.length_nil, Int.natCast_zero] at e1
    refine ⟨b, fun h => ⟨(b1 h).1, (b1 h).2, h20⟩, ?_⟩
    have hx : ∃ ids, expL (exp1 H expDepth) [kt'] = some ([.slc false ((flatE l).map tmV)], ids) ∧ canFrz H ids = true := by
      rcases e2 with ⟨q1, rfl⟩ | ⟨K, g, rfl, q2, _⟩
      · rw [q1]; exact ⟨[], rfl, rfl⟩
      · have h1 := arr_exp q2 (solid_byl _) 59
        refine ⟨[K], ?_, by simp [canFrz, q2]⟩
        show expL (exp1 H (59 + 1)) _ = _
        unfold expL
        rw [h1]
        rfl
    obtain ⟨ids, hx1, hx2⟩ := hx
    have cc := doCall_look md18 hx1 hx2 b2 rfl
    have e : aval Tryd.prog md fg 9 [.slc false (l.map eqV)] [] = some (.val (.bool b), H) := by
      have h20' : ¬ (20 : Int) < (l.length : Int) := by omega
      rw [aval_of Tryd.func9 body9 Tryd.results9 Tryd.ntmps9 ok9]
      simp (implicitDefEqProofs := false) (disch := omega) only [go_sem, seval, rgn Tryd.f9 0 rfl, rgn Tryd.f9 1 rfl, rgn Tryd.f9 3 rfl, rgn Tryd.f9 4 rfl, rgn Tryd.f9 9 rfl, List.length_map, h20', e1, cc]
    rw [pcall_eq, e, pureRes_solid rfl]
  · refine ⟨false, by simp, ?_⟩
    have e : aval Tryd.prog md fg 9 [.slc false (l.map eqV)] [] = some (.val (.bool false), []) := by
      have h20' : (20 : Int) < (l.length : Int) := by omega
      rw [aval_of Tryd.func9 body9 Tryd.results9 Tryd.ntmps9 ok9]
      simp (implicitDefEqProofs := false) (disch := omega) only [go_sem, seval, rgn Tryd.f9 0 rfl, rgn Tryd.f9 1 rfl, rgn Tryd.f9 2 rfl, List.length_map, h20']
    rw [pcall_eq, e, pureRes_solid rfl]
theorem eqs_c {l : List (Tm × Tm)} {b : Bool} (e : pcall Tryd.prog md fg 9 [.slc false (l.map eqV)] = some (.val (.bool b))) (h : AHeap) : doCall md (aval Tryd.prog md fg) 9 [.slc false (l.map eqV)] h = some (.val (.bool b), h) :=
  doCall_pure md9 (by simp only [solidL, solid, solid_eqs, Bool.not_false, Bool.and_true]) e
theorem IS.agree2 {h H : AHeap} {B : Nat} {sh : List Sh} {P : SMap} {ns : List Nd} (x : IS h 0 B 1 sh P ns) (h2 : ∃ cs, hget h 2 = .vars cs) (hl : h.length ≤ H.length) (ha : ∀ j, j < h.length → j ≠ 2 → hget H j = hget h j) : IS H 0 B 1 sh P ns := by
  obtain ⟨cs, h2⟩ := h2
  have hS : 0 < h.length := by obtain ⟨_, q, _⟩ := x.sp; exact hlt_of q (by simp)
  refine ⟨sp_keep x.sp (ha 0 hS (by decide)) fun A es g q => ?_, ⟨x.nr.1, fun i n s h1 h3 => ?_⟩, by have := x.b; omega, x.vs, ?_⟩
  · rw [ha A (hlt_of q (by simp)) (by rintro rfl; rw [h2] at q; cases q)]; exact q
  · have y := x.nr.2 i n s h1 h3
    refine ⟨y.kind, y.pkg, y.name, ?_, y.to, y.mark, y.le⟩
    rcases y.kids with z | ⟨K, g', e1, e2, e3, e4⟩
    · exact .inl z
    · exact .inr ⟨K, g', e1, by rw [ha K (hlt_of e2 (by simp)) (by rintro rfl; rw [h2] at e2; cases e2)]; exact e2, e3, e4⟩
  · have := x.ms
    unfold MS at this ⊢
    rw [ha 1 (hlt_of this (by simp)) (by decide)]; exact this
mutual
theorem tvars_fit : ∀ (t : Tm), t.fit → ∀ n ∈ tvars t, n.length ≤ 9223372036854775807
  | .mk k p m x l, h, n, hn => by
    rw [Tm.fit] at h
    rw [tvars] at hn
    split at hn
    · rw [List.mem_singleton.1 hn]; exact h.2.1
    · exact tvarss_fit l h.2.2.2 n hn
theorem tvarss_fit : ∀ (l : List Tm), Tm.fits l → ∀ n ∈ tvarss l, n.length ≤ 9223372036854775807
  | [], _, n, hn => by simp [tvarss] at hn
  | t :: r, h, n, hn => by
    rw [Tm.fits] at h
    rw [tvarss, List.mem_append] at hn
    rcases hn with hn | hn
    · exact tvars_fit t h.1 n hn
    · exact tvarss_fit r h.2 n hn
end
theorem tszs_vars : ∀ N : List (List UInt8), tszs (N.map vTm) = N.length
  | [] => by simp [tszs]
  | n :: r => by rw [List.map_cons, tszs, tszs_vars r]; unfold vTm; rw [tsz, tszs]; simp; omega
set_option maxHeartbeats 16000000 in
theorem so_round {l done rem : List (Tm × Tm)} {A B0 : Tm} (he : l = done ++ (A, B0) :: rem) (hty : Tm.tys (flatE l)) (hft : Tm.fits (flatE l)) (hsz : tszs (flatE l) ≤ 40000) (hll : l.length ≤ 40000) {h : AHeap} {B : Nat} {sh : List Sh} {P : SMap} {ns : List Nd} {nb : Bool} {N : List (List UInt8)} {ids : List (Nat × Nat)} (I : LS h B sh P ns nb N l.length done ids) :
    ∃ H B' sh' P' ns' N' a b, lrun Tryd.prog md fg (fg 33) (loopOf Tryd.f33 0) (fg 33 1) ((U::U::U::U::(.ptr 3 0) :: (.arr 4 0 l.length 0 2) :: U::U::U::U::U::U::U::U::U::U::U::U::(.slc false (l.map eqV)) :: (.int l.length) :: (.int done.length) :: U::U::U::U::U::U::U::U::U::U::U::U::U::U::U::U::U::U::U::U::U::U::U::U::U::U::U::U::U::U::U::U::U::U::U::U::U::U::U::U::U::U::U::U::U::U::U::U::U::U::U::U::U::U::U::U::U::U::U::U::U::U::U::U::U::U::U::U::[] : List AV)) h = lrun Tryd.prog md fg (fg 33) (loopOf Tryd.f33 0) (fg 33 1) ((U::U::U::U::(.ptr 3 0) :: (.arr 4 0 l.length 0 2) :: U::U::U::U::U::U::U::U::U::U::U::U::(.slc false (l.map eqV)) :: (.int l.length) :: (.int (done.length + 1 : Nat)) :: U::U::U::U::U::U::U::U::U::U::U::U::U::U::U::U::U::U::U::U::U::U::U::U::U::U::U::U::U::U::U::U::U::U::U::U::U::U::U::U::U::U::U::U::U::U::U::U::U::U::U::U::U::U::U::U::U::U::U::U::U::U::U::U::U::U::U::U::[] : List AV)) H ∧ LS H B' sh' P' ns' false N' l.length (done ++ [(A, B0)]) (ids ++ [(a, b)]) := by
  have hfl : flatE l = flatE done ++ ([A, B0] ++ flatE rem) := by rw [he, flatE_app]; simp [flatE]
  have hfl2 : flatE (done ++ [(A, B0)]) = flatE done ++ [A, B0] := by rw [flatE_app]; simp [flatE]
  rw [hfl, tys_append, tys_append] at hty
  rw [hfl, fits_append, fits_append] at hft
  rw [hfl, tszs_append, tszs_append] at hsz
  have hAB : tszs [A, B0] = tsz A + tsz B0 := by simp [tszs]
  obtain ⟨hty1, hty2, hty3⟩ := hty
  obtain ⟨hft1, hft2, hft3⟩ := hft
  have htyA : A.ty := by simp only [Tm.tys] at hty2; exact hty2.1
  have htyB : B0.ty := by simp only [Tm.tys] at hty2; exact hty2.2.1
  have hftA : A.fit := by simp only [Tm.fits] at hft2; exact hft2.1
  have hftB : B0.fit := by simp only [Tm.fits] at hft2; exact hft2.2.1
  have hNd : N.Nodup := by rw [I.names]; exact vsL_nodup _ _ (by simp)
  have hNl : N.length ≤ tszs (flatE done) := by
    rw [I.names]
    have := vsL_len (flatE done) []
    simpa using this
  have hfv : ∀ N : List (List UInt8), (∀ n ∈ N, n.length ≤ 9223372036854775807) → Tm.fits (N.map vTm) := fun N => by
    induction N with
    | nil => intro _; simp [Tm.fits]
    | cons n r ih => intro hn; rw [List.map_cons, Tm.fits]; exact ⟨by unfold vTm; rw [Tm.fit]; simp [Tm.fits]; exact hn n (by simp), ih fun m hm => hn m (by simp [hm])⟩
  have hNm : ∀ n ∈ N, n.length ≤ 9223372036854775807 := fun n hn => by
    rw [I.names, vsL_mem _ _ _ hty1] at hn
    rcases hn with hn | hn
    · cases hn
    · exact tvarss_fit _ hft1 n hn
  have hfN : Tm.fits (N.map vTm ++ [A, B0]) := (fits_append _ _).2 ⟨hfv N hNm, hft2⟩
  have htN : tszs (N.map vTm ++ [A, B0]) ≤ 100000 := by rw [tszs_append, tszs_vars, hAB]; omega
  have hvN := vs_next hNd A B0
  have hZ := I.z
  have hQ := I.q
  have hT := I.t
  unfold SO at hZ
  have l3 := hlt_of hQ (by simp)
  have l4 := hlt_of hT (by simp)
  obtain ⟨k, p, m, n, l1⟩ := A
  obtain ⟨k', p', m', n', l2⟩ := B0
  generalize hbx : AObj.vars [.int k, .str (txt p), .str (txt m), .int n, .slc false (l1.map tmV), .int k', .str (txt p'), .str (txt m'), .int n', .slc false (l2.map tmV)] = bx
  have i1 := I.is.app [bx]
  have g1 : ∀ j, j < h.length → hget (h ++ [bx]) j = hget h j := fun j hj => hget_app _ hj
  obtain ⟨H1, v1, c1, c2, c3⟩ := varTerms_c nb N (by omega) (h ++ [bx])
  have hsA := solid_tm ⟨k, p, m, n, l1⟩
  have hsB := solid_tm ⟨k', p', m', n', l2⟩
  obtain ⟨v2, H2, d1, d2, d3, d4, d5⟩ := kv_add c2 (by rw [List.length_map]; omega) c3.1 [tmV ⟨k, p, m, n, l1⟩, tmV ⟨k', p', m', n', l2⟩] (by rw [tmV_mk]; rfl) (by simp) (by simp)
  rcases d2 with ⟨q, _⟩ | ⟨K, gK, rfl, hK, hKl⟩
  · simp at q
  obtain ⟨H3, e1, e2, e3⟩ := vars_hand hK hfN (by omega) htN
  rw [hvN] at e1
  have hl1 := c3.1
  have hl2 := d3.1
  simp only [List.length_append, List.length_cons, List.length_nil] at hl1 hKl
  have a3 : ∀ j, j < h.length + 1 → hget H3 j = hget (h ++ [bx]) j := fun j hj => by
    rw [e3 j (by omega), d3.2 j (by simp; omega), c3.2 j (by simp; omega)]
  have z3 : hget H3 2 = .vars [.ptr 0 0, .mp 1, .slc nb (N.map sV)] := by rw [a3 2 (by omega), g1 2 (by omega)]; exact hZ
  generalize hH4 : H3.set 2 (.vars [.ptr 0 0, .mp 1, .slc false ((vsL N [⟨k, p, m, n, l1⟩, ⟨k', p', m', n', l2⟩]).map sV)]) = H4
  have a4 : ∀ j, j < h.length + 1 → j ≠ 2 → hget H4 j = hget (h ++ [bx]) j := fun j hj hj2 => by
    rw [← hH4, hget_set_ne (fun q => hj2 q.symm)]; exact a3 j hj
  have l4' : h.length + 1 ≤ H4.length := by rw [← hH4, List.length_set]; omega
  have z4 : SO H4 2 0 1 (.slc false ((vsL N [⟨k, p, m, n, l1⟩, ⟨k', p', m', n', l2⟩]).map sV)) := by rw [← hH4]; exact hget_set_eq (by omega)
  have q4 : hget H4 3 = .vars [.ptr 2 0] := by rw [a4 3 (by omega) (by decide), g1 3 l3]; exact hQ
  have i4 : IS H4 0 B 1 sh P ns := i1.agree2 ⟨_, by rw [g1 2 (by omega)]; exact hZ⟩ (by simp; exact l4') (fun j hj hj2 => a4 j (by simpa using hj) hj2)
  have b4 : hget H4 h.length = bx := by rw [a4 _ (by omega) (by omega)]; exact hget_last
  have t4 : hget H4 4 = .arr 2 ((ids ++ List.replicate (l.length - done.length) (0, 0)).map prV) 0 := by rw [a4 4 (by omega) (by decide), g1 4 l4]; exact hT
  have hfr := fr_55 q4 z4
  have hsz1 := I.sz
  have hkc1 := I.kc
  obtain ⟨H5, a, B5, sh5, P5, ns5, f1, i5, ip5, ie5, v5, le5, kc5, ku5, ar5, nw5⟩ := imp_all callable_55 hfr ⟨k, p, m, n, l1⟩ htyA hftA H4 B sh P ns (Ku.refl _ _ _ _) i4 I.ip (by omega)
  obtain ⟨H6, b, B6, sh6, P6, ns6, f2, i6, ip6, ie6, v6, le6, kc6, ku6, ar6, nw6⟩ := imp_all callable_55 hfr ⟨k', p', m', n', l2⟩ htyB hftB H5 B5 sh5 P5 ns5 ku5 i5 ip5 (by omega)
  have q5 : hget H5 3 = .vars [.ptr 2 0] := ku5.2 3 _ q4 (by simp) (by decide) (by decide) (by decide) (by simp)
  have z5 : hget H5 2 = .vars [.ptr 0 0, .mp 1, .slc false ((vsL N [⟨k, p, m, n, l1⟩, ⟨k', p', m', n', l2⟩]).map sV)] := ku5.2 2 _ z4 (by simp) (by decide) (by decide) (by decide) (by simp)
  have b5 : hget H5 h.length = bx := ku5.2 _ _ b4 (by rw [← hbx]; simp) (by omega) (by omega) (by omega) (by rw [← hbx]; simp)
  have q6 : hget H6 3 = .vars [.ptr 2 0] := ku6.2 3 _ q5 (by simp) (by decide) (by decide) (by decide) (by simp)
  have z6 : hget H6 2 = .vars [.ptr 0 0, .mp 1, .slc false ((vsL N [⟨k, p, m, n, l1⟩, ⟨k', p', m', n', l2⟩]).map sV)] := ku6.2 2 _ z5 (by simp) (by decide) (by decide) (by decide) (by simp)
  have b6 : hget H6 h.length = bx := ku6.2 _ _ b5 (by rw [← hbx]; simp) (by omega) (by omega) (by omega) (by rw [← hbx]; simp)
  have t6 : hget H6 4 = .arr 2 ((ids ++ List.replicate (l.length - done.length) (0, 0)).map prV) 0 := (ku5.trans ku6).2 4 _ t4 (by simp) (by decide) (by decide) (by decide) (by simp)
  have hdl : done.length < l.length := by rw [he]; simp
  have hrep : List.replicate (l.length - done.length) ((0, 0) : Nat × Nat) = (0, 0) :: List.replicate (l.length - (done.length + 1)) (0, 0) := by
    rw [show l.length - done.length = (l.length - (done.length + 1)) + 1 by omega]; rfl
  have hidl := I.len
  have hgT : ((ids ++ List.replicate (l.length - done.length) (0, 0)).map prV)[done.length]? = some (.agg [.int 0, .int 0]) := by
    rw [hrep, List.getElem?_map, List.getElem?_append_right (by omega), hidl, Nat.sub_self]; rfl
  have hset : ((ids ++ List.replicate (l.length - done.length) (0, 0)).map prV).set done.length (.agg [.int (a : Int), .int (b : Int)]) = ((ids ++ [(a, b)]) ++ List.replicate (l.length - (done ++ [(Tm.mk k p m n l1, Tm.mk k' p' m' n' l2)]).length) (0, 0)).map prV := by
    have e : (done ++ [(Tm.mk k p m n l1, Tm.mk k' p' m' n' l2)]).length = done.length + 1 := by simp
    rw [hrep, e, List.map_append, List.map_cons, List.set_append_right _ _ (by simp; omega)]
    simp only [List.length_map, hidl, Nat.sub_self, List.set_cons_zero]
    simp [prV]
  have hstp := septr_pr (a := a) (b := b) (H1 := H6) (T := 4) (g := 0) _ hgT
  rw [hset] at hstp
  have t6l := hlt_of t6 (by simp)
  have ie := ie5.trans ie6
  refine ⟨H6.set 4 (.arr 2 (((ids ++ [(a, b)]) ++ List.replicate (l.length - (done ++ [(Tm.mk k p m n l1, Tm.mk k' p' m' n' l2)]).length) (0, 0)).map prV) 0), B6, sh6, P6, ns6, _, a, b, ?_, ⟨i6.set2 (by decide) (by decide) t6 _, ip6, (hget_set_ne (by decide)).trans z6, (hget_set_ne (by decide)).trans q6, hget_set_eq t6l, by simp [hidl], fun j a' b' A' B' h1 h2 => ?_, ?_, fun x => ?_, ?_, ?_⟩⟩
  · have hlt : (done.length : Int) < (l.length : Int) := by omega
    have htn : ((done.length : Int)).toNat = done.length := by omega
    have hat : (l.map eqV)[done.length]? = some (.agg [.int k, .str (txt p), .str (txt m), .int n, .slc false (l1.map tmV), .int k', .str (txt p'), .str (txt m'), .int n', .slc false (l2.map tmV)]) := by
      rw [he]; simp [eqV]
    have x1 : hget (h ++ [bx]) 3 = .vars [.ptr 2 0] := (g1 3 l3).trans hQ
    have x2 : hget (h ++ [bx]) 2 = .vars [.ptr 0 0, .mp 1, .slc nb (N.map sV)] := (g1 2 (by omega)).trans hZ
    have x3 : hget (h ++ [bx]) h.length = bx := hget_last
    have y1 : ∀ j, j < h.length + 1 → hget H1 j = hget (h ++ [bx]) j := fun j hj => c3.2 j (by simp; omega)
    have y2 : ∀ j, j < h.length + 1 → hget H2 j = hget (h ++ [bx]) j := fun j hj => by rw [d3.2 j (by simp; omega)]; exact y1 j hj
    have u1 := (y1 3 (by omega)).trans x1
    have u2 := (y1 2 (by omega)).trans x2
    have u3 := (y1 h.length (by omega)).trans x3
    have w1 := (y2 3 (by omega)).trans x1
    have w2 := (y2 2 (by omega)).trans x2
    have w3 := (y2 h.length (by omega)).trans x3
    have s1 := (a3 3 (by omega)).trans x1
    have s3 := (a3 h.length (by omega)).trans x3
    rw [tmV_mk, tmV_mk] at d1 e1
    rw [tmV_mk] at f1 f2
    subst hbx
    unfold SO at z4
    rw [lrun_atC loop33_0]
    simp (implicitDefEqProofs := false) (disch := first | omega | exact List.length_set) only [go_sem, seval, rgn Tryd.f33 4 rfl, rgn Tryd.f33 5 rfl, rgn Tryd.f33 6 rfl, rgn Tryd.f33 7 rfl, rgn Tryd.f33 8 rfl, rgn Tryd.f33 9 rfl, hlt, htn, hat, hget_last, set_last, x1, x2, x3, u1, u2, u3, w1, w2, w3, s1, s3, z3, c1, d1, e1, hH4, z4, q4, b4, z5, q5, b5, z6, q6, b6, f1, f2, t6, hstp, md54, md53, md39, beq_self_eq_true, Bool.true_or, Bool.false_or, abuild_91', thenDraw_store]
    all_goals (congr 1 <;> simp only [List.cons.injEq, AV.val.injEq, Value.int.injEq, Value.bool.injEq, true_and, and_true] <;> omega)
  · by_cases hj : j < ids.length
    · rw [List.getElem?_append_left hj] at h1
      rw [List.getElem?_append_left (by omega)] at h2
      obtain ⟨y1, y2⟩ := I.vals j a' b' A' B' h1 h2
      exact ⟨y1.ext ie, y2.ext ie⟩
    · have := lt_of_at h1
      have : j = ids.length := by simp at this; omega
      subst this
      rw [List.getElem?_append_right (Nat.le_refl _), Nat.sub_self] at h1
      rw [List.getElem?_append_right (by omega), hidl, Nat.sub_self] at h2
      cases h1; cases h2
      exact ⟨v5.ext ie6, v6⟩
  · rw [hfl2, vsL_app, ← I.names]
  · rw [vsL_mem _ _ _ (by simp only [Tm.tys]; exact ⟨htyA, htyB, trivial⟩), I.dom x]
    have ht : tvarss [Tm.mk k p m n l1, Tm.mk k' p' m' n' l2] = tvars (Tm.mk k p m n l1) ++ tvars (Tm.mk k' p' m' n' l2) := by simp [tvarss]
    rw [ht]
    constructor
    · rintro (⟨i, hi⟩ | hx)
      · exact ⟨i, ie.keep x i hi⟩
      · exact ie.has x hx
    · rintro ⟨i, hi⟩
      rcases ie.only x i hi with h | h
      · exact .inl ⟨i, h⟩
      · exact .inr h
  · rw [hfl2, tszs_append, hAB]; omega
  · rw [hfl2, tszs_append, hAB]; omega
theorem callD_29 {env : Env} {d d2 : Option Tmp} {ty : TypeId} {pos : String} {aft : Array Edge} {g : Option (Nat × Bool)} (cs : Array Operand) (ts : Array TypeId) (h0 h' : AHeap) (v : AV) (k : Env → AHeap → Option (Env × AHeap)) : callD Tryd.prog md ⟨d, .call ⟨.value (.func 29), cs, ts⟩, ty, pos, aft, g⟩ h0 (some (v, h')) d2 k env = k (aput env d2 v) h' := by
  have : effOp Tryd.prog md ⟨d, .call ⟨.value (.func 29), cs, ts⟩, ty, pos, aft, g⟩ = true := rfl
  simp [callD, this]
theorem so_loop {l : List (Tm × Tm)} (hty : Tm.tys (flatE l)) (hft : Tm.fits (flatE l)) (hsz : tszs (flatE l) ≤ 40000) (hll : l.length ≤ 40000) : ∀ (rem done : List (Tm × Tm)), l = done ++ rem → ∀ {h : AHeap} {B : Nat} {sh : List Sh} {P : SMap} {ns : List Nd} {nb : Bool} {N : List (List UInt8)} {ids : List (Nat × Nat)}, LS h B sh P ns nb N l.length done ids →
    ∃ H B' sh' P' ns' nb' N' ids', lrun Tryd.prog md fg (fg 33) (loopOf Tryd.f33 0) (fg 33 1) ((U::U::U::U::(.ptr 3 0) :: (.arr 4 0 l.length 0 2) :: U::U::U::U::U::U::U::U::U::U::U::U::(.slc false (l.map eqV)) :: (.int l.length) :: (.int done.length) :: U::U::U::U::U::U::U::U::U::U::U::U::U::U::U::U::U::U::U::U::U::U::U::U::U::U::U::U::U::U::U::U::U::U::U::U::U::U::U::U::U::U::U::U::U::U::U::U::U::U::U::U::U::U::U::U::U::U::U::U::U::U::U::U::U::U::U::U::[] : List AV)) h = some (.exit 0, (U::U::U::U::(.ptr 3 0) :: (.arr 4 0 l.length 0 2) :: U::U::U::U::U::U::U::U::U::U::U::U::(.slc false (l.map eqV)) :: (.int l.length) :: (.int l.length) :: U::U::U::U::U::U::U::U::U::U::U::U::U::U::U::U::U::U::U::U::U::U::U::U::U::U::U::U::U::U::U::U::U::U::U::U::U::U::U::U::U::U::U::U::U::U::U::U::U::U::U::U::U::U::U::U::U::U::U::U::U::U::U::U::U::U::U::U::[] : List AV), H) ∧ LS H B' sh' P' ns' nb' N' l.length l ids'
  | [], done, he, h, B, sh, P, ns, nb, N, ids, I => by
    rw [List.append_nil] at he
    subst he
    refine ⟨h, B, sh, P, ns, nb, N, ids, ?_, I⟩
    rw [lrun_atC loop33_0]
    simp (implicitDefEqProofs := false) (disch := omega) only [go_sem, seval, rgn Tryd.f33 4 rfl]
  | (A, B0) :: rem, done, he, h, B, sh, P, ns, nb, N, ids, I => by
    obtain ⟨H1, B1, sh1, P1, ns1, N1, a, b, e1, I1⟩ := so_round he hty hft hsz hll I
    obtain ⟨H, B', sh', P', ns', nb', N', ids', e2, I2⟩ := so_loop hty hft hsz hll rem (done ++ [(A, B0)]) (by rw [he]; simp) I1
    refine ⟨H, B', sh', P', ns', nb', N', ids', ?_, I2⟩
    have hlen : (done ++ [(A, B0)]).length = done.length + 1 := by simp
    rw [hlen] at e2
    rw [e1, e2]
structure MS2 (h : AHeap) (B : Nat) (sh : List Sh) (P : SMap) (rt r : Nat → Nat) (vis : Nat → Bool) (w : Int) (ns : List Nd) (nv : AV) (ids : List (Nat × Nat)) : Prop where
  sp : SP h 0 ns 200000 false w
  nr : NR h 0 B sh rt r vis w ns
  ok : Ok sh rt r
  b : B ≤ h.length
  ms : MS h 1 P
  z : SO h 2 0 1 nv
  q : hget h 3 = .vars [.ptr 2 0]
  t : hget h 4 = .arr 2 (ids.map prV) 0
def AllP (M : Nat → Tm) (l : List (Nat × Nat)) : Prop := ∀ p ∈ l, M p.1 = M p.2
set_option maxHeartbeats 8000000 in
theorem un_loop {sh : List Sh} {P : SMap} {nv : AV} {ids : List (Nat × Nat)} (hids : ids.length ≤ 1000) (hsz : kc sh ≤ 70000) (hsh : sh.length ≤ 100000) (hlt : ∀ p ∈ ids, p.1 < sh.length ∧ p.2 < sh.length) (a2 a3 : AV) : ∀ (rem done : List (Nat × Nat)), ids = done ++ rem → ∀ {h : AHeap} {B : Nat} {rt r : Nat → Nat} {vis : Nat → Bool} {w : Int} {ns : List Nd}, MS2 h B sh P rt r vis w ns nv ids → 0 ≤ w → w ≤ 200000 * done.length → (∀ M, Mod sh rt M → Con sh M ∧ AllP M done) → (∀ M, Con sh M → AllP M done → Mod sh rt M) →
    ∃ H res B' rt' r' vis' w' ns' a2' a3' a72, lrun Tryd.prog md fg (fg 33) (loopOf Tryd.f33 2) (fg 33 3) ((.unk :: .unk :: (a2) :: (a3) :: (.ptr 3 0) :: U::U::U::U::U::U::U::U::U::U::U::U::U::U::U::U::U::U::U::U::U::U::U::U::U::U::U::U::U::U::U::U::U::U::U::U::U::U::U::U::U::U::U::U::U::U::U::U::U::U::U::U::U::U::U::U::U::U::U::U::U::U::U::U::U::(.arr 4 0 ids.length 0 2) :: (.int ids.length) :: (.int done.length) :: U::U::U::U::U::U::U::U::U::U::U::U::U::U::U::U::[] : List AV)) h = some (if res then .exit 2 else .ret, (.unk :: .unk :: (a2') :: (a3') :: (.ptr 3 0) :: U::U::U::U::U::U::U::U::U::U::U::U::U::U::U::U::U::U::U::U::U::U::U::U::U::U::U::U::U::U::U::U::U::U::U::U::U::U::U::U::U::U::U::U::U::U::U::U::U::U::U::U::U::U::U::U::U::U::U::U::U::U::U::U::U::(.arr 4 0 ids.length 0 2) :: (.int ids.length) :: (a72) :: U::U::U::U::U::U::U::U::U::U::U::U::U::U::U::U::[] : List AV), H) ∧ (res = false → a2' = .ptr 2 0 ∧ a3' = .val (.bool false)) ∧ (if res then MS2 H B' sh P rt' r' vis' w' ns' nv ids ∧ 0 ≤ w' ∧ w' ≤ 200000 * ids.length ∧ (∀ M, Mod sh rt' M → Con sh M ∧ AllP M ids) ∧ (∀ M, Con sh M → AllP M ids → Mod sh rt' M) else ∀ M, Con sh M → ¬ AllP M ids)
  | [], done, he, h, B, rt, r, vis, w, ns, I, w0, w1, hb, hg => by
    rw [List.append_nil] at he
    subst he
    refine ⟨h, true, B, rt, r, vis, w, ns, a2, a3, .int ids.length, ?_, by simp, by rw [if_pos rfl]; exact ⟨I, w0, w1, hb, hg⟩⟩
    rw [if_pos rfl]
    rw [lrun_atC loop33_2]
    simp (implicitDefEqProofs := false) (disch := omega) only [go_sem, seval, rgn Tryd.f33 11 rfl]
  | (a, b) :: rem, done, he, h, B, rt, r, vis, w, ns, I, w0, w1, hb, hg => by
    have hll : ids.length = done.length + (rem.length + 1) := by rw [he]; simp
    obtain ⟨hal, hbl⟩ := hlt (a, b) (by rw [he]; simp)
    have k0 := kf_app 0 h [AObj.vars [.int (a : Int), .int (b : Int)]]
    obtain ⟨H1, res, ns1, rt1, r1, vis1, w1', c1, c2, c3, c4, c5, c6, c7, c8⟩ := unify_c I.ok (sp_app I.sp [AObj.vars [.int (a : Int), .int (b : Int)]]) (I.nr.kf k0) (by have := I.b; simp; omega) (by rw [wt_none]; omega) w0 (by omega) (by omega) hal hbl
    have kk := k0.trans c5
    have hQ := I.q
    have hZ := I.z
    have hT := I.t
    have hM := I.ms
    have q1 : hget H1 3 = .vars [.ptr 2 0] := kk.2 3 _ hQ (by simp) (by decide) (by simp)
    have z1 : SO H1 2 0 1 nv := kk.2 2 _ hZ (by simp) (by decide) (by simp)
    have t1 : hget H1 4 = .arr 2 (ids.map prV) 0 := kk.2 4 _ hT (by simp) (by decide) (by simp)
    have m1 : MS H1 1 P := kk.2 1 _ hM (by simp) (by decide) (by simp)
    have hlti : (done.length : Int) < (ids.length : Int) := by omega
    have htn : ((done.length : Int)).toNat = done.length := by omega
    have hat : (ids.map prV)[done.length]? = some (.agg [.int (a : Int), .int (b : Int)]) := by rw [he]; simp [prV]
    have l3 := hlt_of hQ (by simp)
    have g3 : hget (h ++ [AObj.vars [.int (a : Int), .int (b : Int)]]) 3 = .vars [.ptr 2 0] := (hget_app _ l3).trans hQ
    have g2 : hget (h ++ [AObj.vars [.int (a : Int), .int (b : Int)]]) 2 = .vars [.ptr 0 0, .mp 1, nv] := (hget_app _ (by omega)).trans hZ
    unfold SO at z1
    have hbox : hget (h ++ [AObj.vars [.int (a : Int), .int (b : Int)]]) h.length = .vars [.int (a : Int), .int (b : Int)] := hget_last
    have hbox1 : hget H1 h.length = .vars [.int (a : Int), .int (b : Int)] := c5.2 _ _ hget_last (by simp) (by omega) (by simp)
    cases res with
    | false =>
      refine ⟨H1, false, B, rt, r, vis, w, ns, .ptr 2 0, .val (.bool false), .int done.length, ?_, fun _ => ⟨rfl, rfl⟩, ?_⟩
      · simp only [Bool.false_eq_true, if_false]
        rw [lrun_atC loop33_2]
        simp (implicitDefEqProofs := false) (disch := first | omega | exact List.length_set) only [go_sem, seval, rgn Tryd.f33 11 rfl, rgn Tryd.f33 12 rfl, rgn Tryd.f33 13 rfl, rgn Tryd.f33 14 rfl, hlti, htn, hT, hat, hget_last, set_last, g3, g2, c1, q1, z1, hbox1, callD_29]
      · simp only [Bool.false_eq_true, if_false] at c8 ⊢
        intro M hM2 hall
        exact c8 M (hg M hM2 fun p hp => hall p (by rw [he]; simp [hp])) (hall (a, b) (by rw [he]; simp))
    | true =>
      simp only [if_true] at c8
      have hlen : (done ++ [(a, b)]).length = done.length + 1 := by simp
      obtain ⟨H, res, B', rt', r', vis', w', ns', a2', a3', a72, d1, d2, d3⟩ := un_loop (nv := nv) hids hsz hsh hlt a2 a3 rem (done ++ [(a, b)]) (by rw [he]; simp) (h := H1) (B := B) (rt := rt1) (r := r1) (vis := vis1) (w := w1') (ns := ns1) ⟨c2, c4, c3, by have := I.b; have := kk.1; omega, m1, z1, q1, t1⟩ (by omega) (by rw [hlen]; omega) (fun M hm => by
          obtain ⟨x1, x2⟩ := c8.1 M hm
          obtain ⟨y1, y2⟩ := hb M x1
          refine ⟨y1, fun p hp => ?_⟩
          rcases List.mem_append.1 hp with hp | hp
          · exact y2 p hp
          · rw [List.mem_singleton.1 hp]; exact x2) (fun M hm hall => c8.2 M (hg M hm fun p hp => hall p (by simp [hp])) (hall (a, b) (by simp)))
      refine ⟨H, res, B', rt', r', vis', w', ns', a2', a3', a72, ?_, d2, d3⟩
      rw [hlen] at d1
      rw [← d1]
      rw [lrun_atC loop33_2]
      simp (implicitDefEqProofs := false) (disch := first | omega | exact List.length_set) only [go_sem, seval, rgn Tryd.f33 11 rfl, rgn Tryd.f33 12 rfl, rgn Tryd.f33 13 rfl, rgn Tryd.f33 15 rfl, hlti, htn, hT, hat, hget_last, set_last, g3, g2, c1, q1, z1, hbox1, callD_29]
      all_goals (congr 1 <;> simp only [List.cons.injEq, AV.val.injEq, Value.int.injEq, Value.bool.injEq, true_and, and_true] <;> omega)
theorem amake_92 (h : AHeap) (n : Nat) (hn : n ≤ 100000) : amake Tryd.prog 92 h (.int (n : Int)) (.int (n : Int)) = some (.arr h.length 0 n 0 2, h ++ [.arr 2 ((List.replicate n ((0, 0) : Nat × Nat)).map prV) 0]) := by
  have hz : prV (0, 0) = .agg [.int 0, .int 0] := rfl
  rw [List.map_replicate, hz]
  unfold amake
  have e : ((n : Int)).toNat = n := by omega
  have : tslice Tryd.prog 92 = some (2, 16, .agg [.int 0, .int 0]) := tslice_92
  rw [this]
  show (if 0 ≤ (n : Int) ∧ (n : Int) ≤ (n : Int) ∧ ((n : Int)).toNat * 16 ≤ 2 ^ 47 then some (AV.arr h.length 0 ((n : Int)).toNat 0 2, h ++ [AObj.arr 2 (List.replicate ((n : Int)).toNat (.agg [.int 0, .int 0])) 0]) else none) = _
  rw [e, if_pos ⟨by omega, Int.le_refl _, by omega⟩]
theorem cells_mp (k : Nat) : (AV.mp k).cells = [.mp k] := rfl
theorem ok_mp (k : Nat) : okVal (.mp k) = true := rfl
def Eqs (th : List UInt8 → Tm) (l : List (Tm × Tm)) : Prop := ∀ p ∈ l, inst th p.1 = inst th p.2
structure SD (l : List (Tm × Tm)) (sh : List Sh) (P : SMap) (N : List (List UInt8)) : Prop where
  ip : IP sh P
  names : N = vsL [] (flatE l)
  dom : ∀ n, n ∈ N ↔ ∃ i, mg P n = some i
  sz : sh.length ≤ tszs (flatE l)
  kc : kc sh ≤ tszs (flatE l)
theorem allp_eqs {l : List (Tm × Tm)} {sh : List Sh} {P : SMap} {ids : List (Nat × Nat)} (hl : ids.length = l.length) (hv : ∀ (j a b : Nat) (A B : Tm), ids[j]? = some (a, b) → l[j]? = some (A, B) → Val sh P a A ∧ Val sh P b B) {M : Nat → Tm} (hM : Con sh M) : AllP M ids ↔ Eqs (fun n => M (vmap P n)) l := by
  constructor
  · intro h p hp
    obtain ⟨j, hj⟩ := List.mem_iff_getElem?.1 hp
    obtain ⟨⟨a, b⟩, hi⟩ := at_of_lt (l := ids) (i := j) (by rw [hl]; exact lt_of_at hj)
    obtain ⟨A, B⟩ := p
    obtain ⟨v1, v2⟩ := hv j a b A B hi hj
    have := h (a, b) (List.mem_of_getElem? hi)
    rw [v1.2.2 M hM, v2.2.2 M hM] at this
    exact this
  · intro h p hp
    obtain ⟨j, hj⟩ := List.mem_iff_getElem?.1 hp
    obtain ⟨⟨A, B⟩, hi⟩ := at_of_lt (l := l) (i := j) (by rw [← hl]; exact lt_of_at hj)
    obtain ⟨a, b⟩ := p
    obtain ⟨v1, v2⟩ := hv j a b A B hj hi
    show M a = M b
    rw [v1.2.2 M hM, v2.2.2 M hM]
    exact h (A, B) (List.mem_of_getElem? hi)
set_option maxHeartbeats 8000000 in
theorem solve_c {l : List (Tm × Tm)} (hty : Tm.tys (flatE l)) (hft : Tm.fits (flatE l)) (hsz : tszs (flatE l) ≤ 40000) (hll : l.length ≤ 1000) :
    ∃ H res sh P N, doCall md (aval Tryd.prog md fg) 33 [.slc false (l.map eqV)] [] = some (.tup [.ptr 2 0, .val (.bool res)], H) ∧ SD l sh P N ∧ (if res then ∃ B rt r vis w ns nb ids, MS2 H B sh P rt r vis w ns (.slc nb (N.map sV)) ids ∧ (∀ M, Mod sh rt M → Con sh M ∧ Eqs (fun n => M (vmap P n)) l) ∧ (∀ M, Con sh M → Eqs (fun n => M (vmap P n)) l → Mod sh rt M) else ∀ M, Con sh M → ¬ Eqs (fun n => M (vmap P n)) l) := by
  obtain ⟨S0, cn, sn, hS0⟩ := new_c 200000 (by omega) (by omega) []
  rw [List.nil_append] at hS0
  simp only [List.length_nil] at cn sn
  subst hS0
  have I0 : LS [.vars [.slc true [], .int 200000, .val (.bool false), .int 0], .map [] 0, .vars [.ptr 0 0, .mp 1, .slc true []], .vars [.ptr 2 0], .arr 2 ((List.replicate l.length ((0, 0) : Nat × Nat)).map prV) 0] 0 [] (([], 0) : SMap) [] true [] l.length [] [] := by
    refine ⟨⟨⟨.slc true [], rfl, .inl ⟨rfl, rfl⟩⟩, ⟨rfl, fun i n s h => by simp at h⟩, Nat.zero_le _, by decide, rfl⟩, ⟨⟨fun i h => by simp at h, fun i h => by simp at h, fun i s h => by simp at h, fun i s k h => by simp at h, fun i h => by simp at h, fun i s h => by simp at h, fun i s h => by simp at h⟩, fun n i h => by simp [mg, mf] at h, fun n m i h => by simp [mg, mf] at h, fun i s h => by simp at h, fun i s h => by simp at h⟩, rfl, rfl, ?_, rfl, fun j a b A B h => by simp at h, ?_, fun n => by simp [mg, mf], by simp, by simp [kc]⟩
    · show AObj.arr 2 _ 0 = _
      simp
    · simp [flatE, vsL]
  obtain ⟨H1, B1, sh, P, ns1, nb, N, ids, e1, I1⟩ := so_loop hty hft hsz (by omega) l [] rfl I0
  simp only [List.length_nil, Int.natCast_zero] at e1
  have hsd : SD l sh P N := ⟨I1.ip, I1.names, I1.dom, I1.sz, I1.kc⟩
  have hT := I1.t
  rw [Nat.sub_self, List.replicate_zero, List.append_nil] at hT
  have hidl := I1.len
  have hlt : ∀ p ∈ ids, p.1 < sh.length ∧ p.2 < sh.length := fun p hp => by
    obtain ⟨j, hj⟩ := List.mem_iff_getElem?.1 hp
    obtain ⟨⟨A, B⟩, hi⟩ := at_of_lt (l := l) (i := j) (by rw [← hidl]; exact lt_of_at hj)
    obtain ⟨v1, v2⟩ := I1.vals j p.1 p.2 A B hj hi
    exact ⟨v1.1, v2.1⟩
  have M1 : MS2 H1 B1 sh P idf idf yes 0 ns1 (.slc nb (N.map sV)) ids := ⟨I1.is.sp, I1.is.nr, I1.ip.ok, I1.is.b, I1.is.ms, I1.z, I1.q, hT⟩
  have hmod : ∀ M, Con sh M → Mod sh idf M := fun M h => ⟨fun _ _ => rfl, h⟩
  have hk1 := I1.kc
  have hs1 := I1.sz
  obtain ⟨H2, res, B2, rt, r, vis, w, ns2, a2', a3', a72, e2, e3, e4⟩ := un_loop (ids := ids) (by omega) (by omega) (by omega) hlt .unk .unk ids [] rfl M1 (Int.le_refl _) (by simp) (fun M h => ⟨h.2, fun p hp => by cases hp⟩) (fun M h _ => hmod M h)
  simp only [List.length_nil, Int.natCast_zero] at e2
  rw [hidl] at e2
  have hq1 := I1.q
  have e : aval Tryd.prog md fg 33 [.slc false (l.map eqV)] [] = some (.tup [.ptr 2 0, .val (.bool res)], H2) := by
    have hmk := fun h => amake_92 h l.length (by omega)
    cases res with
    | false =>
      obtain ⟨rfl, rfl⟩ := e3 rfl
      simp only [Bool.false_eq_true, if_false] at e2
      rw [aval_of Tryd.func33 body33 Tryd.results33 Tryd.ntmps33 ok33]
      simp (implicitDefEqProofs := false) (disch := first | omega | exact List.length_set) only [go_sem, seval, rgn Tryd.f33 0 rfl, rgn Tryd.f33 1 rfl, rgn Tryd.f33 2 rfl, rgn Tryd.f33 3 rfl, rgn Tryd.f33 10 rfl, cn, aop_makeMap0, isMapT_68, List.nil_append, List.cons_append, List.length_cons, List.length_nil, List.length_map, hmk, ato2_some, e1, e2, Nat.zero_add, Nat.reduceAdd, cells_mp, ok_mp]
    | true =>
      simp only [if_true] at e2 e4
      have hq2 := e4.1.q
      rw [aval_of Tryd.func33 body33 Tryd.results33 Tryd.ntmps33 ok33]
      simp (implicitDefEqProofs := false) (disch := first | omega | exact List.length_set) only [go_sem, seval, rgn Tryd.f33 0 rfl, rgn Tryd.f33 1 rfl, rgn Tryd.f33 2 rfl, rgn Tryd.f33 3 rfl, rgn Tryd.f33 10 rfl, rgn Tryd.f33 16 rfl, cn, aop_makeMap0, isMapT_68, List.nil_append, List.cons_append, List.length_cons, List.length_nil, List.length_map, hmk, ato2_some, e1, e2, hq2, Nat.zero_add, Nat.reduceAdd, cells_mp, ok_mp]
  refine ⟨H2, res, sh, P, N, ?_, hsd, ?_⟩
  · rw [doCall_0 (by decide)]
    unfold doCall0
    rw [if_neg (by decide), rated_id (by decide), e]
    dsimp only
    rw [if_neg (fun q => by have := q.1; simp [below, belowL] at this)]
  · cases res with
    | false =>
      simp only [Bool.false_eq_true, if_false] at e4 ⊢
      exact fun M hM hE => e4 M hM ((allp_eqs hidl I1.vals hM).2 hE)
    | true =>
      simp only [if_true] at e4 ⊢
      obtain ⟨f1, f2, f3, f4, f5⟩ := e4
      exact ⟨B2, rt, r, vis, w, ns2, nb, ids, f1, fun M hm => ⟨(f4 M hm).1, (allp_eqs hidl I1.vals (f4 M hm).1).1 (f4 M hm).2⟩, fun M hm hE => f5 M hm ((allp_eqs hidl I1.vals hm).2 hE)⟩
def zeroV : AV := .agg [.val (.int .i64 0), .val (.string ⟨#[]⟩), .val (.string ⟨#[]⟩), .val (.int .i64 0), .slc true []]
section
variable {h : AHeap} {B : Nat} {sh : List Sh} {P : SMap} {rt r : Nat → Nat} {vis : Nat → Bool} {w : Int} {ns : List Nd} {nb : Bool} {N : List (List UInt8)} {ids : List (Nat × Nat)} {T : Nat → Tm}
theorem MS2.kf {H : AHeap} {nv : AV} (x : MS2 h B sh P rt r vis w ns nv ids) (k : Kf 0 h H) {ns' : List Nd} (hs : SP H 0 ns' 200000 false w) (hn : NR H 0 B sh rt r vis w ns') : MS2 H B sh P rt r vis w ns' nv ids :=
  ⟨hs, hn, x.ok, by have := x.b; have := k.1; omega, k.2 1 _ x.ms (by simp) (by decide) (by simp), k.2 2 _ x.z (by simp) (by decide) (by simp), k.2 3 _ x.q (by simp) (by decide) (by simp), k.2 4 _ x.t (by simp) (by decide) (by simp)⟩
set_option maxHeartbeats 8000000 in
theorem of_c (x : MS2 h B sh P rt r vis w ns (.slc nb (N.map sV)) ids) (hT : Mod sh rt T) (hTv : ∀ (v : Nat) (s : Sh), sh[v]? = some s → s.kind = 1 → rt v = v → T v = ⟨1, [], fstN P rt v N, 0, []⟩) (hkc : kc sh ≤ 90000) (hN : N.length ≤ 90000) (hNv : ∀ n ∈ N, vmap P n < sh.length) {i : Nat} (hi : i < sh.length) :
    ∃ H ns', doCall md (aval Tryd.prog md fg) 34 [.ptr 2 0, .int (i : Nat)] h = some (.tup [if tsz (T i) ≤ 1000 then tmV (T i) else zeroV, .val (.bool (decide (tsz (T i) ≤ 1000)))], H) ∧ MS2 H B sh P rt r vis w ns' (.slc nb (N.map sV)) ids ∧ Kf 0 h H := by
  have hQ := x.q
  have hZ := x.z
  have hM := x.ms
  have l3 := hlt_of hQ (by simp)
  have hb := x.b
  have k0 := kf_app 0 h [AObj.vars [.val (.int .i64 0), .val (.string ⟨#[]⟩), .val (.string ⟨#[]⟩), .val (.int .i64 0), .slc true []], .map [] 0]
  have hv1 : ∀ (v : Nat) (s : Sh), sh[v]? = some s → s.kind = 1 → rt v = v → tsz (T v) = 1 := fun v s h1 h2 h3 => by rw [hTv v s h1 h2 h3, tsz, tszs]
  obtain ⟨H1, ns1, Q1, c1, c2, c3, c4, c5, c6, c7⟩ := size_all (S := 0) (B := B) (Z := h.length + 1) (b := 200000) (w := w) (fl := false) (vis := vis) x.ok hT hv1 (by omega) (by omega) (by omega) (r i + 1) i (by omega) hi (h ++ [AObj.vars [.val (.int .i64 0), .val (.string ⟨#[]⟩), .val (.string ⟨#[]⟩), .val (.int .i64 0), .slc true []], .map [] 0]) ns ([], 0) (sp_app x.sp _) (x.nr.kf k0) (sb_get1 _ _ _ rfl) (fun k n hk => by simp [mg, mf] at hk)
  simp only [List.length_append, List.length_cons, List.length_nil] at c7
  have kf1 : Kf 0 h H1 := ⟨by omega, fun j o e z1 z2 z3 => c6.2 j o (k0.2 j o e z1 z2 z3) z1 z2 (by have := hlt_of e z1; omega) (by have := hlt_of e z1; omega) z3⟩
  have hb1 : hget H1 h.length = .vars [.val (.int .i64 0), .val (.string ⟨#[]⟩), .val (.string ⟨#[]⟩), .val (.int .i64 0), .slc true []] := c6.2 _ _ (sb_get0 _ _ rfl) (by simp) (by omega) (by omega) (by omega) (by simp)
  have hb1l := hlt_of hb1 (by simp)
  have x1 := x.kf kf1 c2 c3
  have g2 : ∀ l, hget (h ++ l) 2 = .vars [.ptr 0 0, .mp 1, .slc nb (N.map sV)] := fun l => (hget_app _ (by omega)).trans hZ
  have z1 : hget H1 2 = .vars [.ptr 0 0, .mp 1, .slc nb (N.map sV)] := x1.z
  unfold SO at hZ
  by_cases hs : tsz (T i) ≤ 1000
  · have hcap : ¬ ((1000 : Int) < (cap (tsz (T i)) : Nat)) := by have := cap_big.2 hs; omega
    obtain ⟨H2, ns2, d1, d2, d3, d4⟩ := told_all (S := 0) (B := B) (V := 1) (Zs := 2) (b := 200000) (w := w) (fl := false) (vis := vis) (P := P) (nb := nb) (N := N) x.ok hT hTv hkc (by decide) (by decide) hN hNv (r i + 1) i (by omega) hi H1 ns1 (by omega) c2 c3 x1.ms x1.z
    have hb2 : hget H2 h.length = .vars [.val (.int .i64 0), .val (.string ⟨#[]⟩), .val (.string ⟨#[]⟩), .val (.int .i64 0), .slc true []] := d4.2 _ _ hb1 (by simp) (by omega) (by simp)
    have hb2l := hlt_of hb2 (by simp)
    rw [if_pos hs, decide_eq_true hs]
    generalize hTi : T i = ti at *
    obtain ⟨q1, q2, q3, q4, q5⟩ := ti
    rw [tmV_mk] at d1 ⊢
    have e : aval Tryd.prog md fg 34 [.ptr 2 0, .int (i : Nat)] h = some (.tup [.agg [.int q1, .str (txt q2), .str (txt q3), .int q4, .slc false (q5.map tmV)], .val (.bool true)], H2.set h.length (.vars [.int q1, .str (txt q2), .str (txt q3), .int q4, .slc false (q5.map tmV)])) := by
      rw [aval_of Tryd.func34 body34 Tryd.results34 Tryd.ntmps34 ok34]
      simp (implicitDefEqProofs := false) (disch := first | omega | exact List.length_set) only [go_sem, seval, rgn Tryd.f34 0 rfl, rgn Tryd.f34 1 rfl, rgn Tryd.f34 3 rfl, g2, hZ, aop_makeMap0, isMapT_90, List.append_assoc, List.nil_append, List.cons_append, List.append_nil, List.length_append, List.length_cons, List.length_nil, c1, hcap, z1, d1, hb2, hget_set_eq, aresults, tupOf, Nat.zero_add, Nat.reduceAdd]
    have s2 : SP (H2.set h.length (.vars [.int q1, .str (txt q2), .str (txt q3), .int q4, .slc false (q5.map tmV)])) 0 ns2 200000 false w := sp_keep d2 (hget_set_ne (by omega)) (fun A es g q => by rw [hget_set_ne (by rintro rfl; rw [hb2] at q; cases q)]; exact q)
    have kf2 := kf1.trans d4
    obtain ⟨H, f1, f2, f3, f4⟩ := doCall_sp5 md34 e x.sp s2 (by rw [List.length_set]; exact kf2.1)
    have kfH : Kf 0 h H := ⟨f3, fun j o e z1 z2 z3 => by
      have := hlt_of e z1
      rw [f4 j this, hget_set_ne (by omega)]; exact kf2.2 j o e z1 z2 z3⟩
    exact ⟨H, ns2, f1, x.kf kfH f2 (d3.agree hb (fun j hj => by rw [f4 j hj, hget_set_ne (by omega)])), kfH⟩
  · have hcap : (1000 : Int) < (cap (tsz (T i)) : Nat) := by
      have : ¬ cap (tsz (T i)) ≤ 1000 := fun e => hs (cap_big.1 e)
      omega
    rw [if_neg hs, decide_eq_false hs]
    have e : aval Tryd.prog md fg 34 [.ptr 2 0, .int (i : Nat)] h = some (.tup [zeroV, .val (.bool false)], H1.set h.length (.vars [.val (.int .i64 0), .val (.string ⟨#[]⟩), .val (.string ⟨#[]⟩), .val (.int .i64 0), .slc true []])) := by
      unfold zeroV
      rw [aval_of Tryd.func34 body34 Tryd.results34 Tryd.ntmps34 ok34]
      simp (implicitDefEqProofs := false) (disch := first | omega | exact List.length_set) only [go_sem, seval, rgn Tryd.f34 0 rfl, rgn Tryd.f34 1 rfl, rgn Tryd.f34 2 rfl, g2, hZ, aop_makeMap0, isMapT_90, List.append_assoc, List.nil_append, List.cons_append, List.append_nil, List.length_append, List.length_cons, List.length_nil, c1, hcap, z1, hb1, hget_set_eq, aresults, tupOf, Nat.zero_add, Nat.reduceAdd]
    have s2 : SP (H1.set h.length (.vars [.val (.int .i64 0), .val (.string ⟨#[]⟩), .val (.string ⟨#[]⟩), .val (.int .i64 0), .slc true []])) 0 ns1 200000 false w := sp_keep c2 (hget_set_ne (by omega)) (fun A es g q => by rw [hget_set_ne (by rintro rfl; rw [hb1] at q; cases q)]; exact q)
    obtain ⟨H, f1, f2, f3, f4⟩ := doCall_sp5 md34 e x.sp s2 (by rw [List.length_set]; exact kf1.1)
    have kfH : Kf 0 h H := ⟨f3, fun j o e z1 z2 z3 => by
      have := hlt_of e z1
      rw [f4 j this, hget_set_ne (by omega)]; exact kf1.2 j o e z1 z2 z3⟩
    exact ⟨H, ns1, f1, x.kf kfH f2 (c3.agree hb (fun j hj => by rw [f4 j hj, hget_set_ne (by omega)])), kfH⟩
end
def valV : List UInt8 × Tm → AV
  | (n, ⟨k, p, m, x, l⟩) => .agg [.str (txt n), .int k, .str (txt p), .str (txt m), .int x, .slc false (l.map tmV)]
def KO (h : AHeap) (kt : AV) (l : List (List UInt8 × Tm)) : Prop := (l = [] ∧ kt = .slc true []) ∨ ∃ K g, kt = .arr K 0 l.length g 6 ∧ hget h K = .arr 6 (l.map valV) g
theorem headOk_val (l : List (List UInt8 × Tm)) : headOk 6 (l.map valV) = true := by
  cases l with
  | nil => rfl
  | cons t r => obtain ⟨n, k, p, m, x, ks⟩ := t; rfl
theorem solid_val (l : List (List UInt8 × Tm)) : solidL (l.map valV) = true := by
  induction l with
  | nil => rfl
  | cons t r ih =>
    obtain ⟨n, k, p, m, x, ks⟩ := t
    rw [List.map_cons]
    have := solid_tmL ks
    simp only [solidL, ih, Bool.and_true, valV, solid, Bool.not_false, Bool.true_and, this]
theorem ko_add {h : AHeap} {kt : AV} {l : List (List UInt8 × Tm)} (hk : KO h kt l) (hl : l.length ≤ 100000) (t : List UInt8 × Tm) : ∃ v H, (∀ z, appT (some (6, 88, z)) h kt (some [valV t]) = some (v, H)) ∧ KO H v (l ++ [t]) ∧ (h.length ≤ H.length ∧ ∀ j o, hget h j = o → o ≠ .dead → (∀ b c, o ≠ .arr 6 b c) → hget H j = o) := by
  have hh : headOk 6 [valV t] = true := headOk_val [t]
  rcases hk with ⟨rfl, rfl⟩ | ⟨K, g, rfl, h2⟩
  · refine ⟨_, _, fun z => appT_slc _ _ _ _ _ hh rfl (by simp) (by simp), .inr ⟨h.length, 0, by simp, by rw [hget_last]; rfl⟩, by simp, fun j o e h1 _ => by rw [hget_app _ (hlt_of e h1)]; exact e⟩
  · refine ⟨_, _, fun z => appT_arr _ _ _ _ _ _ _ _ h2 (by simp) hh (by simp; omega), .inr ⟨K, g + 1, by simp, by rw [hget_set_eq (hlt_of h2 (by simp))]; simp⟩, by simp, fun j o e h1 h4 => ?_⟩
    rw [hget_set_ne (by rintro rfl; rw [h2] at e; exact h4 _ _ e.symm)]; exact e
theorem KO.kf {h H : AHeap} (k : Kf 0 h H) (h0 : ∃ cs, hget h 0 = .vars cs) {kt : AV} {l : List (List UInt8 × Tm)} (x : KO h kt l) : KO H kt l := by
  rcases x with x | ⟨K, g, e1, e2⟩
  · exact .inl x
  · obtain ⟨cs, h0⟩ := h0
    exact .inr ⟨K, g, e1, k.2 K _ e2 (by simp) (by rintro rfl; rw [h0] at e2; cases e2) (by simp)⟩
section
variable {B : Nat} {sh : List Sh} {P : SMap} {rt r : Nat → Nat} {vis : Nat → Bool} {w : Int} {nb : Bool} {N : List (List UInt8)} {ids : List (Nat × Nat)} {T : Nat → Tm}
theorem MS2.ko {h H : AHeap} {ns : List Nd} {nv : AV} (x : MS2 h B sh P rt r vis w ns nv ids) (hl : h.length ≤ H.length) (hk : ∀ j o, hget h j = o → o ≠ .dead → (∀ b c, o ≠ .arr 6 b c) → hget H j = o) : MS2 H B sh P rt r vis w ns nv ids := by
  obtain ⟨nv0, z1, z2⟩ := x.sp
  exact ⟨sp_keep x.sp (by rw [z1]; exact hk 0 _ z1 (by simp) (by simp)) (fun A es g q => hk A _ q (by simp) (by simp)), ⟨x.nr.1, fun i n s h1 h2 => by
    have y := x.nr.2 i n s h1 h2
    refine ⟨y.kind, y.pkg, y.name, ?_, y.to, y.mark, y.le⟩
    rcases y.kids with z | ⟨K, g', e1, e2, e3, e4⟩
    · exact .inl z
    · exact .inr ⟨K, g', e1, hk K _ e2 (by simp) (by simp), e3, e4⟩⟩, x.ok, by have := x.b; omega, hk 1 _ x.ms (by simp) (by simp), hk 2 _ x.z (by simp) (by simp), hk 3 _ x.q (by simp) (by simp), hk 4 _ x.t (by simp) (by simp)⟩
def sg (T : Nat → Tm) (P : SMap) (n : List UInt8) : Tm := T (vmap P n)
set_option maxHeartbeats 8000000 in
theorem sv_loop (hT : Mod sh rt T) (hTv : ∀ (v : Nat) (s : Sh), sh[v]? = some s → s.kind = 1 → rt v = v → T v = ⟨1, [], fstN P rt v N, 0, []⟩) (hkc : kc sh ≤ 90000) (hN : N.length ≤ 90000) (hNv : ∀ n ∈ N, vmap P n < sh.length) : ∀ (rem done : List (List UInt8)), N = done ++ rem → ∀ (h : AHeap) (ns : List Nd) (kt : AV), MS2 h B sh P rt r vis w ns (.slc nb (N.map sV)) ids → KO h kt (done.map fun n => (n, sg T P n)) →
    ∃ H kt' a23 a2 a3 okk, lrun Tryd.prog md fg (fg 11) (loopOf Tryd.f11 0) (fg 11 1) ((.unk :: .unk :: (.slc true []) :: (.int 0) :: (.ptr 2 0) :: .unk :: (kt) :: U::U::U::U::U::U::U::U::U::U::U::U::U::U::(.slc nb (N.map sV)) :: (.int N.length) :: (.int done.length) :: U::U::U::U::U::U::U::U::U::U::U::U::U::U::U::U::U::U::U::U::U::U::U::U::[] : List AV)) h = some (if okk then .exit 0 else .ret, (.unk :: .unk :: (a2) :: (a3) :: (.ptr 2 0) :: .unk :: (kt') :: U::U::U::U::U::U::U::U::U::U::U::U::U::U::(.slc nb (N.map sV)) :: (.int N.length) :: (a23) :: U::U::U::U::U::U::U::U::U::U::U::U::U::U::U::U::U::U::U::U::U::U::U::U::[] : List AV), H) ∧ (okk = false → a2 = .slc true [] ∧ a3 = .int 9) ∧ (okk = true ↔ ∀ n ∈ rem, tsz (sg T P n) ≤ 1000) ∧ (okk = true → KO H kt' (N.map fun n => (n, sg T P n)))
  | [], done, he, h, ns, kt, I, hk => by
    rw [List.append_nil] at he
    subst he
    refine ⟨h, kt, .int N.length, .slc true [], .int 0, true, ?_, by simp, by simp, fun _ => hk⟩
    rw [if_pos rfl]
    rw [lrun_atC loop11_0]
    simp (implicitDefEqProofs := false) (disch := omega) only [go_sem, seval, rgn Tryd.f11 6 rfl]
  | n :: rem, done, he, h, ns, kt, I, hk => by
    have hll : N.length = done.length + (rem.length + 1) := by rw [he]; simp
    have hvl := hNv n (by rw [he]; simp)
    have hZ := I.z
    have hM := I.ms
    have lk := (ms_look hM n).2
    change alookup _ _ _ _ _ _ = some (.int (vmap P n : Nat)) at lk
    unfold SO at hZ
    have hlt : (done.length : Int) < (N.length : Int) := by omega
    have htn : ((done.length : Int)).toNat = done.length := by omega
    have hat : (N.map sV)[done.length]? = some (.val (.string (txt n))) := by rw [he]; simp [sV]
    obtain ⟨H1, ns1, c1, I1, k1⟩ := of_c I hT hTv hkc hN hNv hvl
    by_cases hs : tsz (T (vmap P n)) ≤ 1000
    · rw [if_pos hs, decide_eq_true hs] at c1
      have hk1 : KO H1 kt (done.map fun n => (n, sg T P n)) := hk.kf k1 (by obtain ⟨_, q, _⟩ := I.sp; exact ⟨_, q⟩)
      have b1 : ∀ j o, hget H1 j = o → o ≠ .dead → hget (H1 ++ [AObj.vars (tmV (T (vmap P n))).cells]) j = o := fun j o e h => by rw [hget_app _ (hlt_of e h)]; exact e
      have hk2 : KO (H1 ++ [AObj.vars (tmV (T (vmap P n))).cells]) kt (done.map fun n => (n, sg T P n)) := by
        rcases hk1 with q | ⟨K, g, q1, q2⟩
        · exact .inl q
        · exact .inr ⟨K, g, q1, b1 _ _ q2 (by simp)⟩
      obtain ⟨v, H2, x1, x2, x3, x4⟩ := ko_add hk2 (by rw [List.length_map]; omega) (n, sg T P n)
      have I2 : MS2 H2 B sh P rt r vis w ns1 (.slc nb (N.map sV)) ids := I1.ko (by simp at x3; omega) (fun j o e z1 z2 => x4 j o (b1 j o e z1) z1 z2)
      obtain ⟨H, kt', a23, a2, a3, okk, d1, d2, d3, d4⟩ := sv_loop hT hTv hkc hN hNv rem (done ++ [n]) (by rw [he]; simp) H2 ns1 v I2 (by rw [List.map_append]; exact x2)
      refine ⟨H, kt', a23, a2, a3, okk, ?_, d2, ?_, d4⟩
      · have hlen : (done ++ [n]).length = done.length + 1 := by simp
        rw [hlen] at d1
        rw [← d1]
        unfold sg at x1
        generalize hTi : T (vmap P n) = ti at *
        obtain ⟨q1, q2, q3, q4, q5⟩ := ti
        rw [tmV_mk] at c1 x1
        unfold valV at x1
        dsimp only at x1
        rw [show (AV.agg [.int q1, .str (txt q2), .str (txt q3), .int q4, .slc false (q5.map tmV)]).cells = [.int q1, .str (txt q2), .str (txt q3), .int q4, .slc false (q5.map tmV)] from rfl] at x1
        rw [lrun_atC loop11_0]
        simp (implicitDefEqProofs := false) (disch := first | omega | exact List.length_set) only [go_sem, seval, rgn Tryd.f11 6 rfl, rgn Tryd.f11 7 rfl, rgn Tryd.f11 8 rfl, rgn Tryd.f11 9 rfl, rgn Tryd.f11 11 rfl, rgn Tryd.f11 12 rfl, hlt, htn, hat, hZ, aop_lookup, lk, c1, hget_last, set_last, x1, sV]
        all_goals (congr 1 <;> simp only [List.cons.injEq, AV.val.injEq, Value.int.injEq, Value.bool.injEq, true_and, and_true] <;> omega)
      · rw [d3]
        unfold sg
        simp [hs]
    · rw [if_neg hs, decide_eq_false hs] at c1
      unfold zeroV at c1
      refine ⟨H1 ++ [AObj.vars [.val (.int .i64 0), .val (.string ⟨#[]⟩), .val (.string ⟨#[]⟩), .val (.int .i64 0), .slc true []]], kt, .int done.length, .slc true [], .int 9, false, ?_, fun _ => ⟨rfl, rfl⟩, ?_, by simp⟩
      · simp only [Bool.false_eq_true, if_false]
        rw [lrun_atC loop11_0]
        simp (implicitDefEqProofs := false) (disch := first | omega | exact List.length_set) only [go_sem, seval, rgn Tryd.f11 6 rfl, rgn Tryd.f11 7 rfl, rgn Tryd.f11 8 rfl, rgn Tryd.f11 9 rfl, rgn Tryd.f11 10 rfl, hlt, htn, hat, hZ, aop_lookup, lk, c1, hget_last, set_last]
      · constructor
        · intro h; cases h
        · intro h; exact absurd (h n (by simp)) hs
end
end Go.Proofs.YtncjbccjpneoiaaDoor
