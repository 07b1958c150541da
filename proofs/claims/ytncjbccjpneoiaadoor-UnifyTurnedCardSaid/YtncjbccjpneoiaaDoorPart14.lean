/- Parts of the proof, each with its own heading: solve: the equations are taken in. Chapter 13: alive. The law's guards: few, equations. solve: a round of its first loop. solve: its two loops, and as a whole. solve as a whole. of. Solve. The plain law of solutions: the most general one, named by the first names. Solve as a whole. Same and putting in: what they tell. What the laws of touchstonelaw13 over equations share: closed facts of the program, terms and equations as arguments. Turned equations: the plain law. -/
import Derived.Test.YtncjbccjpneoiaaDoorPart13
import Derived.Test.YtncjbccjpneoiaaDoorRows
set_option linter.unusedSimpArgs false
set_option linter.unusedVariables false
namespace Go.Proofs.YtncjbccjpneoiaaDoor
open Go Go.Ab Go.Proofs
set_option maxRecDepth 100000
set_option linter.unusedSimpArgs false
set_option linter.unusedVariables false
theorem vsL_app : ∀ (a b : List Tm) (out : List (List UInt8)), vsL out (a ++ b) = vsL (vsL out a) b
  | [], b, out => by rw [List.nil_append, vsL]
  | t :: r, b, out => by rw [List.cons_append, vsL, vsL, vsL_app r b]
theorem vadd_mem {out : List (List UInt8)} {k : Int} {m n : List UInt8} : n ∈ vadd out k m ↔ n ∈ out ∨ (k = 1 ∧ n = m) := by
  unfold vadd
  split
  · rename_i h; simp [h.1]
  · rename_i h
    constructor
    · exact .inl
    · rintro (h1 | ⟨h1, rfl⟩)
      · exact h1
      · exact Classical.byContradiction fun h2 => h ⟨h1, h2⟩
mutual
theorem vsT_mem : ∀ (t : Tm) (out : List (List UInt8)) (n : List UInt8), t.ty → (n ∈ vsT out t ↔ n ∈ out ∨ n ∈ tvars t)
  | .mk k p m x l, out, n, ht => by
    rw [Tm.ty] at ht
    rw [vsT, vsL_mem l _ n ht.2, vadd_mem, tvars]
    by_cases hk : k = 1
    · obtain ⟨hl, _⟩ := ht.1.2.2.2 hk
      subst hl
      simp [hk, tvarss]
    · simp [hk]
theorem vsL_mem : ∀ (l : List Tm) (out : List (List UInt8)) (n : List UInt8), Tm.tys l → (n ∈ vsL out l ↔ n ∈ out ∨ n ∈ tvarss l)
  | [], out, n, _ => by rw [vsL, tvarss]; simp
  | t :: r, out, n, ht => by
    rw [Tm.tys] at ht
    rw [vsL, vsL_mem r _ n ht.2, vsT_mem t out n ht.1, tvarss, List.mem_append, or_assoc]
end
theorem vadd_nodup {out : List (List UInt8)} (h : out.Nodup) (k : Int) (m : List UInt8) : (vadd out k m).Nodup := by
  unfold vadd
  split
  · rename_i hc
    rw [List.nodup_append]
    refine ⟨h, by simp, fun a ha b hb => ?_⟩
    rw [List.mem_singleton] at hb
    rw [hb]
    rintro rfl
    exact hc.2 ha
  · exact h
mutual
theorem vsT_nodup : ∀ (t : Tm) (out : List (List UInt8)), out.Nodup → (vsT out t).Nodup
  | .mk k p m x l, out, h => by rw [vsT]; exact vsL_nodup l _ (vadd_nodup h k m)
theorem vsL_nodup : ∀ (l : List Tm) (out : List (List UInt8)), out.Nodup → (vsL out l).Nodup
  | [], out, h => by rw [vsL]; exact h
  | t :: r, out, h => by rw [vsL]; exact vsL_nodup r _ (vsT_nodup t out h)
end
theorem vsL_vars : ∀ (N out : List (List UInt8)), (out ++ N).Nodup → vsL out (N.map vTm) = out ++ N
  | [], out, _ => by rw [List.map_nil, vsL, List.append_nil]
  | n :: r, out, h => by
    have h2 : out ++ n :: r = (out ++ [n]) ++ r := by simp
    have hn : n ∉ out := by
      rw [List.nodup_append] at h
      exact fun hm => h.2.2 n hm n (by simp) rfl
    have : vsT out (vTm n) = out ++ [n] := by
      unfold vTm
      rw [vsT, vsL]
      unfold vadd
      rw [if_pos ⟨rfl, hn⟩]
    rw [List.map_cons, vsL, this, vsL_vars r (out ++ [n]) (by rw [← h2]; exact h), h2]
def flatE (l : List (Tm × Tm)) : List Tm := l.flatMap fun q => [q.1, q.2]
theorem flatE_app (a b : List (Tm × Tm)) : flatE (a ++ b) = flatE a ++ flatE b := by simp [flatE]
theorem tszs_append : ∀ (a b : List Tm), tszs (a ++ b) = tszs a + tszs b
  | [], b => by simp [tszs]
  | t :: r, b => by rw [List.cons_append, tszs, tszs, tszs_append r b]; omega
theorem tvarss_append : ∀ (a b : List Tm), tvarss (a ++ b) = tvarss a ++ tvarss b
  | [], b => by simp [tvarss]
  | t :: r, b => by rw [List.cons_append, tvarss, tvarss, tvarss_append r b, List.append_assoc]
theorem tys_append : ∀ (a b : List Tm), Tm.tys (a ++ b) ↔ Tm.tys a ∧ Tm.tys b
  | [], b => by simp [Tm.tys]
  | t :: r, b => by rw [List.cons_append, Tm.tys, Tm.tys, tys_append r b, and_assoc]
theorem fits_append : ∀ (a b : List Tm), Tm.fits (a ++ b) ↔ Tm.fits a ∧ Tm.fits b
  | [], b => by simp [Tm.fits]
  | t :: r, b => by rw [List.cons_append, Tm.fits, Tm.fits, fits_append r b, and_assoc]
theorem vs_next {N : List (List UInt8)} (h : N.Nodup) (A B : Tm) : vsL [] (N.map vTm ++ [A, B]) = vsL N [A, B] := by
  rw [vsL_app, vsL_vars N [] (by simpa using h), List.nil_append]
def eqV : Tm × Tm → AV
  | (⟨k, p, m, n, l⟩, ⟨k', p', m', n', l'⟩) => .agg [.int k, .str (txt p), .str (txt m), .int n, .slc false (l.map tmV), .int k', .str (txt p'), .str (txt m'), .int n', .slc false (l'.map tmV)]
structure LS (h : AHeap) (B : Nat) (sh : List Sh) (P : SMap) (ns : List Nd) (nb : Bool) (N : List (List UInt8)) (n : Nat) (done : List (Tm × Tm)) (ids : List (Nat × Nat)) : Prop where
  is : IS h 0 B 1 sh P ns
  ip : IP sh P
  z : SO h 2 0 1 (.slc nb (N.map sV))
  q : hget h 3 = .vars [.ptr 2 0]
  t : hget h 4 = .arr 2 ((ids ++ List.replicate (n - done.length) (0, 0)).map prV) 0
  len : ids.length = done.length
  vals : ∀ (j a b : Nat) (A B : Tm), ids[j]? = some (a, b) → done[j]? = some (A, B) → Val sh P a A ∧ Val sh P b B
  names : N = vsL [] (flatE done)
  dom : ∀ n, n ∈ N ↔ ∃ i, mg P n = some i
  sz : sh.length ≤ tszs (flatE done)
  kc : kc sh ≤ tszs (flatE done)
theorem fr_55 {h0 : AHeap} {nv : AV} (hq : hget h0 3 = .vars [.ptr 2 0]) (hz : SO h0 2 0 1 nv) : Fr 0 1 55 [.ptr 3 0] h0 := fun h1 ns1 hk hs hl =>
  fresh_c hs hl (hk.2 3 _ hq (by simp) (by decide) (by decide) (by decide) (by simp)) (hk.2 2 _ hz (by simp) (by decide) (by decide) (by decide) (by simp) : SO h1 2 0 1 nv)
theorem callable_55 : callable Tryd.prog 55 = true := by kernel_rfl
theorem septr_pr {i a b : Nat} {H1 : AHeap} {T g : Nat} (L : List AV) (hL : L[i]? = some (.agg [.int 0, .int 0])) : septr true 2 (.agg [.int (a : Int), .int (b : Int)]) g 2 i 0 H1 T (.arr 2 L g) = some (H1.set T (.arr 2 (L.set i (.agg [.int (a : Int), .int (b : Int)])) g)) := by
  simp [septr, hL, AV.cells, patch, putAt]
theorem sp_set2 {h : AHeap} {S T : Nat} {ns : List Nd} {b : Int} {f : Bool} {w : Int} (hs : SP h S ns b f w) (hTS : T ≠ S) {es : List AV} {g : Nat} (hT : hget h T = .arr 2 es g) (o : AObj) : SP (h.set T o) S ns b f w :=
  sp_keep hs (hget_set_ne hTS) fun A es' g' q => by rw [hget_set_ne (by rintro rfl; rw [hT] at q; simp at q)]; exact q
theorem nr_set2 {h : AHeap} {S B T : Nat} {sh : List Sh} {rt r : Nat → Nat} {vis : Nat → Bool} {w : Int} {ns : List Nd} (x : NR h S B sh rt r vis w ns) {es : List AV} {g : Nat} (hT : hget h T = .arr 2 es g) (o : AObj) : NR (h.set T o) S B sh rt r vis w ns :=
  ⟨x.1, fun i n s h1 h2 => by
    have y := x.2 i n s h1 h2
    refine ⟨y.kind, y.pkg, y.name, ?_, y.to, y.mark, y.le⟩
    rcases y.kids with z | ⟨K, g', e1, e2, e3, e4⟩
    · exact .inl z
    · exact .inr ⟨K, g', e1, by rw [hget_set_ne (by rintro rfl; rw [hT] at e2; simp at e2)]; exact e2, e3, e4⟩⟩
theorem IS.set2 {h : AHeap} {S B V T : Nat} {sh : List Sh} {P : SMap} {ns : List Nd} (x : IS h S B V sh P ns) (hTS : T ≠ S) (hTV : T ≠ V) {es : List AV} {g : Nat} (hT : hget h T = .arr 2 es g) (o : AObj) : IS (h.set T o) S B V sh P ns :=
  ⟨sp_set2 x.sp hTS hT o, nr_set2 x.nr hT o, by rw [List.length_set]; exact x.b, x.vs, by have := x.ms; unfold MS at this ⊢; rw [hget_set_ne hTV]; exact this⟩
theorem IS.keep {h H : AHeap} {S B V : Nat} {sh : List Sh} {P : SMap} {ns : List Nd} (x : IS h S B V sh P ns) (hl : h.length ≤ H.length) (hk : ∀ j o, hget h j = o → o ≠ .dead → (∀ cs, j ≠ S → o ≠ .vars cs) → hget H j = o) (hS : hget H S = hget h S) : IS H S B V sh P ns :=
  ⟨sp_keep x.sp hS fun A es g q => hk A _ q (by simp) (by simp), ⟨x.nr.1, fun i n s h1 h2 => by
    have y := x.nr.2 i n s h1 h2
    refine ⟨y.kind, y.pkg, y.name, ?_, y.to, y.mark, y.le⟩
    rcases y.kids with z | ⟨K, g', e1, e2, e3, e4⟩
    · exact .inl z
    · exact .inr ⟨K, g', e1, hk K _ e2 (by simp) (by simp), e3, e4⟩⟩, by have := x.b; omega, x.vs, hk V _ x.ms (by simp) (by simp)⟩
end Go.Proofs.YtncjbccjpneoiaaDoor
namespace Go.Proofs.YtncjbccjpneoiaaDoor
open Go Go.Ab Go.Proofs
set_option maxRecDepth 100000
theorem alive_p : pcall Tryd.prog md fg 10 [] = some (.bool true) := pcall_strue okKnown 200 (by decide +kernel)
theorem alive_c (h : AHeap) : doCall md (aval Tryd.prog md fg) 10 [] h = some (.val (.bool true), h) := doCall_pure md10 rfl alive_p
end Go.Proofs.YtncjbccjpneoiaaDoor
namespace Go.Proofs.YtncjbccjpneoiaaDoor
open Go Go.Ab Go.Proofs
set_option maxRecDepth 100000
set_option linter.unusedSimpArgs false
set_option linter.unusedVariables false
mutual
theorem ty_of_typ : ∀ t : Tm, typ t → t.ty
  | .mk k p m n l, h => by
    rw [typ] at h
    rw [Tm.ty]
    exact ⟨⟨h.1, h.2.1, h.2.2.1, h.2.2.2.1⟩, tys_of_typs l h.2.2.2.2⟩
theorem tys_of_typs : ∀ l : List Tm, typs l → Tm.tys l
  | [], _ => by simp [Tm.tys]
  | t :: r, h => by
    rw [typs] at h
    rw [Tm.tys]
    exact ⟨ty_of_typ t h.1, tys_of_typs r h.2⟩
end
theorem few1_p (a : Tm) (ha : a.fit) : ∃ b : Bool, (b = true → tsz a ≤ 600) ∧ pcall Tryd.prog md fg 37 [tmV a] = some (.val (.bool b)) := by
  obtain ⟨w, w0, w1, w2, w3⟩ := W_all a ha 0 (by omega) (by omega)
  have cw : ∀ h : AHeap, doCall md (aval Tryd.prog md fg) 59 [tmV a, .int 0] h = some (.int w, h) := fun h => doCall_pure md59 (by simp only [solidL, solid_tm, Bool.true_and]; rfl) w3
  refine ⟨decide (w ≤ 600), fun hb => ?_, ?_⟩
  · have := of_decide_eq_true hb
    have := w2 (by omega)
    omega
  · have e : ∃ h, aval Tryd.prog md fg 37 [tmV a] [] = some (.val (.bool (decide (w ≤ 600))), h) := by
      clear w3 w2
      obtain ⟨k, p, m, n, l⟩ := a
      rw [tmV_mk] at cw ⊢
      rw [aval_of Tryd.func37 body37 Tryd.results37 Tryd.ntmps37 ok37]
      simp (implicitDefEqProofs := false) (disch := omega) only [go_sem, seval, rgn Tryd.f37 0 rfl, rgn Tryd.f37 1 rfl, hget_last, cw]
      exact ⟨_, rfl⟩
    obtain ⟨h, e⟩ := e
    rw [pcall_eq, e, pureRes_solid rfl]
theorem few_loop (ts : List Tm) (hl : ts.length ≤ 1000) (hf : Tm.fits ts) : ∀ (rem done : List Tm), ts = done ++ rem → ∀ (c : Nat), c ≤ 600 * done.length →
    ∃ (b : Bool) (a2 a3 a7 : AV) (cc : Ex), lrun Tryd.prog md fg (fg 18) (loopOf Tryd.f18 0) (fg 18 1) (((.slc false (ts.map tmV)) :: .unk :: (.val (.bool false)) :: (.int (c : Nat)) :: .unk :: .unk :: (.int ts.length) :: (.int done.length) :: .unk :: .unk :: .unk :: .unk :: .unk :: .unk :: .unk :: .unk :: .unk :: .unk :: .unk :: .unk :: .unk :: .unk :: .unk :: .unk :: .unk :: .unk :: .unk :: .unk :: .unk :: .unk :: .unk :: .unk :: .unk :: .unk :: [] : List AV)) [] = some (cc, ((.slc false (ts.map tmV)) :: .unk :: (a2) :: (a3) :: .unk :: .unk :: (.int ts.length) :: (a7) :: .unk :: .unk :: .unk :: .unk :: .unk :: .unk :: .unk :: .unk :: .unk :: .unk :: .unk :: .unk :: .unk :: .unk :: .unk :: .unk :: .unk :: .unk :: .unk :: .unk :: .unk :: .unk :: .unk :: .unk :: .unk :: .unk :: [] : List AV), []) ∧ (if b then cc = .exit 0 ∧ a3 = .int ((c + tszs rem : Nat) : Int) ∧ Tm.tys rem ∧ tszs rem ≤ 600 * rem.length else cc = .ret ∧ a2 = .val (.bool false))
  | [], done, he, c, hc => by
    rw [List.append_nil] at he
    subst he
    refine ⟨true, .val (.bool false), .int (c : Nat), .int ts.length, .exit 0, ?_, by rw [if_pos rfl]; exact ⟨rfl, by rw [tszs, Nat.add_zero], by simp [Tm.tys], by rw [tszs]; simp⟩⟩
    rw [lrun_atC loop18_0]
    simp (implicitDefEqProofs := false) (disch := omega) only [go_sem, seval, rgn Tryd.f18 3 rfl]
  | t :: rem, done, he, c, hc => by
    have hll : ts.length = done.length + (rem.length + 1) := by rw [he]; simp
    have hlt : (done.length : Int) < (ts.length : Int) := by omega
    have htn : ((done.length : Int)).toNat = done.length := by omega
    have hft : t.fit := fits_mem hf t (by rw [he]; simp)
    have hat : (ts.map tmV)[done.length]? = some (tmV t) := by rw [he]; simp
    obtain ⟨b1, b2, b3⟩ := few1_p t hft
    obtain ⟨y1, y2, y3⟩ := Y_all t hft
    have c1 : ∀ h, doCall md (aval Tryd.prog md fg) 37 [tmV t] h = some (.val (.bool b1), h) := fun h => doCall_pure md37 (solid1 t) b3
    have c2 : ∀ h, doCall md (aval Tryd.prog md fg) 38 [tmV t] h = some (.val (.bool y1), h) := fun h => doCall_pure md38 (solid1 t) y3
    by_cases hb : b1 = true ∧ y1 = true
    · obtain ⟨rfl, rfl⟩ := hb
      have hsz := b2 rfl
      have hty := ty_of_typ t (y2 rfl)
      have c3 : ∀ h, doCall md (aval Tryd.prog md fg) 15 [tmV t] h = some (.int (tsz t : Int), h) := fun h => doCall_pure md15 (solid1 t) (Z_all t (by omega))
      obtain ⟨b, a2, a3, a7, cc, e1, e2⟩ := few_loop ts hl hf rem (done ++ [t]) (by rw [he]; simp) (c + tsz t) (by simp; omega)
      refine ⟨b, a2, a3, a7, cc, ?_, ?_⟩
      · have hlen : (done ++ [t]).length = done.length + 1 := by simp
        rw [hlen] at e1
        rw [← e1]
        obtain ⟨k, p, m, n, l⟩ := t
        rw [tmV_mk] at c1 c2 c3 hat
        have hb1 : (0 : Int) ≤ (c : Int) := by omega
        have hb2 : (c : Int) ≤ 600000 := by omega
        have hb3 : (tsz ⟨k, p, m, n, l⟩ : Int) ≤ 600 := by omega
        generalize hz : tsz ⟨k, p, m, n, l⟩ = z at *
        rw [lrun_atC loop18_0]
        simp (implicitDefEqProofs := false) (disch := omega) only [go_sem, seval, rgn Tryd.f18 3 rfl, rgn Tryd.f18 4 rfl, rgn Tryd.f18 5 rfl, rgn Tryd.f18 7 rfl, rgn Tryd.f18 8 rfl, List.length_map, hlt, htn, hat, c1, c2, c3]
        all_goals (congr 1 <;> simp only [List.cons.injEq, AV.val.injEq, Value.int.injEq, Value.bool.injEq, true_and, and_true] <;> omega)
      · cases b with
        | false => simpa using e2
        | true =>
          simp only [if_true] at e2 ⊢
          obtain ⟨f1, f2, f3, f4⟩ := e2
          refine ⟨f1, ?_, ?_, ?_⟩
          · rw [f2, tszs, Nat.add_assoc]
          · rw [Tm.tys]; exact ⟨hty, f3⟩
          · rw [tszs, List.length_cons]; omega
    · refine ⟨false, .val (.bool false), .int (c : Nat), .int done.length, .ret, ?_, by simp⟩
      obtain ⟨k, p, m, n, l⟩ := t
      rw [tmV_mk] at c1 c2 hat
      by_cases h1 : b1 = true
      · have h2 : y1 = false := by cases y1 with
          | false => rfl
          | true => exact absurd ⟨h1, rfl⟩ hb
        subst h1; subst h2
        rw [lrun_atC loop18_0]
        simp (implicitDefEqProofs := false) (disch := omega) only [go_sem, seval, rgn Tryd.f18 3 rfl, rgn Tryd.f18 4 rfl, rgn Tryd.f18 5 rfl, rgn Tryd.f18 6 rfl, List.length_map, hlt, htn, hat, c1, c2]
      · have h1 : b1 = false := by simpa using h1
        subst h1
        rw [lrun_atC loop18_0]
        simp (implicitDefEqProofs := false) (disch := omega) only [go_sem, seval, rgn Tryd.f18 3 rfl, rgn Tryd.f18 4 rfl, rgn Tryd.f18 5 rfl, rgn Tryd.f18 6 rfl, List.length_map, hlt, htn, hat, c1]
theorem few_p (ts : List Tm) (hl : ts.length ≤ 1000) (hf : Tm.fits ts) : ∃ b : Bool, (b = true → tszs ts ≤ 60 ∧ Tm.tys ts) ∧ pcall Tryd.prog md fg 18 [.slc false (ts.map tmV)] = some (.val (.bool b)) := by
  obtain ⟨b, a2, a3, a7, cc, e1, e2⟩ := few_loop ts hl hf ts [] rfl 0 (by omega)
  simp only [List.length_nil, Int.natCast_zero] at e1
  cases b with
  | false =>
    simp only [Bool.false_eq_true, if_false] at e2
    obtain ⟨rfl, rfl⟩ := e2
    refine ⟨false, by simp, ?_⟩
    have e : aval Tryd.prog md fg 18 [.slc false (ts.map tmV)] [] = some (.val (.bool false), []) := by
      rw [aval_of Tryd.func18 body18 Tryd.results18 Tryd.ntmps18 ok18]
      simp (implicitDefEqProofs := false) (disch := omega) only [go_sem, seval, rgn Tryd.f18 0 rfl, rgn Tryd.f18 1 rfl, rgn Tryd.f18 2 rfl, List.length_map, e1]
    rw [pcall_eq, e, pureRes_solid rfl]
  | true =>
    simp only [if_true] at e2
    obtain ⟨rfl, rfl, f3, f4⟩ := e2
    rw [Nat.zero_add] at e1
    refine ⟨decide (tszs ts ≤ 60), fun h => ⟨of_decide_eq_true h, f3⟩, ?_⟩
    have hi : ((tszs ts : Nat) : Int) ≤ 60 ↔ tszs ts ≤ 60 := by omega
    have e : aval Tryd.prog md fg 18 [.slc false (ts.map tmV)] [] = some (.val (.bool (decide (tszs ts ≤ 60))), []) := by
      by_cases h : tszs ts ≤ 60
      · rw [decide_eq_true h]
        have h' : ((tszs ts : Nat) : Int) ≤ 60 := by omega
        rw [aval_of Tryd.func18 body18 Tryd.results18 Tryd.ntmps18 ok18]
        simp (implicitDefEqProofs := false) (disch := omega) only [go_sem, seval, rgn Tryd.f18 0 rfl, rgn Tryd.f18 1 rfl, rgn Tryd.f18 2 rfl, rgn Tryd.f18 9 rfl, List.length_map, e1, h']
      · rw [decide_eq_false h]
        have h' : ¬ ((tszs ts : Nat) : Int) ≤ 60 := by omega
        rw [aval_of Tryd.func18 body18 Tryd.results18 Tryd.ntmps18 ok18]
        simp (implicitDefEqProofs := false) (disch := omega) only [go_sem, seval, rgn Tryd.f18 0 rfl, rgn Tryd.f18 1 rfl, rgn Tryd.f18 2 rfl, rgn Tryd.f18 9 rfl, List.length_map, e1, h']
    rw [pcall_eq, e, pureRes_solid rfl]
theorem solid_eqs : ∀ l : List (Tm × Tm), solidL (l.map eqV) = true
  | [] => rfl
  | (⟨k, p, m, n, l1⟩, ⟨k', p', m', n', l2⟩) :: r => by
    rw [List.map_cons]
    have h1 : solidL (l1.map tmV) = true := solid_byl l1
    have h2 : solidL (l2.map tmV) = true := solid_byl l2
    simp only [solidL, solid_eqs r, Bool.and_true, eqV, solid, Bool.not_false, Bool.true_and, h1, h2]
theorem eqs_loop (l : List (Tm × Tm)) (hl : l.length ≤ 20) : ∀ (rem done : List (Tm × Tm)), l = done ++ rem → ∀ (h : AHeap) (kt : AV), KV h 0 kt ((flatE done).map tmV) →
    ∃ H kt', lrun Tryd.prog md fg (fg 9) (loopOf Tryd.f9 0) (fg 9 1) (((.slc false (l.map eqV)) :: .unk :: .unk :: (kt) :: .unk :: .unk :: .unk :: .unk :: .unk :: (.int l.length) :: (.int done.length) :: .unk :: .unk :: .unk :: .unk :: .unk :: .unk :: .unk :: .unk :: .unk :: .unk :: .unk :: .unk :: .unk :: .unk :: .unk :: .unk :: .unk :: .unk :: [] : List AV)) h = some (.exit 0, ((.slc false (l.map eqV)) :: .unk :: .unk :: (kt') :: .unk :: .unk :: .unk :: .unk :: .unk :: (.int l.length) :: (.int l.length) :: .unk :: .unk :: .unk :: .unk :: .unk :: .unk :: .unk :: .unk :: .unk :: .unk :: .unk :: .unk :: .unk :: .unk :: .unk :: .unk :: .unk :: .unk :: [] : List AV), H) ∧ KV H 0 kt' ((flatE l).map tmV)
  | [], done, he, h, kt, hk => by
    rw [List.append_nil] at he
    subst he
    refine ⟨h, kt, ?_, hk⟩
    rw [lrun_atC loop9_0]
    simp (implicitDefEqProofs := false) (disch := omega) only [go_sem, seval, rgn Tryd.f9 5 rfl]
  | (A, B) :: rem, done, he, h, kt, hk => by
    have hll : l.length = done.length + (rem.length + 1) := by rw [he]; simp
    have hlt : (done.length : Int) < (l.length : Int) := by omega
    have htn : ((done.length : Int)).toNat = done.length := by omega
    have hfl : (flatE done).length = 2 * done.length := by
      clear hk he hll hlt htn
      induction done with
      | nil => rfl
      | cons a r ih => rw [show flatE (a :: r) = a.1 :: a.2 :: flatE r from rfl]; simp [ih]; omega
    obtain ⟨v, H1, x1, x2, x3, x4, x5⟩ := kv_add hk (by rw [List.length_map]; omega) (Nat.zero_le _) [tmV A, tmV B] (headOk_tm [A, B]) (by simp) (by simp)
    obtain ⟨H, kt', e1, e2⟩ := eqs_loop l hl rem (done ++ [(A, B)]) (by rw [he]; simp) H1 v (by rw [flatE_app, List.map_append]; exact x2)
    refine ⟨H, kt', ?_, e2⟩
    have hlen : (done ++ [(A, B)]).length = done.length + 1 := by simp
    rw [hlen] at e1
    rw [← e1]
    obtain ⟨k, p, m, n, l1⟩ := A
    obtain ⟨k', p', m', n', l2⟩ := B
    have hat : (l.map eqV)[done.length]? = some (.agg [.int k, .str (txt p), .str (txt m), .int n, .slc false (l1.map tmV), .int k', .str (txt p'), .str (txt m'), .int n', .slc false (l2.map tmV)]) := by rw [he]; simp [eqV]
    rw [tmV_mk, tmV_mk] at x1
    rw [lrun_atC loop9_0]
    simp (implicitDefEqProofs := false) (disch := omega) only [go_sem, seval, rgn Tryd.f9 5 rfl, rgn Tryd.f9 6 rfl, rgn Tryd.f9 7 rfl, rgn Tryd.f9 8 rfl, List.length_map, hlt, htn, hat, x1, x4, x5, thenDraw_append]
    all_goals (congr 1 <;> simp only [List.cons.injEq, AV.val.injEq, Value.int.injEq, Value.bool.injEq, true_and, and_true] <;> omega)
theorem equations_p (l : List (Tm × Tm)) (hl : l.length ≤ 9223372036854775807) (hf : Tm.fits (flatE l)) : ∃ b : Bool, (b = true → tszs (flatE l) ≤ 60 ∧ Tm.tys (flatE l) ∧ l.length ≤ 20) ∧ pcall Tryd.prog md fg 9 [.slc false (l.map eqV)] = some (.val (.bool b)) := by
  by_cases h20 : l.length ≤ 20
  · have hfl : (flatE l).length = 2 * l.length := by
      clear hf h20 hl
      induction l with
      | nil => rfl
      | cons a r ih => rw [show flatE (a :: r) = a.1 :: a.2 :: flatE r from rfl]; simp [ih]; omega
    obtain ⟨b, b1, b2⟩ := few_p (flatE l) (by omega) hf
    obtain ⟨H, kt', e1, e2⟩ := eqs_loop l h20 l [] rfl [] (.slc true []) (.inl ⟨rfl, rfl⟩)
    simp only [List.length_nil, Int.natCast_zero] at e1
    refine ⟨b, fun h => ⟨(b1 h).1, (b1 h).2, h20⟩, ?_⟩
    have hx : ∃ ids, expL (exp1 H expDepth) [kt'] = some ([.slc false ((flatE l).map tmV)], ids) ∧ canFrz H ids = true := by
      rcases e2 with ⟨q1, rfl⟩ | ⟨K, g, rfl, q2, _⟩
      · rw [q1]; exact ⟨[], rfl, rfl⟩
      · have h1 := arr_exp q2 (solid_byl _) 59
        refine ⟨[K], ?_, by simp [canFrz, q2]⟩
        show expL (exp1 H (59 + 1)) _ = _
        unfold expL
        rw [h1]
        rfl
    obtain ⟨ids, hx1, hx2⟩ := hx
    have cc := doCall_look md18 hx1 hx2 b2 rfl
    have e : aval Tryd.prog md fg 9 [.slc false (l.map eqV)] [] = some (.val (.bool b), H) := by
      have h20' : ¬ (20 : Int) < (l.length : Int) := by omega
      rw [aval_of Tryd.func9 body9 Tryd.results9 Tryd.ntmps9 ok9]
      simp (implicitDefEqProofs := false) (disch := omega) only [go_sem, seval, rgn Tryd.f9 0 rfl, rgn Tryd.f9 1 rfl, rgn Tryd.f9 3 rfl, rgn Tryd.f9 4 rfl, rgn Tryd.f9 9 rfl, List.length_map, h20', e1, cc]
    rw [pcall_eq, e, pureRes_solid rfl]
  · refine ⟨false, by simp, ?_⟩
    have e : aval Tryd.prog md fg 9 [.slc false (l.map eqV)] [] = some (.val (.bool false), []) := by
      have h20' : (20 : Int) < (l.length : Int) := by omega
      rw [aval_of Tryd.func9 body9 Tryd.results9 Tryd.ntmps9 ok9]
      simp (implicitDefEqProofs := false) (disch := omega) only [go_sem, seval, rgn Tryd.f9 0 rfl, rgn Tryd.f9 1 rfl, rgn Tryd.f9 2 rfl, List.length_map, h20']
    rw [pcall_eq, e, pureRes_solid rfl]
theorem eqs_c {l : List (Tm × Tm)} {b : Bool} (e : pcall Tryd.prog md fg 9 [.slc false (l.map eqV)] = some (.val (.bool b))) (h : AHeap) : doCall md (aval Tryd.prog md fg) 9 [.slc false (l.map eqV)] h = some (.val (.bool b), h) :=
  doCall_pure md9 (by simp only [solidL, solid, solid_eqs, Bool.not_false, Bool.and_true]) e
theorem IS.agree2 {h H : AHeap} {B : Nat} {sh : List Sh} {P : SMap} {ns : List Nd} (x : IS h 0 B 1 sh P ns) (h2 : ∃ cs, hget h 2 = .vars cs) (hl : h.length ≤ H.length) (ha : ∀ j, j < h.length → j ≠ 2 → hget H j = hget h j) : IS H 0 B 1 sh P ns := by
  obtain ⟨cs, h2⟩ := h2
  have hS : 0 < h.length := by obtain ⟨_, q, _⟩ := x.sp; exact hlt_of q (by simp)
  refine ⟨sp_keep x.sp (ha 0 hS (by decide)) fun A es g q => ?_, ⟨x.nr.1, fun i n s h1 h3 => ?_⟩, by have := x.b; omega, x.vs, ?_⟩
  · rw [ha A (hlt_of q (by simp)) (by rintro rfl; rw [h2] at q; cases q)]; exact q
  · have y := x.nr.2 i n s h1 h3
    refine ⟨y.kind, y.pkg, y.name, ?_, y.to, y.mark, y.le⟩
    rcases y.kids with z | ⟨K, g', e1, e2, e3, e4⟩
    · exact .inl z
    · exact .inr ⟨K, g', e1, by rw [ha K (hlt_of e2 (by simp)) (by rintro rfl; rw [h2] at e2; cases e2)]; exact e2, e3, e4⟩
  · have := x.ms
    unfold MS at this ⊢
    rw [ha 1 (hlt_of this (by simp)) (by decide)]; exact this
mutual
theorem tvars_fit : ∀ (t : Tm), t.fit → ∀ n ∈ tvars t, n.length ≤ 9223372036854775807
  | .mk k p m x l, h, n, hn => by
    rw [Tm.fit] at h
    rw [tvars] at hn
    split at hn
    · rw [List.mem_singleton.1 hn]; exact h.2.1
    · exact tvarss_fit l h.2.2.2 n hn
theorem tvarss_fit : ∀ (l : List Tm), Tm.fits l → ∀ n ∈ tvarss l, n.length ≤ 9223372036854775807
  | [], _, n, hn => by simp [tvarss] at hn
  | t :: r, h, n, hn => by
    rw [Tm.fits] at h
    rw [tvarss, List.mem_append] at hn
    rcases hn with hn | hn
    · exact tvars_fit t h.1 n hn
    · exact tvarss_fit r h.2 n hn
end
theorem tszs_vars : ∀ N : List (List UInt8), tszs (N.map vTm) = N.length
  | [] => by simp [tszs]
  | n :: r => by rw [List.map_cons, tszs, tszs_vars r]; unfold vTm; rw [tsz, tszs]; simp; omega
set_option maxHeartbeats 16000000 in
theorem so_round {l done rem : List (Tm × Tm)} {A B0 : Tm} (he : l = done ++ (A, B0) :: rem) (hty : Tm.tys (flatE l)) (hft : Tm.fits (flatE l)) (hsz : tszs (flatE l) ≤ 40000) (hll : l.length ≤ 40000) {h : AHeap} {B : Nat} {sh : List Sh} {P : SMap} {ns : List Nd} {nb : Bool} {N : List (List UInt8)} {ids : List (Nat × Nat)} (I : LS h B sh P ns nb N l.length done ids) :
    ∃ H B' sh' P' ns' N' a b, lrun Tryd.prog md fg (fg 33) (loopOf Tryd.f33 0) (fg 33 1) ((.unk :: .unk :: .unk :: .unk :: (.ptr 3 0) :: (.arr 4 0 l.length 0 2) :: .unk :: .unk :: .unk :: .unk :: .unk :: .unk :: .unk :: .unk :: .unk :: .unk :: .unk :: .unk :: (.slc false (l.map eqV)) :: (.int l.length) :: (.int done.length) :: .unk :: .unk :: .unk :: .unk :: .unk :: .unk :: .unk :: .unk :: .unk :: .unk :: .unk :: .unk :: .unk :: .unk :: .unk :: .unk :: .unk :: .unk :: .unk :: .unk :: .unk :: .unk :: .unk :: .unk :: .unk :: .unk :: .unk :: .unk :: .unk :: .unk :: .unk :: .unk :: .unk :: .unk :: .unk :: .unk :: .unk :: .unk :: .unk :: .unk :: .unk :: .unk :: .unk :: .unk :: .unk :: .unk :: .unk :: .unk :: .unk :: .unk :: .unk :: .unk :: .unk :: .unk :: .unk :: .unk :: .unk :: .unk :: .unk :: .unk :: .unk :: .unk :: .unk :: .unk :: .unk :: .unk :: .unk :: .unk :: [] : List AV)) h = lrun Tryd.prog md fg (fg 33) (loopOf Tryd.f33 0) (fg 33 1) ((.unk :: .unk :: .unk :: .unk :: (.ptr 3 0) :: (.arr 4 0 l.length 0 2) :: .unk :: .unk :: .unk :: .unk :: .unk :: .unk :: .unk :: .unk :: .unk :: .unk :: .unk :: .unk :: (.slc false (l.map eqV)) :: (.int l.length) :: (.int (done.length + 1 : Nat)) :: .unk :: .unk :: .unk :: .unk :: .unk :: .unk :: .unk :: .unk :: .unk :: .unk :: .unk :: .unk :: .unk :: .unk :: .unk :: .unk :: .unk :: .unk :: .unk :: .unk :: .unk :: .unk :: .unk :: .unk :: .unk :: .unk :: .unk :: .unk :: .unk :: .unk :: .unk :: .unk :: .unk :: .unk :: .unk :: .unk :: .unk :: .unk :: .unk :: .unk :: .unk :: .unk :: .unk :: .unk :: .unk :: .unk :: .unk :: .unk :: .unk :: .unk :: .unk :: .unk :: .unk :: .unk :: .unk :: .unk :: .unk :: .unk :: .unk :: .unk :: .unk :: .unk :: .unk :: .unk :: .unk :: .unk :: .unk :: .unk :: [] : List AV)) H ∧ LS H B' sh' P' ns' false N' l.length (done ++ [(A, B0)]) (ids ++ [(a, b)]) := by
  have hfl : flatE l = flatE done ++ ([A, B0] ++ flatE rem) := by rw [he, flatE_app]; simp [flatE]
  have hfl2 : flatE (done ++ [(A, B0)]) = flatE done ++ [A, B0] := by rw [flatE_app]; simp [flatE]
  rw [hfl, tys_append, tys_append] at hty
  rw [hfl, fits_append, fits_append] at hft
  rw [hfl, tszs_append, tszs_append] at hsz
  have hAB : tszs [A, B0] = tsz A + tsz B0 := by simp [tszs]
  obtain ⟨hty1, hty2, hty3⟩ := hty
  obtain ⟨hft1, hft2, hft3⟩ := hft
  have htyA : A.ty := by simp only [Tm.tys] at hty2; exact hty2.1
  have htyB : B0.ty := by simp only [Tm.tys] at hty2; exact hty2.2.1
  have hftA : A.fit := by simp only [Tm.fits] at hft2; exact hft2.1
  have hftB : B0.fit := by simp only [Tm.fits] at hft2; exact hft2.2.1
  have hNd : N.Nodup := by rw [I.names]; exact vsL_nodup _ _ (by simp)
  have hNl : N.length ≤ tszs (flatE done) := by
    rw [I.names]
    have := vsL_len (flatE done) []
    simpa using this
  have hfv : ∀ N : List (List UInt8), (∀ n ∈ N, n.length ≤ 9223372036854775807) → Tm.fits (N.map vTm) := fun N => by
    induction N with
    | nil => intro _; simp [Tm.fits]
    | cons n r ih => intro hn; rw [List.map_cons, Tm.fits]; exact ⟨by unfold vTm; rw [Tm.fit]; simp [Tm.fits]; exact hn n (by simp), ih fun m hm => hn m (by simp [hm])⟩
  have hNm : ∀ n ∈ N, n.length ≤ 9223372036854775807 := fun n hn => by
    rw [I.names, vsL_mem _ _ _ hty1] at hn
    rcases hn with hn | hn
    · cases hn
    · exact tvarss_fit _ hft1 n hn
  have hfN : Tm.fits (N.map vTm ++ [A, B0]) := (fits_append _ _).2 ⟨hfv N hNm, hft2⟩
  have htN : tszs (N.map vTm ++ [A, B0]) ≤ 100000 := by rw [tszs_append, tszs_vars, hAB]; omega
  have hvN := vs_next hNd A B0
  have hZ := I.z
  have hQ := I.q
  have hT := I.t
  unfold SO at hZ
  have l3 := hlt_of hQ (by simp)
  have l4 := hlt_of hT (by simp)
  obtain ⟨k, p, m, n, l1⟩ := A
  obtain ⟨k', p', m', n', l2⟩ := B0
  generalize hbx : AObj.vars [.int k, .str (txt p), .str (txt m), .int n, .slc false (l1.map tmV), .int k', .str (txt p'), .str (txt m'), .int n', .slc false (l2.map tmV)] = bx
  have i1 := I.is.app [bx]
  have g1 : ∀ j, j < h.length → hget (h ++ [bx]) j = hget h j := fun j hj => hget_app _ hj
  obtain ⟨H1, v1, c1, c2, c3⟩ := varTerms_c nb N (by omega) (h ++ [bx])
  have hsA := solid_tm ⟨k, p, m, n, l1⟩
  have hsB := solid_tm ⟨k', p', m', n', l2⟩
  obtain ⟨v2, H2, d1, d2, d3, d4, d5⟩ := kv_add c2 (by rw [List.length_map]; omega) c3.1 [tmV ⟨k, p, m, n, l1⟩, tmV ⟨k', p', m', n', l2⟩] (by rw [tmV_mk]; rfl) (by simp) (by simp)
  rcases d2 with ⟨q, _⟩ | ⟨K, gK, rfl, hK, hKl⟩
  · simp at q
  obtain ⟨H3, e1, e2, e3⟩ := vars_hand hK hfN (by omega) htN
  rw [hvN] at e1
  have hl1 := c3.1
  have hl2 := d3.1
  simp only [List.length_append, List.length_cons, List.length_nil] at hl1 hKl
  have a3 : ∀ j, j < h.length + 1 → hget H3 j = hget (h ++ [bx]) j := fun j hj => by
    rw [e3 j (by omega), d3.2 j (by simp; omega), c3.2 j (by simp; omega)]
  have z3 : hget H3 2 = .vars [.ptr 0 0, .mp 1, .slc nb (N.map sV)] := by rw [a3 2 (by omega), g1 2 (by omega)]; exact hZ
  generalize hH4 : H3.set 2 (.vars [.ptr 0 0, .mp 1, .slc false ((vsL N [⟨k, p, m, n, l1⟩, ⟨k', p', m', n', l2⟩]).map sV)]) = H4
  have a4 : ∀ j, j < h.length + 1 → j ≠ 2 → hget H4 j = hget (h ++ [bx]) j := fun j hj hj2 => by
    rw [← hH4, hget_set_ne (fun q => hj2 q.symm)]; exact a3 j hj
  have l4' : h.length + 1 ≤ H4.length := by rw [← hH4, List.length_set]; omega
  have z4 : SO H4 2 0 1 (.slc false ((vsL N [⟨k, p, m, n, l1⟩, ⟨k', p', m', n', l2⟩]).map sV)) := by rw [← hH4]; exact hget_set_eq (by omega)
  have q4 : hget H4 3 = .vars [.ptr 2 0] := by rw [a4 3 (by omega) (by decide), g1 3 l3]; exact hQ
  have i4 : IS H4 0 B 1 sh P ns := i1.agree2 ⟨_, by rw [g1 2 (by omega)]; exact hZ⟩ (by simp; exact l4') (fun j hj hj2 => a4 j (by simpa using hj) hj2)
  have b4 : hget H4 h.length = bx := by rw [a4 _ (by omega) (by omega)]; exact hget_last
  have t4 : hget H4 4 = .arr 2 ((ids ++ List.replicate (l.length - done.length) (0, 0)).map prV) 0 := by rw [a4 4 (by omega) (by decide), g1 4 l4]; exact hT
  have hfr := fr_55 q4 z4
  have hsz1 := I.sz
  have hkc1 := I.kc
  obtain ⟨H5, a, B5, sh5, P5, ns5, f1, i5, ip5, ie5, v5, le5, kc5, ku5, ar5, nw5⟩ := imp_all callable_55 hfr ⟨k, p, m, n, l1⟩ htyA hftA H4 B sh P ns (Ku.refl _ _ _ _) i4 I.ip (by omega)
  obtain ⟨H6, b, B6, sh6, P6, ns6, f2, i6, ip6, ie6, v6, le6, kc6, ku6, ar6, nw6⟩ := imp_all callable_55 hfr ⟨k', p', m', n', l2⟩ htyB hftB H5 B5 sh5 P5 ns5 ku5 i5 ip5 (by omega)
  have q5 : hget H5 3 = .vars [.ptr 2 0] := ku5.2 3 _ q4 (by simp) (by decide) (by decide) (by decide) (by simp)
  have z5 : hget H5 2 = .vars [.ptr 0 0, .mp 1, .slc false ((vsL N [⟨k, p, m, n, l1⟩, ⟨k', p', m', n', l2⟩]).map sV)] := ku5.2 2 _ z4 (by simp) (by decide) (by decide) (by decide) (by simp)
  have b5 : hget H5 h.length = bx := ku5.2 _ _ b4 (by rw [← hbx]; simp) (by omega) (by omega) (by omega) (by rw [← hbx]; simp)
  have q6 : hget H6 3 = .vars [.ptr 2 0] := ku6.2 3 _ q5 (by simp) (by decide) (by decide) (by decide) (by simp)
  have z6 : hget H6 2 = .vars [.ptr 0 0, .mp 1, .slc false ((vsL N [⟨k, p, m, n, l1⟩, ⟨k', p', m', n', l2⟩]).map sV)] := ku6.2 2 _ z5 (by simp) (by decide) (by decide) (by decide) (by simp)
  have b6 : hget H6 h.length = bx := ku6.2 _ _ b5 (by rw [← hbx]; simp) (by omega) (by omega) (by omega) (by rw [← hbx]; simp)
  have t6 : hget H6 4 = .arr 2 ((ids ++ List.replicate (l.length - done.length) (0, 0)).map prV) 0 := (ku5.trans ku6).2 4 _ t4 (by simp) (by decide) (by decide) (by decide) (by simp)
  have hdl : done.length < l.length := by rw [he]; simp
  have hrep : List.replicate (l.length - done.length) ((0, 0) : Nat × Nat) = (0, 0) :: List.replicate (l.length - (done.length + 1)) (0, 0) := by
    rw [show l.length - done.length = (l.length - (done.length + 1)) + 1 by omega]; rfl
  have hidl := I.len
  have hgT : ((ids ++ List.replicate (l.length - done.length) (0, 0)).map prV)[done.length]? = some (.agg [.int 0, .int 0]) := by
    rw [hrep, List.getElem?_map, List.getElem?_append_right (by omega), hidl, Nat.sub_self]; rfl
  have hset : ((ids ++ List.replicate (l.length - done.length) (0, 0)).map prV).set done.length (.agg [.int (a : Int), .int (b : Int)]) = ((ids ++ [(a, b)]) ++ List.replicate (l.length - (done ++ [(Tm.mk k p m n l1, Tm.mk k' p' m' n' l2)]).length) (0, 0)).map prV := by
    have e : (done ++ [(Tm.mk k p m n l1, Tm.mk k' p' m' n' l2)]).length = done.length + 1 := by simp
    rw [hrep, e, List.map_append, List.map_cons, List.set_append_right _ _ (by simp; omega)]
    simp only [List.length_map, hidl, Nat.sub_self, List.set_cons_zero]
    simp [prV]
  have hstp := septr_pr (a := a) (b := b) (H1 := H6) (T := 4) (g := 0) _ hgT
  rw [hset] at hstp
  have t6l := hlt_of t6 (by simp)
  have ie := ie5.trans ie6
  refine ⟨H6.set 4 (.arr 2 (((ids ++ [(a, b)]) ++ List.replicate (l.length - (done ++ [(Tm.mk k p m n l1, Tm.mk k' p' m' n' l2)]).length) (0, 0)).map prV) 0), B6, sh6, P6, ns6, _, a, b, ?_, ⟨i6.set2 (by decide) (by decide) t6 _, ip6, (hget_set_ne (by decide)).trans z6, (hget_set_ne (by decide)).trans q6, hget_set_eq t6l, by simp [hidl], fun j a' b' A' B' h1 h2 => ?_, ?_, fun x => ?_, ?_, ?_⟩⟩
  · have hlt : (done.length : Int) < (l.length : Int) := by omega
    have htn : ((done.length : Int)).toNat = done.length := by omega
    have hat : (l.map eqV)[done.length]? = some (.agg [.int k, .str (txt p), .str (txt m), .int n, .slc false (l1.map tmV), .int k', .str (txt p'), .str (txt m'), .int n', .slc false (l2.map tmV)]) := by
      rw [he]; simp [eqV]
    have x1 : hget (h ++ [bx]) 3 = .vars [.ptr 2 0] := (g1 3 l3).trans hQ
    have x2 : hget (h ++ [bx]) 2 = .vars [.ptr 0 0, .mp 1, .slc nb (N.map sV)] := (g1 2 (by omega)).trans hZ
    have x3 : hget (h ++ [bx]) h.length = bx := hget_last
    have y1 : ∀ j, j < h.length + 1 → hget H1 j = hget (h ++ [bx]) j := fun j hj => c3.2 j (by simp; omega)
    have y2 : ∀ j, j < h.length + 1 → hget H2 j = hget (h ++ [bx]) j := fun j hj => by rw [d3.2 j (by simp; omega)]; exact y1 j hj
    have u1 := (y1 3 (by omega)).trans x1
    have u2 := (y1 2 (by omega)).trans x2
    have u3 := (y1 h.length (by omega)).trans x3
    have w1 := (y2 3 (by omega)).trans x1
    have w2 := (y2 2 (by omega)).trans x2
    have w3 := (y2 h.length (by omega)).trans x3
    have s1 := (a3 3 (by omega)).trans x1
    have s3 := (a3 h.length (by omega)).trans x3
    rw [tmV_mk, tmV_mk] at d1 e1
    rw [tmV_mk] at f1 f2
    subst hbx
    unfold SO at z4
    rw [lrun_atC loop33_0]
    simp (implicitDefEqProofs := false) (disch := first | omega | exact List.length_set) only [go_sem, seval, rgn Tryd.f33 4 rfl, rgn Tryd.f33 5 rfl, rgn Tryd.f33 6 rfl, rgn Tryd.f33 7 rfl, rgn Tryd.f33 8 rfl, rgn Tryd.f33 9 rfl, hlt, htn, hat, hget_last, set_last, x1, x2, x3, u1, u2, u3, w1, w2, w3, s1, s3, z3, c1, d1, e1, hH4, z4, q4, b4, z5, q5, b5, z6, q6, b6, f1, f2, t6, hstp, md54, md53, md39, beq_self_eq_true, Bool.true_or, Bool.false_or, abuild_91', thenDraw_store]
    all_goals (congr 1 <;> simp only [List.cons.injEq, AV.val.injEq, Value.int.injEq, Value.bool.injEq, true_and, and_true] <;> omega)
  · by_cases hj : j < ids.length
    · rw [List.getElem?_append_left hj] at h1
      rw [List.getElem?_append_left (by omega)] at h2
      obtain ⟨y1, y2⟩ := I.vals j a' b' A' B' h1 h2
      exact ⟨y1.ext ie, y2.ext ie⟩
    · have := lt_of_at h1
      have : j = ids.length := by simp at this; omega
      subst this
      rw [List.getElem?_append_right (Nat.le_refl _), Nat.sub_self] at h1
      rw [List.getElem?_append_right (by omega), hidl, Nat.sub_self] at h2
      cases h1; cases h2
      exact ⟨v5.ext ie6, v6⟩
  · rw [hfl2, vsL_app, ← I.names]
  · rw [vsL_mem _ _ _ (by simp only [Tm.tys]; exact ⟨htyA, htyB, trivial⟩), I.dom x]
    have ht : tvarss [Tm.mk k p m n l1, Tm.mk k' p' m' n' l2] = tvars (Tm.mk k p m n l1) ++ tvars (Tm.mk k' p' m' n' l2) := by simp [tvarss]
    rw [ht]
    constructor
    · rintro (⟨i, hi⟩ | hx)
      · exact ⟨i, ie.keep x i hi⟩
      · exact ie.has x hx
    · rintro ⟨i, hi⟩
      rcases ie.only x i hi with h | h
      · exact .inl ⟨i, h⟩
      · exact .inr h
  · rw [hfl2, tszs_append, hAB]; omega
  · rw [hfl2, tszs_append, hAB]; omega
theorem callD_29 {env : Env} {d d2 : Option Tmp} {ty : TypeId} {pos : String} {aft : Array Edge} {g : Option (Nat × Bool)} (cs : Array Operand) (ts : Array TypeId) (h0 h' : AHeap) (v : AV) (k : Env → AHeap → Option (Env × AHeap)) : callD Tryd.prog md ⟨d, .call ⟨.value (.func 29), cs, ts⟩, ty, pos, aft, g⟩ h0 (some (v, h')) d2 k env = k (aput env d2 v) h' := by
  have : effOp Tryd.prog md ⟨d, .call ⟨.value (.func 29), cs, ts⟩, ty, pos, aft, g⟩ = true := rfl
  simp [callD, this]
theorem so_loop {l : List (Tm × Tm)} (hty : Tm.tys (flatE l)) (hft : Tm.fits (flatE l)) (hsz : tszs (flatE l) ≤ 40000) (hll : l.length ≤ 40000) : ∀ (rem done : List (Tm × Tm)), l = done ++ rem → ∀ {h : AHeap} {B : Nat} {sh : List Sh} {P : SMap} {ns : List Nd} {nb : Bool} {N : List (List UInt8)} {ids : List (Nat × Nat)}, LS h B sh P ns nb N l.length done ids →
    ∃ H B' sh' P' ns' nb' N' ids', lrun Tryd.prog md fg (fg 33) (loopOf Tryd.f33 0) (fg 33 1) ((.unk :: .unk :: .unk :: .unk :: (.ptr 3 0) :: (.arr 4 0 l.length 0 2) :: .unk :: .unk :: .unk :: .unk :: .unk :: .unk :: .unk :: .unk :: .unk :: .unk :: .unk :: .unk :: (.slc false (l.map eqV)) :: (.int l.length) :: (.int done.length) :: .unk :: .unk :: .unk :: .unk :: .unk :: .unk :: .unk :: .unk :: .unk :: .unk :: .unk :: .unk :: .unk :: .unk :: .unk :: .unk :: .unk :: .unk :: .unk :: .unk :: .unk :: .unk :: .unk :: .unk :: .unk :: .unk :: .unk :: .unk :: .unk :: .unk :: .unk :: .unk :: .unk :: .unk :: .unk :: .unk :: .unk :: .unk :: .unk :: .unk :: .unk :: .unk :: .unk :: .unk :: .unk :: .unk :: .unk :: .unk :: .unk :: .unk :: .unk :: .unk :: .unk :: .unk :: .unk :: .unk :: .unk :: .unk :: .unk :: .unk :: .unk :: .unk :: .unk :: .unk :: .unk :: .unk :: .unk :: .unk :: [] : List AV)) h = some (.exit 0, (.unk :: .unk :: .unk :: .unk :: (.ptr 3 0) :: (.arr 4 0 l.length 0 2) :: .unk :: .unk :: .unk :: .unk :: .unk :: .unk :: .unk :: .unk :: .unk :: .unk :: .unk :: .unk :: (.slc false (l.map eqV)) :: (.int l.length) :: (.int l.length) :: .unk :: .unk :: .unk :: .unk :: .unk :: .unk :: .unk :: .unk :: .unk :: .unk :: .unk :: .unk :: .unk :: .unk :: .unk :: .unk :: .unk :: .unk :: .unk :: .unk :: .unk :: .unk :: .unk :: .unk :: .unk :: .unk :: .unk :: .unk :: .unk :: .unk :: .unk :: .unk :: .unk :: .unk :: .unk :: .unk :: .unk :: .unk :: .unk :: .unk :: .unk :: .unk :: .unk :: .unk :: .unk :: .unk :: .unk :: .unk :: .unk :: .unk :: .unk :: .unk :: .unk :: .unk :: .unk :: .unk :: .unk :: .unk :: .unk :: .unk :: .unk :: .unk :: .unk :: .unk :: .unk :: .unk :: .unk :: .unk :: [] : List AV), H) ∧ LS H B' sh' P' ns' nb' N' l.length l ids'
  | [], done, he, h, B, sh, P, ns, nb, N, ids, I => by
    rw [List.append_nil] at he
    subst he
    refine ⟨h, B, sh, P, ns, nb, N, ids, ?_, I⟩
    rw [lrun_atC loop33_0]
    simp (implicitDefEqProofs := false) (disch := omega) only [go_sem, seval, rgn Tryd.f33 4 rfl]
  | (A, B0) :: rem, done, he, h, B, sh, P, ns, nb, N, ids, I => by
    obtain ⟨H1, B1, sh1, P1, ns1, N1, a, b, e1, I1⟩ := so_round he hty hft hsz hll I
    obtain ⟨H, B', sh', P', ns', nb', N', ids', e2, I2⟩ := so_loop hty hft hsz hll rem (done ++ [(A, B0)]) (by rw [he]; simp) I1
    refine ⟨H, B', sh', P', ns', nb', N', ids', ?_, I2⟩
    have hlen : (done ++ [(A, B0)]).length = done.length + 1 := by simp
    rw [hlen] at e2
    rw [e1, e2]
structure MS2 (h : AHeap) (B : Nat) (sh : List Sh) (P : SMap) (rt r : Nat → Nat) (vis : Nat → Bool) (w : Int) (ns : List Nd) (nv : AV) (ids : List (Nat × Nat)) : Prop where
  sp : SP h 0 ns 200000 false w
  nr : NR h 0 B sh rt r vis w ns
  ok : Ok sh rt r
  b : B ≤ h.length
  ms : MS h 1 P
  z : SO h 2 0 1 nv
  q : hget h 3 = .vars [.ptr 2 0]
  t : hget h 4 = .arr 2 (ids.map prV) 0
def AllP (M : Nat → Tm) (l : List (Nat × Nat)) : Prop := ∀ p ∈ l, M p.1 = M p.2
set_option maxHeartbeats 8000000 in
theorem un_loop {sh : List Sh} {P : SMap} {nv : AV} {ids : List (Nat × Nat)} (hids : ids.length ≤ 1000) (hsz : kc sh ≤ 70000) (hsh : sh.length ≤ 100000) (hlt : ∀ p ∈ ids, p.1 < sh.length ∧ p.2 < sh.length) (a2 a3 : AV) : ∀ (rem done : List (Nat × Nat)), ids = done ++ rem → ∀ {h : AHeap} {B : Nat} {rt r : Nat → Nat} {vis : Nat → Bool} {w : Int} {ns : List Nd}, MS2 h B sh P rt r vis w ns nv ids → 0 ≤ w → w ≤ 200000 * done.length → (∀ M, Mod sh rt M → Con sh M ∧ AllP M done) → (∀ M, Con sh M → AllP M done → Mod sh rt M) →
    ∃ H res B' rt' r' vis' w' ns' a2' a3' a72, lrun Tryd.prog md fg (fg 33) (loopOf Tryd.f33 2) (fg 33 3) ((.unk :: .unk :: (a2) :: (a3) :: (.ptr 3 0) :: .unk :: .unk :: .unk :: .unk :: .unk :: .unk :: .unk :: .unk :: .unk :: .unk :: .unk :: .unk :: .unk :: .unk :: .unk :: .unk :: .unk :: .unk :: .unk :: .unk :: .unk :: .unk :: .unk :: .unk :: .unk :: .unk :: .unk :: .unk :: .unk :: .unk :: .unk :: .unk :: .unk :: .unk :: .unk :: .unk :: .unk :: .unk :: .unk :: .unk :: .unk :: .unk :: .unk :: .unk :: .unk :: .unk :: .unk :: .unk :: .unk :: .unk :: .unk :: .unk :: .unk :: .unk :: .unk :: .unk :: .unk :: .unk :: .unk :: .unk :: .unk :: .unk :: .unk :: .unk :: .unk :: (.arr 4 0 ids.length 0 2) :: (.int ids.length) :: (.int done.length) :: .unk :: .unk :: .unk :: .unk :: .unk :: .unk :: .unk :: .unk :: .unk :: .unk :: .unk :: .unk :: .unk :: .unk :: .unk :: .unk :: [] : List AV)) h = some (if res then .exit 2 else .ret, (.unk :: .unk :: (a2') :: (a3') :: (.ptr 3 0) :: .unk :: .unk :: .unk :: .unk :: .unk :: .unk :: .unk :: .unk :: .unk :: .unk :: .unk :: .unk :: .unk :: .unk :: .unk :: .unk :: .unk :: .unk :: .unk :: .unk :: .unk :: .unk :: .unk :: .unk :: .unk :: .unk :: .unk :: .unk :: .unk :: .unk :: .unk :: .unk :: .unk :: .unk :: .unk :: .unk :: .unk :: .unk :: .unk :: .unk :: .unk :: .unk :: .unk :: .unk :: .unk :: .unk :: .unk :: .unk :: .unk :: .unk :: .unk :: .unk :: .unk :: .unk :: .unk :: .unk :: .unk :: .unk :: .unk :: .unk :: .unk :: .unk :: .unk :: .unk :: .unk :: (.arr 4 0 ids.length 0 2) :: (.int ids.length) :: (a72) :: .unk :: .unk :: .unk :: .unk :: .unk :: .unk :: .unk :: .unk :: .unk :: .unk :: .unk :: .unk :: .unk :: .unk :: .unk :: .unk :: [] : List AV), H) ∧ (res = false → a2' = .ptr 2 0 ∧ a3' = .val (.bool false)) ∧ (if res then MS2 H B' sh P rt' r' vis' w' ns' nv ids ∧ 0 ≤ w' ∧ w' ≤ 200000 * ids.length ∧ (∀ M, Mod sh rt' M → Con sh M ∧ AllP M ids) ∧ (∀ M, Con sh M → AllP M ids → Mod sh rt' M) else ∀ M, Con sh M → ¬ AllP M ids)
  | [], done, he, h, B, rt, r, vis, w, ns, I, w0, w1, hb, hg => by
    rw [List.append_nil] at he
    subst he
    refine ⟨h, true, B, rt, r, vis, w, ns, a2, a3, .int ids.length, ?_, by simp, by rw [if_pos rfl]; exact ⟨I, w0, w1, hb, hg⟩⟩
    rw [if_pos rfl]
    rw [lrun_atC loop33_2]
    simp (implicitDefEqProofs := false) (disch := omega) only [go_sem, seval, rgn Tryd.f33 11 rfl]
  | (a, b) :: rem, done, he, h, B, rt, r, vis, w, ns, I, w0, w1, hb, hg => by
    have hll : ids.length = done.length + (rem.length + 1) := by rw [he]; simp
    obtain ⟨hal, hbl⟩ := hlt (a, b) (by rw [he]; simp)
    have k0 := kf_app 0 h [AObj.vars [.int (a : Int), .int (b : Int)]]
    obtain ⟨H1, res, ns1, rt1, r1, vis1, w1', c1, c2, c3, c4, c5, c6, c7, c8⟩ := unify_c I.ok (sp_app I.sp [AObj.vars [.int (a : Int), .int (b : Int)]]) (I.nr.kf k0) (by have := I.b; simp; omega) (by rw [wt_none]; omega) w0 (by omega) (by omega) hal hbl
    have kk := k0.trans c5
    have hQ := I.q
    have hZ := I.z
    have hT := I.t
    have hM := I.ms
    have q1 : hget H1 3 = .vars [.ptr 2 0] := kk.2 3 _ hQ (by simp) (by decide) (by simp)
    have z1 : SO H1 2 0 1 nv := kk.2 2 _ hZ (by simp) (by decide) (by simp)
    have t1 : hget H1 4 = .arr 2 (ids.map prV) 0 := kk.2 4 _ hT (by simp) (by decide) (by simp)
    have m1 : MS H1 1 P := kk.2 1 _ hM (by simp) (by decide) (by simp)
    have hlti : (done.length : Int) < (ids.length : Int) := by omega
    have htn : ((done.length : Int)).toNat = done.length := by omega
    have hat : (ids.map prV)[done.length]? = some (.agg [.int (a : Int), .int (b : Int)]) := by rw [he]; simp [prV]
    have l3 := hlt_of hQ (by simp)
    have g3 : hget (h ++ [AObj.vars [.int (a : Int), .int (b : Int)]]) 3 = .vars [.ptr 2 0] := (hget_app _ l3).trans hQ
    have g2 : hget (h ++ [AObj.vars [.int (a : Int), .int (b : Int)]]) 2 = .vars [.ptr 0 0, .mp 1, nv] := (hget_app _ (by omega)).trans hZ
    unfold SO at z1
    have hbox : hget (h ++ [AObj.vars [.int (a : Int), .int (b : Int)]]) h.length = .vars [.int (a : Int), .int (b : Int)] := hget_last
    have hbox1 : hget H1 h.length = .vars [.int (a : Int), .int (b : Int)] := c5.2 _ _ hget_last (by simp) (by omega) (by simp)
    cases res with
    | false =>
      refine ⟨H1, false, B, rt, r, vis, w, ns, .ptr 2 0, .val (.bool false), .int done.length, ?_, fun _ => ⟨rfl, rfl⟩, ?_⟩
      · simp only [Bool.false_eq_true, if_false]
        rw [lrun_atC loop33_2]
        simp (implicitDefEqProofs := false) (disch := first | omega | exact List.length_set) only [go_sem, seval, rgn Tryd.f33 11 rfl, rgn Tryd.f33 12 rfl, rgn Tryd.f33 13 rfl, rgn Tryd.f33 14 rfl, hlti, htn, hT, hat, hget_last, set_last, g3, g2, c1, q1, z1, hbox1, callD_29]
      · simp only [Bool.false_eq_true, if_false] at c8 ⊢
        intro M hM2 hall
        exact c8 M (hg M hM2 fun p hp => hall p (by rw [he]; simp [hp])) (hall (a, b) (by rw [he]; simp))
    | true =>
      simp only [if_true] at c8
      have hlen : (done ++ [(a, b)]).length = done.length + 1 := by simp
      obtain ⟨H, res, B', rt', r', vis', w', ns', a2', a3', a72, d1, d2, d3⟩ := un_loop (nv := nv) hids hsz hsh hlt a2 a3 rem (done ++ [(a, b)]) (by rw [he]; simp) (h := H1) (B := B) (rt := rt1) (r := r1) (vis := vis1) (w := w1') (ns := ns1) ⟨c2, c4, c3, by have := I.b; have := kk.1; omega, m1, z1, q1, t1⟩ (by omega) (by rw [hlen]; omega) (fun M hm => by
          obtain ⟨x1, x2⟩ := c8.1 M hm
          obtain ⟨y1, y2⟩ := hb M x1
          refine ⟨y1, fun p hp => ?_⟩
          rcases List.mem_append.1 hp with hp | hp
          · exact y2 p hp
          · rw [List.mem_singleton.1 hp]; exact x2) (fun M hm hall => c8.2 M (hg M hm fun p hp => hall p (by simp [hp])) (hall (a, b) (by simp)))
      refine ⟨H, res, B', rt', r', vis', w', ns', a2', a3', a72, ?_, d2, d3⟩
      rw [hlen] at d1
      rw [← d1]
      rw [lrun_atC loop33_2]
      simp (implicitDefEqProofs := false) (disch := first | omega | exact List.length_set) only [go_sem, seval, rgn Tryd.f33 11 rfl, rgn Tryd.f33 12 rfl, rgn Tryd.f33 13 rfl, rgn Tryd.f33 15 rfl, hlti, htn, hT, hat, hget_last, set_last, g3, g2, c1, q1, z1, hbox1, callD_29]
      all_goals (congr 1 <;> simp only [List.cons.injEq, AV.val.injEq, Value.int.injEq, Value.bool.injEq, true_and, and_true] <;> omega)
theorem amake_92 (h : AHeap) (n : Nat) (hn : n ≤ 100000) : amake Tryd.prog 92 h (.int (n : Int)) (.int (n : Int)) = some (.arr h.length 0 n 0 2, h ++ [.arr 2 ((List.replicate n ((0, 0) : Nat × Nat)).map prV) 0]) := by
  have hz : prV (0, 0) = .agg [.int 0, .int 0] := rfl
  rw [List.map_replicate, hz]
  unfold amake
  have e : ((n : Int)).toNat = n := by omega
  have : tslice Tryd.prog 92 = some (2, 16, .agg [.int 0, .int 0]) := tslice_92
  rw [this]
  show (if 0 ≤ (n : Int) ∧ (n : Int) ≤ (n : Int) ∧ ((n : Int)).toNat * 16 ≤ 2 ^ 47 then some (AV.arr h.length 0 ((n : Int)).toNat 0 2, h ++ [AObj.arr 2 (List.replicate ((n : Int)).toNat (.agg [.int 0, .int 0])) 0]) else none) = _
  rw [e, if_pos ⟨by omega, Int.le_refl _, by omega⟩]
theorem cells_mp (k : Nat) : (AV.mp k).cells = [.mp k] := rfl
theorem ok_mp (k : Nat) : okVal (.mp k) = true := rfl
def Eqs (th : List UInt8 → Tm) (l : List (Tm × Tm)) : Prop := ∀ p ∈ l, inst th p.1 = inst th p.2
structure SD (l : List (Tm × Tm)) (sh : List Sh) (P : SMap) (N : List (List UInt8)) : Prop where
  ip : IP sh P
  names : N = vsL [] (flatE l)
  dom : ∀ n, n ∈ N ↔ ∃ i, mg P n = some i
  sz : sh.length ≤ tszs (flatE l)
  kc : kc sh ≤ tszs (flatE l)
theorem allp_eqs {l : List (Tm × Tm)} {sh : List Sh} {P : SMap} {ids : List (Nat × Nat)} (hl : ids.length = l.length) (hv : ∀ (j a b : Nat) (A B : Tm), ids[j]? = some (a, b) → l[j]? = some (A, B) → Val sh P a A ∧ Val sh P b B) {M : Nat → Tm} (hM : Con sh M) : AllP M ids ↔ Eqs (fun n => M (vmap P n)) l := by
  constructor
  · intro h p hp
    obtain ⟨j, hj⟩ := List.mem_iff_getElem?.1 hp
    obtain ⟨⟨a, b⟩, hi⟩ := at_of_lt (l := ids) (i := j) (by rw [hl]; exact lt_of_at hj)
    obtain ⟨A, B⟩ := p
    obtain ⟨v1, v2⟩ := hv j a b A B hi hj
    have := h (a, b) (List.mem_of_getElem? hi)
    rw [v1.2.2 M hM, v2.2.2 M hM] at this
    exact this
  · intro h p hp
    obtain ⟨j, hj⟩ := List.mem_iff_getElem?.1 hp
    obtain ⟨⟨A, B⟩, hi⟩ := at_of_lt (l := l) (i := j) (by rw [← hl]; exact lt_of_at hj)
    obtain ⟨a, b⟩ := p
    obtain ⟨v1, v2⟩ := hv j a b A B hj hi
    show M a = M b
    rw [v1.2.2 M hM, v2.2.2 M hM]
    exact h (A, B) (List.mem_of_getElem? hi)
set_option maxHeartbeats 8000000 in
theorem solve_c {l : List (Tm × Tm)} (hty : Tm.tys (flatE l)) (hft : Tm.fits (flatE l)) (hsz : tszs (flatE l) ≤ 40000) (hll : l.length ≤ 1000) :
    ∃ H res sh P N, doCall md (aval Tryd.prog md fg) 33 [.slc false (l.map eqV)] [] = some (.tup [.ptr 2 0, .val (.bool res)], H) ∧ SD l sh P N ∧ (if res then ∃ B rt r vis w ns nb ids, MS2 H B sh P rt r vis w ns (.slc nb (N.map sV)) ids ∧ (∀ M, Mod sh rt M → Con sh M ∧ Eqs (fun n => M (vmap P n)) l) ∧ (∀ M, Con sh M → Eqs (fun n => M (vmap P n)) l → Mod sh rt M) else ∀ M, Con sh M → ¬ Eqs (fun n => M (vmap P n)) l) := by
  obtain ⟨S0, cn, sn, hS0⟩ := new_c 200000 (by omega) (by omega) []
  rw [List.nil_append] at hS0
  simp only [List.length_nil] at cn sn
  subst hS0
  have I0 : LS [.vars [.slc true [], .int 200000, .val (.bool false), .int 0], .map [] 0, .vars [.ptr 0 0, .mp 1, .slc true []], .vars [.ptr 2 0], .arr 2 ((List.replicate l.length ((0, 0) : Nat × Nat)).map prV) 0] 0 [] (([], 0) : SMap) [] true [] l.length [] [] := by
    refine ⟨⟨⟨.slc true [], rfl, .inl ⟨rfl, rfl⟩⟩, ⟨rfl, fun i n s h => by simp at h⟩, Nat.zero_le _, by decide, rfl⟩, ⟨⟨fun i h => by simp at h, fun i h => by simp at h, fun i s h => by simp at h, fun i s k h => by simp at h, fun i h => by simp at h, fun i s h => by simp at h, fun i s h => by simp at h⟩, fun n i h => by simp [mg, mf] at h, fun n m i h => by simp [mg, mf] at h, fun i s h => by simp at h, fun i s h => by simp at h⟩, rfl, rfl, ?_, rfl, fun j a b A B h => by simp at h, ?_, fun n => by simp [mg, mf], by simp, by simp [kc]⟩
    · show AObj.arr 2 _ 0 = _
      simp
    · simp [flatE, vsL]
  obtain ⟨H1, B1, sh, P, ns1, nb, N, ids, e1, I1⟩ := so_loop hty hft hsz (by omega) l [] rfl I0
  simp only [List.length_nil, Int.natCast_zero] at e1
  have hsd : SD l sh P N := ⟨I1.ip, I1.names, I1.dom, I1.sz, I1.kc⟩
  have hT := I1.t
  rw [Nat.sub_self, List.replicate_zero, List.append_nil] at hT
  have hidl := I1.len
  have hlt : ∀ p ∈ ids, p.1 < sh.length ∧ p.2 < sh.length := fun p hp => by
    obtain ⟨j, hj⟩ := List.mem_iff_getElem?.1 hp
    obtain ⟨⟨A, B⟩, hi⟩ := at_of_lt (l := l) (i := j) (by rw [← hidl]; exact lt_of_at hj)
    obtain ⟨v1, v2⟩ := I1.vals j p.1 p.2 A B hj hi
    exact ⟨v1.1, v2.1⟩
  have M1 : MS2 H1 B1 sh P idf idf yes 0 ns1 (.slc nb (N.map sV)) ids := ⟨I1.is.sp, I1.is.nr, I1.ip.ok, I1.is.b, I1.is.ms, I1.z, I1.q, hT⟩
  have hmod : ∀ M, Con sh M → Mod sh idf M := fun M h => ⟨fun _ _ => rfl, h⟩
  have hk1 := I1.kc
  have hs1 := I1.sz
  obtain ⟨H2, res, B2, rt, r, vis, w, ns2, a2', a3', a72, e2, e3, e4⟩ := un_loop (ids := ids) (by omega) (by omega) (by omega) hlt .unk .unk ids [] rfl M1 (Int.le_refl _) (by simp) (fun M h => ⟨h.2, fun p hp => by cases hp⟩) (fun M h _ => hmod M h)
  simp only [List.length_nil, Int.natCast_zero] at e2
  rw [hidl] at e2
  have hq1 := I1.q
  have e : aval Tryd.prog md fg 33 [.slc false (l.map eqV)] [] = some (.tup [.ptr 2 0, .val (.bool res)], H2) := by
    have hmk := fun h => amake_92 h l.length (by omega)
    cases res with
    | false =>
      obtain ⟨rfl, rfl⟩ := e3 rfl
      simp only [Bool.false_eq_true, if_false] at e2
      rw [aval_of Tryd.func33 body33 Tryd.results33 Tryd.ntmps33 ok33]
      simp (implicitDefEqProofs := false) (disch := first | omega | exact List.length_set) only [go_sem, seval, rgn Tryd.f33 0 rfl, rgn Tryd.f33 1 rfl, rgn Tryd.f33 2 rfl, rgn Tryd.f33 3 rfl, rgn Tryd.f33 10 rfl, cn, aop_makeMap0, isMapT_68, List.nil_append, List.cons_append, List.length_cons, List.length_nil, List.length_map, hmk, ato2_some, e1, e2, Nat.zero_add, Nat.reduceAdd, cells_mp, ok_mp]
    | true =>
      simp only [if_true] at e2 e4
      have hq2 := e4.1.q
      rw [aval_of Tryd.func33 body33 Tryd.results33 Tryd.ntmps33 ok33]
      simp (implicitDefEqProofs := false) (disch := first | omega | exact List.length_set) only [go_sem, seval, rgn Tryd.f33 0 rfl, rgn Tryd.f33 1 rfl, rgn Tryd.f33 2 rfl, rgn Tryd.f33 3 rfl, rgn Tryd.f33 10 rfl, rgn Tryd.f33 16 rfl, cn, aop_makeMap0, isMapT_68, List.nil_append, List.cons_append, List.length_cons, List.length_nil, List.length_map, hmk, ato2_some, e1, e2, hq2, Nat.zero_add, Nat.reduceAdd, cells_mp, ok_mp]
  refine ⟨H2, res, sh, P, N, ?_, hsd, ?_⟩
  · rw [doCall_0 (by decide)]
    unfold doCall0
    rw [if_neg (by decide), rated_id (by decide), e]
    dsimp only
    rw [if_neg (fun q => by have := q.1; simp [below, belowL] at this)]
  · cases res with
    | false =>
      simp only [Bool.false_eq_true, if_false] at e4 ⊢
      exact fun M hM hE => e4 M hM ((allp_eqs hidl I1.vals hM).2 hE)
    | true =>
      simp only [if_true] at e4 ⊢
      obtain ⟨f1, f2, f3, f4, f5⟩ := e4
      exact ⟨B2, rt, r, vis, w, ns2, nb, ids, f1, fun M hm => ⟨(f4 M hm).1, (allp_eqs hidl I1.vals (f4 M hm).1).1 (f4 M hm).2⟩, fun M hm hE => f5 M hm ((allp_eqs hidl I1.vals hm).2 hE)⟩
theorem call50 : callable Tryd.prog 50 = true := by kernel_rfl
def zeroV : AV := .agg [.val (.int .i64 0), .val (.string ⟨#[]⟩), .val (.string ⟨#[]⟩), .val (.int .i64 0), .slc true []]
section
variable {h : AHeap} {B : Nat} {sh : List Sh} {P : SMap} {rt r : Nat → Nat} {vis : Nat → Bool} {w : Int} {ns : List Nd} {nb : Bool} {N : List (List UInt8)} {ids : List (Nat × Nat)} {T : Nat → Tm}
theorem MS2.kf {H : AHeap} {nv : AV} (x : MS2 h B sh P rt r vis w ns nv ids) (k : Kf 0 h H) {ns' : List Nd} (hs : SP H 0 ns' 200000 false w) (hn : NR H 0 B sh rt r vis w ns') : MS2 H B sh P rt r vis w ns' nv ids :=
  ⟨hs, hn, x.ok, by have := x.b; have := k.1; omega, k.2 1 _ x.ms (by simp) (by decide) (by simp), k.2 2 _ x.z (by simp) (by decide) (by simp), k.2 3 _ x.q (by simp) (by decide) (by simp), k.2 4 _ x.t (by simp) (by decide) (by simp)⟩
set_option maxHeartbeats 8000000 in
theorem of_c (x : MS2 h B sh P rt r vis w ns (.slc nb (N.map sV)) ids) (hT : Mod sh rt T) (hTv : ∀ (v : Nat) (s : Sh), sh[v]? = some s → s.kind = 1 → rt v = v → T v = ⟨1, [], fstN P rt v N, 0, []⟩) (hkc : kc sh ≤ 90000) (hN : N.length ≤ 90000) (hNv : ∀ n ∈ N, vmap P n < sh.length) {i : Nat} (hi : i < sh.length) :
    ∃ H ns', doCall md (aval Tryd.prog md fg) 34 [.ptr 2 0, .int (i : Nat)] h = some (.tup [if tsz (T i) ≤ 1000 then tmV (T i) else zeroV, .val (.bool (decide (tsz (T i) ≤ 1000)))], H) ∧ MS2 H B sh P rt r vis w ns' (.slc nb (N.map sV)) ids ∧ Kf 0 h H := by
  have hQ := x.q
  have hZ := x.z
  have hM := x.ms
  have l3 := hlt_of hQ (by simp)
  have hb := x.b
  have k0 := kf_app 0 h [AObj.vars [.val (.int .i64 0), .val (.string ⟨#[]⟩), .val (.string ⟨#[]⟩), .val (.int .i64 0), .slc true []], .map [] 0]
  have hv1 : ∀ (v : Nat) (s : Sh), sh[v]? = some s → s.kind = 1 → rt v = v → tsz (T v) = 1 := fun v s h1 h2 h3 => by rw [hTv v s h1 h2 h3, tsz, tszs]
  obtain ⟨H1, ns1, Q1, c1, c2, c3, c4, c5, c6, c7⟩ := size_all (S := 0) (B := B) (Z := h.length + 1) (b := 200000) (w := w) (fl := false) (vis := vis) x.ok hT hv1 (by omega) (by omega) (by omega) (r i + 1) i (by omega) hi (h ++ [AObj.vars [.val (.int .i64 0), .val (.string ⟨#[]⟩), .val (.string ⟨#[]⟩), .val (.int .i64 0), .slc true []], .map [] 0]) ns ([], 0) (sp_app x.sp _) (x.nr.kf k0) (sb_get1 _ _ _ rfl) (fun k n hk => by simp [mg, mf] at hk)
  simp only [List.length_append, List.length_cons, List.length_nil] at c7
  have kf1 : Kf 0 h H1 := ⟨by omega, fun j o e z1 z2 z3 => c6.2 j o (k0.2 j o e z1 z2 z3) z1 z2 (by have := hlt_of e z1; omega) (by have := hlt_of e z1; omega) z3⟩
  have hb1 : hget H1 h.length = .vars [.val (.int .i64 0), .val (.string ⟨#[]⟩), .val (.string ⟨#[]⟩), .val (.int .i64 0), .slc true []] := c6.2 _ _ (sb_get0 _ _ rfl) (by simp) (by omega) (by omega) (by omega) (by simp)
  have hb1l := hlt_of hb1 (by simp)
  have x1 := x.kf kf1 c2 c3
  have g2 : ∀ l, hget (h ++ l) 2 = .vars [.ptr 0 0, .mp 1, .slc nb (N.map sV)] := fun l => (hget_app _ (by omega)).trans hZ
  have z1 : hget H1 2 = .vars [.ptr 0 0, .mp 1, .slc nb (N.map sV)] := x1.z
  unfold SO at hZ
  by_cases hs : tsz (T i) ≤ 1000
  · have hcap : ¬ ((1000 : Int) < (cap (tsz (T i)) : Nat)) := by have := cap_big.2 hs; omega
    obtain ⟨H2, ns2, d1, d2, d3, d4⟩ := told_all (S := 0) (B := B) (V := 1) (Zs := 2) (b := 200000) (w := w) (fl := false) (vis := vis) (P := P) (nb := nb) (N := N) x.ok hT hTv hkc (by decide) (by decide) hN hNv (r i + 1) i (by omega) hi H1 ns1 (by omega) c2 c3 x1.ms x1.z
    have hb2 : hget H2 h.length = .vars [.val (.int .i64 0), .val (.string ⟨#[]⟩), .val (.string ⟨#[]⟩), .val (.int .i64 0), .slc true []] := d4.2 _ _ hb1 (by simp) (by omega) (by simp)
    have hb2l := hlt_of hb2 (by simp)
    rw [if_pos hs, decide_eq_true hs]
    generalize hTi : T i = ti at *
    obtain ⟨q1, q2, q3, q4, q5⟩ := ti
    rw [tmV_mk] at d1 ⊢
    have e : aval Tryd.prog md fg 34 [.ptr 2 0, .int (i : Nat)] h = some (.tup [.agg [.int q1, .str (txt q2), .str (txt q3), .int q4, .slc false (q5.map tmV)], .val (.bool true)], H2.set h.length (.vars [.int q1, .str (txt q2), .str (txt q3), .int q4, .slc false (q5.map tmV)])) := by
      rw [aval_of Tryd.func34 body34 Tryd.results34 Tryd.ntmps34 ok34]
      simp (implicitDefEqProofs := false) (disch := first | omega | exact List.length_set) only [go_sem, seval, rgn Tryd.f34 0 rfl, rgn Tryd.f34 1 rfl, rgn Tryd.f34 3 rfl, g2, hZ, aop_makeMap0, isMapT_90, List.append_assoc, List.nil_append, List.cons_append, List.append_nil, List.length_append, List.length_cons, List.length_nil, c1, hcap, z1, d1, hb2, hget_set_eq, aresults, tupOf, Nat.zero_add, Nat.reduceAdd]
    have s2 : SP (H2.set h.length (.vars [.int q1, .str (txt q2), .str (txt q3), .int q4, .slc false (q5.map tmV)])) 0 ns2 200000 false w := sp_keep d2 (hget_set_ne (by omega)) (fun A es g q => by rw [hget_set_ne (by rintro rfl; rw [hb2] at q; cases q)]; exact q)
    have kf2 := kf1.trans d4
    obtain ⟨H, f1, f2, f3, f4⟩ := doCall_sp5 md34 e x.sp s2 (by rw [List.length_set]; exact kf2.1)
    have kfH : Kf 0 h H := ⟨f3, fun j o e z1 z2 z3 => by
      have := hlt_of e z1
      rw [f4 j this, hget_set_ne (by omega)]; exact kf2.2 j o e z1 z2 z3⟩
    exact ⟨H, ns2, f1, x.kf kfH f2 (d3.agree hb (fun j hj => by rw [f4 j hj, hget_set_ne (by omega)])), kfH⟩
  · have hcap : (1000 : Int) < (cap (tsz (T i)) : Nat) := by
      have : ¬ cap (tsz (T i)) ≤ 1000 := fun e => hs (cap_big.1 e)
      omega
    rw [if_neg hs, decide_eq_false hs]
    have e : aval Tryd.prog md fg 34 [.ptr 2 0, .int (i : Nat)] h = some (.tup [zeroV, .val (.bool false)], H1.set h.length (.vars [.val (.int .i64 0), .val (.string ⟨#[]⟩), .val (.string ⟨#[]⟩), .val (.int .i64 0), .slc true []])) := by
      unfold zeroV
      rw [aval_of Tryd.func34 body34 Tryd.results34 Tryd.ntmps34 ok34]
      simp (implicitDefEqProofs := false) (disch := first | omega | exact List.length_set) only [go_sem, seval, rgn Tryd.f34 0 rfl, rgn Tryd.f34 1 rfl, rgn Tryd.f34 2 rfl, g2, hZ, aop_makeMap0, isMapT_90, List.append_assoc, List.nil_append, List.cons_append, List.append_nil, List.length_append, List.length_cons, List.length_nil, c1, hcap, z1, hb1, hget_set_eq, aresults, tupOf, Nat.zero_add, Nat.reduceAdd]
    have s2 : SP (H1.set h.length (.vars [.val (.int .i64 0), .val (.string ⟨#[]⟩), .val (.string ⟨#[]⟩), .val (.int .i64 0), .slc true []])) 0 ns1 200000 false w := sp_keep c2 (hget_set_ne (by omega)) (fun A es g q => by rw [hget_set_ne (by rintro rfl; rw [hb1] at q; cases q)]; exact q)
    obtain ⟨H, f1, f2, f3, f4⟩ := doCall_sp5 md34 e x.sp s2 (by rw [List.length_set]; exact kf1.1)
    have kfH : Kf 0 h H := ⟨f3, fun j o e z1 z2 z3 => by
      have := hlt_of e z1
      rw [f4 j this, hget_set_ne (by omega)]; exact kf1.2 j o e z1 z2 z3⟩
    exact ⟨H, ns1, f1, x.kf kfH f2 (c3.agree hb (fun j hj => by rw [f4 j hj, hget_set_ne (by omega)])), kfH⟩
end
def valV : List UInt8 × Tm → AV
  | (n, ⟨k, p, m, x, l⟩) => .agg [.str (txt n), .int k, .str (txt p), .str (txt m), .int x, .slc false (l.map tmV)]
def KO (h : AHeap) (kt : AV) (l : List (List UInt8 × Tm)) : Prop := (l = [] ∧ kt = .slc true []) ∨ ∃ K g, kt = .arr K 0 l.length g 6 ∧ hget h K = .arr 6 (l.map valV) g
theorem headOk_val (l : List (List UInt8 × Tm)) : headOk 6 (l.map valV) = true := by
  cases l with
  | nil => rfl
  | cons t r => obtain ⟨n, k, p, m, x, ks⟩ := t; rfl
theorem solid_val (l : List (List UInt8 × Tm)) : solidL (l.map valV) = true := by
  induction l with
  | nil => rfl
  | cons t r ih =>
    obtain ⟨n, k, p, m, x, ks⟩ := t
    rw [List.map_cons]
    have := solid_tmL ks
    simp only [solidL, ih, Bool.and_true, valV, solid, Bool.not_false, Bool.true_and, this]
theorem ko_add {h : AHeap} {kt : AV} {l : List (List UInt8 × Tm)} (hk : KO h kt l) (hl : l.length ≤ 100000) (t : List UInt8 × Tm) : ∃ v H, (∀ z, appT (some (6, 88, z)) h kt (some [valV t]) = some (v, H)) ∧ KO H v (l ++ [t]) ∧ (h.length ≤ H.length ∧ ∀ j o, hget h j = o → o ≠ .dead → (∀ b c, o ≠ .arr 6 b c) → hget H j = o) := by
  have hh : headOk 6 [valV t] = true := headOk_val [t]
  rcases hk with ⟨rfl, rfl⟩ | ⟨K, g, rfl, h2⟩
  · refine ⟨_, _, fun z => appT_slc _ _ _ _ _ hh rfl (by simp) (by simp), .inr ⟨h.length, 0, by simp, by rw [hget_last]; rfl⟩, by simp, fun j o e h1 _ => by rw [hget_app _ (hlt_of e h1)]; exact e⟩
  · refine ⟨_, _, fun z => appT_arr _ _ _ _ _ _ _ _ h2 (by simp) hh (by simp; omega), .inr ⟨K, g + 1, by simp, by rw [hget_set_eq (hlt_of h2 (by simp))]; simp⟩, by simp, fun j o e h1 h4 => ?_⟩
    rw [hget_set_ne (by rintro rfl; rw [h2] at e; exact h4 _ _ e.symm)]; exact e
theorem KO.kf {h H : AHeap} (k : Kf 0 h H) (h0 : ∃ cs, hget h 0 = .vars cs) {kt : AV} {l : List (List UInt8 × Tm)} (x : KO h kt l) : KO H kt l := by
  rcases x with x | ⟨K, g, e1, e2⟩
  · exact .inl x
  · obtain ⟨cs, h0⟩ := h0
    exact .inr ⟨K, g, e1, k.2 K _ e2 (by simp) (by rintro rfl; rw [h0] at e2; cases e2) (by simp)⟩
section
variable {B : Nat} {sh : List Sh} {P : SMap} {rt r : Nat → Nat} {vis : Nat → Bool} {w : Int} {nb : Bool} {N : List (List UInt8)} {ids : List (Nat × Nat)} {T : Nat → Tm}
theorem MS2.ko {h H : AHeap} {ns : List Nd} {nv : AV} (x : MS2 h B sh P rt r vis w ns nv ids) (hl : h.length ≤ H.length) (hk : ∀ j o, hget h j = o → o ≠ .dead → (∀ b c, o ≠ .arr 6 b c) → hget H j = o) : MS2 H B sh P rt r vis w ns nv ids := by
  obtain ⟨nv0, z1, z2⟩ := x.sp
  exact ⟨sp_keep x.sp (by rw [z1]; exact hk 0 _ z1 (by simp) (by simp)) (fun A es g q => hk A _ q (by simp) (by simp)), ⟨x.nr.1, fun i n s h1 h2 => by
    have y := x.nr.2 i n s h1 h2
    refine ⟨y.kind, y.pkg, y.name, ?_, y.to, y.mark, y.le⟩
    rcases y.kids with z | ⟨K, g', e1, e2, e3, e4⟩
    · exact .inl z
    · exact .inr ⟨K, g', e1, hk K _ e2 (by simp) (by simp), e3, e4⟩⟩, x.ok, by have := x.b; omega, hk 1 _ x.ms (by simp) (by simp), hk 2 _ x.z (by simp) (by simp), hk 3 _ x.q (by simp) (by simp), hk 4 _ x.t (by simp) (by simp)⟩
def sg (T : Nat → Tm) (P : SMap) (n : List UInt8) : Tm := T (vmap P n)
set_option maxHeartbeats 8000000 in
theorem sv_loop (hT : Mod sh rt T) (hTv : ∀ (v : Nat) (s : Sh), sh[v]? = some s → s.kind = 1 → rt v = v → T v = ⟨1, [], fstN P rt v N, 0, []⟩) (hkc : kc sh ≤ 90000) (hN : N.length ≤ 90000) (hNv : ∀ n ∈ N, vmap P n < sh.length) : ∀ (rem done : List (List UInt8)), N = done ++ rem → ∀ (h : AHeap) (ns : List Nd) (kt : AV), MS2 h B sh P rt r vis w ns (.slc nb (N.map sV)) ids → KO h kt (done.map fun n => (n, sg T P n)) →
    ∃ H kt' a23 a2 a3 okk, lrun Tryd.prog md fg (fg 11) (loopOf Tryd.f11 0) (fg 11 1) ((.unk :: .unk :: (.slc true []) :: (.int 0) :: (.ptr 2 0) :: .unk :: (kt) :: .unk :: .unk :: .unk :: .unk :: .unk :: .unk :: .unk :: .unk :: .unk :: .unk :: .unk :: .unk :: .unk :: .unk :: (.slc nb (N.map sV)) :: (.int N.length) :: (.int done.length) :: .unk :: .unk :: .unk :: .unk :: .unk :: .unk :: .unk :: .unk :: .unk :: .unk :: .unk :: .unk :: .unk :: .unk :: .unk :: .unk :: .unk :: .unk :: .unk :: .unk :: .unk :: .unk :: .unk :: .unk :: [] : List AV)) h = some (if okk then .exit 0 else .ret, (.unk :: .unk :: (a2) :: (a3) :: (.ptr 2 0) :: .unk :: (kt') :: .unk :: .unk :: .unk :: .unk :: .unk :: .unk :: .unk :: .unk :: .unk :: .unk :: .unk :: .unk :: .unk :: .unk :: (.slc nb (N.map sV)) :: (.int N.length) :: (a23) :: .unk :: .unk :: .unk :: .unk :: .unk :: .unk :: .unk :: .unk :: .unk :: .unk :: .unk :: .unk :: .unk :: .unk :: .unk :: .unk :: .unk :: .unk :: .unk :: .unk :: .unk :: .unk :: .unk :: .unk :: [] : List AV), H) ∧ (okk = false → a2 = .slc true [] ∧ a3 = .int 9) ∧ (okk = true ↔ ∀ n ∈ rem, tsz (sg T P n) ≤ 1000) ∧ (okk = true → KO H kt' (N.map fun n => (n, sg T P n)))
  | [], done, he, h, ns, kt, I, hk => by
    rw [List.append_nil] at he
    subst he
    refine ⟨h, kt, .int N.length, .slc true [], .int 0, true, ?_, by simp, by simp, fun _ => hk⟩
    rw [if_pos rfl]
    rw [lrun_atC loop11_0]
    simp (implicitDefEqProofs := false) (disch := omega) only [go_sem, seval, rgn Tryd.f11 6 rfl]
  | n :: rem, done, he, h, ns, kt, I, hk => by
    have hll : N.length = done.length + (rem.length + 1) := by rw [he]; simp
    have hvl := hNv n (by rw [he]; simp)
    have hZ := I.z
    have hM := I.ms
    have lk := (ms_look hM n).2
    change alookup _ _ _ _ _ _ = some (.int (vmap P n : Nat)) at lk
    unfold SO at hZ
    have hlt : (done.length : Int) < (N.length : Int) := by omega
    have htn : ((done.length : Int)).toNat = done.length := by omega
    have hat : (N.map sV)[done.length]? = some (.val (.string (txt n))) := by rw [he]; simp [sV]
    obtain ⟨H1, ns1, c1, I1, k1⟩ := of_c I hT hTv hkc hN hNv hvl
    by_cases hs : tsz (T (vmap P n)) ≤ 1000
    · rw [if_pos hs, decide_eq_true hs] at c1
      have hk1 : KO H1 kt (done.map fun n => (n, sg T P n)) := hk.kf k1 (by obtain ⟨_, q, _⟩ := I.sp; exact ⟨_, q⟩)
      have b1 : ∀ j o, hget H1 j = o → o ≠ .dead → hget (H1 ++ [AObj.vars (tmV (T (vmap P n))).cells]) j = o := fun j o e h => by rw [hget_app _ (hlt_of e h)]; exact e
      have hk2 : KO (H1 ++ [AObj.vars (tmV (T (vmap P n))).cells]) kt (done.map fun n => (n, sg T P n)) := by
        rcases hk1 with q | ⟨K, g, q1, q2⟩
        · exact .inl q
        · exact .inr ⟨K, g, q1, b1 _ _ q2 (by simp)⟩
      obtain ⟨v, H2, x1, x2, x3, x4⟩ := ko_add hk2 (by rw [List.length_map]; omega) (n, sg T P n)
      have I2 : MS2 H2 B sh P rt r vis w ns1 (.slc nb (N.map sV)) ids := I1.ko (by simp at x3; omega) (fun j o e z1 z2 => x4 j o (b1 j o e z1) z1 z2)
      obtain ⟨H, kt', a23, a2, a3, okk, d1, d2, d3, d4⟩ := sv_loop hT hTv hkc hN hNv rem (done ++ [n]) (by rw [he]; simp) H2 ns1 v I2 (by rw [List.map_append]; exact x2)
      refine ⟨H, kt', a23, a2, a3, okk, ?_, d2, ?_, d4⟩
      · have hlen : (done ++ [n]).length = done.length + 1 := by simp
        rw [hlen] at d1
        rw [← d1]
        unfold sg at x1
        generalize hTi : T (vmap P n) = ti at *
        obtain ⟨q1, q2, q3, q4, q5⟩ := ti
        rw [tmV_mk] at c1 x1
        unfold valV at x1
        dsimp only at x1
        rw [show (AV.agg [.int q1, .str (txt q2), .str (txt q3), .int q4, .slc false (q5.map tmV)]).cells = [.int q1, .str (txt q2), .str (txt q3), .int q4, .slc false (q5.map tmV)] from rfl] at x1
        rw [lrun_atC loop11_0]
        simp (implicitDefEqProofs := false) (disch := first | omega | exact List.length_set) only [go_sem, seval, rgn Tryd.f11 6 rfl, rgn Tryd.f11 7 rfl, rgn Tryd.f11 8 rfl, rgn Tryd.f11 9 rfl, rgn Tryd.f11 11 rfl, rgn Tryd.f11 12 rfl, hlt, htn, hat, hZ, aop_lookup, lk, c1, hget_last, set_last, x1, sV]
        all_goals (congr 1 <;> simp only [List.cons.injEq, AV.val.injEq, Value.int.injEq, Value.bool.injEq, true_and, and_true] <;> omega)
      · rw [d3]
        unfold sg
        simp [hs]
    · rw [if_neg hs, decide_eq_false hs] at c1
      unfold zeroV at c1
      refine ⟨H1 ++ [AObj.vars [.val (.int .i64 0), .val (.string ⟨#[]⟩), .val (.string ⟨#[]⟩), .val (.int .i64 0), .slc true []]], kt, .int done.length, .slc true [], .int 9, false, ?_, fun _ => ⟨rfl, rfl⟩, ?_, by simp⟩
      · simp only [Bool.false_eq_true, if_false]
        rw [lrun_atC loop11_0]
        simp (implicitDefEqProofs := false) (disch := first | omega | exact List.length_set) only [go_sem, seval, rgn Tryd.f11 6 rfl, rgn Tryd.f11 7 rfl, rgn Tryd.f11 8 rfl, rgn Tryd.f11 9 rfl, rgn Tryd.f11 10 rfl, hlt, htn, hat, hZ, aop_lookup, lk, c1, hget_last, set_last]
      · constructor
        · intro h; cases h
        · intro h; exact absurd (h n (by simp)) hs
end
end Go.Proofs.YtncjbccjpneoiaaDoor
namespace Go.Proofs.YtncjbccjpneoiaaDoor
open Go Go.Ab Go.Proofs
set_option maxRecDepth 100000
set_option linter.unusedSimpArgs false
set_option linter.unusedVariables false
open Classical in
noncomputable def fstP (p : List UInt8 → Prop) : List (List UInt8) → List UInt8
  | [] => []
  | n :: r => if p n then n else fstP p r
theorem fstP_congr {p q : List UInt8 → Prop} : ∀ (N : List (List UInt8)), (∀ n ∈ N, (p n ↔ q n)) → fstP p N = fstP q N
  | [], _ => rfl
  | n :: r, h => by
    unfold fstP
    have := h n (by simp)
    by_cases hp : p n
    · rw [if_pos hp, if_pos (this.1 hp)]
    · rw [if_neg hp, if_neg (fun q => hp (this.2 q)), fstP_congr r fun m hm => h m (by simp [hm])]
theorem fstP_spec {p : List UInt8 → Prop} : ∀ (N : List (List UInt8)), (∃ n ∈ N, p n) → fstP p N ∈ N ∧ p (fstP p N)
  | [], ⟨n, h, _⟩ => by cases h
  | n :: r, ⟨m, h1, h2⟩ => by
    unfold fstP
    by_cases hp : p n
    · rw [if_pos hp]; exact ⟨by simp, hp⟩
    · rw [if_neg hp]
      have : ∃ n ∈ r, p n := by
        rcases List.mem_cons.1 h1 with rfl | h1
        · exact absurd h2 hp
        · exact ⟨m, h1, h2⟩
      obtain ⟨a, b⟩ := fstP_spec r this
      exact ⟨by simp [a], b⟩
theorem fstN_fstP (P : SMap) (rt : Nat → Nat) (v : Nat) : ∀ N : List (List UInt8), fstN P rt v N = fstP (fun n => rt (vmap P n) = v) N
  | [] => rfl
  | n :: r => by
    unfold fstN fstP
    rw [fstN_fstP P rt v r]
    by_cases h : rt (vmap P n) = v
    · rw [if_pos h, if_pos h]
    · rw [if_neg h, if_neg h]
structure Sol (l : List (Tm × Tm)) (N : List (List UInt8)) (s : List UInt8 → Tm) : Prop where
  eqs : Eqs s l
  gen : ∀ th, Eqs th l → ∀ n ∈ N, th n = inst th (s n)
  idem : ∀ n ∈ N, ∀ m ∈ tvars (s n), m ∈ N ∧ s m = vTm m
  fst : ∀ n ∈ N, ∀ m, s n = vTm m → m = fstP (fun x => s x = s n) N
mutual
theorem inst_id : ∀ (t : Tm) (th : List UInt8 → Tm), t.ty → (∀ m ∈ tvars t, th m = vTm m) → inst th t = t
  | .mk k p m x l, th, ht, h => by
    rw [Tm.ty] at ht
    rw [tvars] at h
    rw [inst]
    by_cases hk : k = 1
    · rw [if_pos hk] at h ⊢
      rw [h m (by simp)]
      obtain ⟨h1, h2⟩ := ht.1.2.2.2 hk
      rw [hk, h1, h2, ht.1.2.2.1]; rfl
    · rw [if_neg hk] at h ⊢
      rw [insts_id l th ht.2 h, ht.1.2.2.1]
theorem insts_id : ∀ (l : List Tm) (th : List UInt8 → Tm), Tm.tys l → (∀ m ∈ tvarss l, th m = vTm m) → insts th l = l
  | [], th, _, _ => by simp [insts]
  | t :: r, th, ht, h => by
    rw [Tm.tys] at ht
    rw [tvarss] at h
    rw [insts, inst_id t th ht.1 fun m hm => h m (by simp [hm]), insts_id r th ht.2 fun m hm => h m (by simp [hm])]
end
theorem eqs_congr {th th' : List UInt8 → Tm} {l : List (Tm × Tm)} (h : ∀ n ∈ tvarss (flatE l), th n = th' n) (e : Eqs th l) : Eqs th' l := fun p hp => by
  have hm : ∀ t, (t = p.1 ∨ t = p.2) → inst th t = inst th' t := fun t ht => inst_congr t fun n hn => h n (tvarss_mem.2 ⟨t, by
    unfold flatE
    rw [List.mem_flatMap]
    exact ⟨p, hp, by simp; exact ht⟩, hn⟩)
  rw [← hm p.1 (.inl rfl), ← hm p.2 (.inr rfl)]
  exact e p hp
section
variable {l : List (Tm × Tm)} {sh : List Sh} {P : SMap} {N : List (List UInt8)} {rt r : Nat → Nat} {T : Nat → Tm}
theorem dom_l (sd : SD l sh P N) (hty : Tm.tys (flatE l)) : ∀ n, n ∈ N ↔ n ∈ tvarss (flatE l) := fun n => by
  rw [sd.names, vsL_mem _ _ _ hty]; simp
theorem vm_of {sh : List Sh} {P : SMap} {n : List UInt8} {i : Nat} (h : mg P n = some i) : vmap P n = i := by unfold vmap; rw [h]; rfl
instance : Nonempty Tm := ⟨⟨0, [], [], 0, []⟩⟩
theorem ex_con (sd : SD l sh P N) (th : List UInt8 → Tm) : ∃ M, Con sh M ∧ ∀ n ∈ N, M (vmap P n) = th n := by
  obtain ⟨M, h1, h2⟩ := ex_mod sd.ip.ok (fun v => Classical.epsilon fun t => ∃ n, mg P n = some v ∧ t = th n)
  refine ⟨M, h1.2, fun n hn => ?_⟩
  obtain ⟨i, hi⟩ := (sd.dom n).1 hn
  rw [vm_of (sh := sh) hi, h2 i vSh (sd.ip.var n i hi) rfl rfl]
  have := Classical.epsilon_spec (p := fun t => ∃ n, mg P n = some i ∧ t = th n) ⟨th n, n, hi, rfl⟩
  obtain ⟨n', h3, h4⟩ := this
  rw [h4, sd.ip.inj n' n i h3 hi]
theorem no_sol (sd : SD l sh P N) (hty : Tm.tys (flatE l)) (h : ∀ M, Con sh M → ¬ Eqs (fun n => M (vmap P n)) l) : ¬ ∃ th, Eqs th l := by
  rintro ⟨th, he⟩
  obtain ⟨M, h1, h2⟩ := ex_con sd th
  exact h M h1 (eqs_congr (fun n hn => (h2 n ((dom_l sd hty n).2 hn)).symm) he)
theorem sol_of (sd : SD l sh P N) (hty : Tm.tys (flatE l)) (ok : Ok sh rt r) (hb : ∀ M, Mod sh rt M → Con sh M ∧ Eqs (fun n => M (vmap P n)) l) (hg : ∀ M, Con sh M → Eqs (fun n => M (vmap P n)) l → Mod sh rt M) (hT : Mod sh rt T) (hTv : ∀ (v : Nat) (s : Sh), sh[v]? = some s → s.kind = 1 → rt v = v → T v = ⟨1, [], fstN P rt v N, 0, []⟩) : Sol l N (sg T P) := by
  have hvl : ∀ n ∈ N, vmap P n < sh.length ∧ ∃ s : Sh, sh[vmap P n]? = some s ∧ s.kind = 1 := fun n hn => by
    obtain ⟨i, hi⟩ := (sd.dom n).1 hn
    rw [vm_of (sh := sh) hi]
    exact ⟨lt_of_at (sd.ip.var n i hi), vSh, sd.ip.var n i hi, rfl⟩
  have hfs : ∀ (v : Nat) (s : Sh), sh[v]? = some s → s.kind = 1 → rt v = v → fstN P rt v N ∈ N ∧ rt (vmap P (fstN P rt v N)) = v := fun v s h1 h2 h3 => by
    obtain ⟨n, hn⟩ := sd.ip.sur v s h1 h2
    rw [fstN_fstP]
    exact fstP_spec N ⟨n, (sd.dom n).2 ⟨v, hn⟩, by rw [vm_of (sh := sh) hn]; exact h3⟩
  refine ⟨(hb T hT).2, fun th he n hn => ?_, fun n hn => ?_, fun n hn m hm => ?_⟩
  · obtain ⟨M, h1, h2⟩ := ex_con sd th
    have hM := hg M h1 (eqs_congr (fun n hn => (h2 n ((dom_l sd hty n).2 hn)).symm) he)
    have hM' : Mod sh rt (fun i => inst th (T i)) := ⟨fun i hi => congrArg (inst th) (hT.1 i hi), fun i s hi hk => by
      show inst th (T i) = _
      rw [hT.2 i s hi hk, inst_mk, if_neg hk, List.map_map]; rfl⟩
    have key := mod_ext ok hM hM' (fun v s h3 h4 h5 => by
      obtain ⟨f1, f2⟩ := hfs v s h3 h4 h5
      show M v = inst th (T v)
      rw [hTv v s h3 h4 h5, inst_mk, if_pos rfl, ← h2 _ f1, hM.1 _ (hvl _ f1).1, f2]) (r (vmap P n) + 1) (vmap P n) (hvl n hn).1 (by omega)
    rw [← h2 n hn, key]; rfl
  · have key : ∀ (k i : Nat), i < sh.length → r i < k → ∀ m ∈ tvars (T i), m ∈ N ∧ T (vmap P m) = vTm m := fun k => by
      induction k with
      | zero => intro i _ h; omega
      | succ k ih =>
        intro i hi hr m hm
        rw [hT.1 i hi] at hm
        have hle := ok.le i hi
        obtain ⟨s, hs⟩ := at_of_lt (ok.lt i hi)
        by_cases hk : s.kind = 1
        · obtain ⟨f1, f2⟩ := hfs _ s hs hk (ok.idem i hi)
          rw [hTv _ s hs hk (ok.idem i hi), tvars, if_pos rfl, List.mem_singleton] at hm
          subst hm
          refine ⟨f1, ?_⟩
          rw [hT.1 _ (hvl _ f1).1, f2, hTv _ s hs hk (ok.idem i hi)]; rfl
        · rw [hT.2 _ s hs hk, tvars, if_neg hk, tvarss_mem] at hm
          obtain ⟨t, ht, hm⟩ := hm
          obtain ⟨c, hc, rfl⟩ := List.mem_map.1 ht
          obtain ⟨g1, g2⟩ := ok.kid _ s c hs hc
          exact ih c g1 (by omega) m hm
    exact key _ _ (hvl n hn).1 (Nat.lt_succ_self _)
  · have hroot : ∀ x ∈ N, ∀ y, T (vmap P x) = vTm y → ∃ s : Sh, sh[rt (vmap P x)]? = some s ∧ s.kind = 1 ∧ fstN P rt (rt (vmap P x)) N = y := fun x hx y hy => by
      have hxl := (hvl x hx).1
      rw [hT.1 _ hxl] at hy
      obtain ⟨s, hs⟩ := at_of_lt (ok.lt _ hxl)
      by_cases hk : s.kind = 1
      · refine ⟨s, hs, hk, ?_⟩
        rw [hTv _ s hs hk (ok.idem _ hxl)] at hy
        unfold vTm at hy
        simp only [Tm.mk.injEq] at hy
        exact hy.2.2.1
      · rw [hT.2 _ s hs hk] at hy
        unfold vTm at hy
        simp only [Tm.mk.injEq] at hy
        exact absurd hy.1 hk
    obtain ⟨s, h1, h2, h3⟩ := hroot n hn m hm
    rw [← h3, fstN_fstP]
    have hnl := (hvl n hn).1
    refine fstP_congr N fun x hx => ?_
    show rt (vmap P x) = rt (vmap P n) ↔ T (vmap P x) = T (vmap P n)
    constructor
    · intro e
      rw [hT.1 _ (hvl x hx).1, e, ← hT.1 _ hnl]
    · intro e
      obtain ⟨s', k1, k2, k3⟩ := hroot x hx m (e.trans hm)
      obtain ⟨f1, f2⟩ := hfs _ s h1 h2 (ok.idem _ hnl)
      obtain ⟨g1, g2⟩ := hfs _ s' k1 k2 (ok.idem _ (hvl x hx).1)
      rw [h3] at f2
      rw [k3] at g2
      rw [← g2, f2]
end
theorem sol_uniq {l : List (Tm × Tm)} {N : List (List UInt8)} {s s' : List UInt8 → Tm} (hs : Sol l N s) (hs' : Sol l N s') (hN : ∀ n ∈ N, (s n).ty) (hN' : ∀ n ∈ N, (s' n).ty) : ∀ n ∈ N, s n = s' n := by
  have h1 : ∀ n ∈ N, s n = inst s (s' n) := hs'.gen s hs.eqs
  have h2 : ∀ n ∈ N, s' n = inst s' (s n) := hs.gen s' hs'.eqs
  have heq : ∀ a ∈ N, ∀ b ∈ N, (s a = s b ↔ s' a = s' b) := fun a ha b hb => ⟨fun e => by rw [h2 a ha, h2 b hb, e], fun e => by rw [h1 a ha, h1 b hb, e]⟩
  have hvar : ∀ m ∈ N, s m = vTm m → s' m = vTm m := fun m hm e => by
    have e2 := h1 m hm
    rw [e] at e2
    have hty := hN' m hm
    generalize hq : s' m = u at *
    obtain ⟨k, p, q, x, l'⟩ := u
    rw [inst_mk] at e2
    by_cases hk : k = 1
    · rw [Tm.ty] at hty
      obtain ⟨k1, k2⟩ := hty.1.2.2.2 hk
      have hv : s' m = vTm q := by rw [hq, hk, k1, k2, hty.1.2.2.1]; rfl
      have f1 := hs'.fst m hm q hv
      have f2 := hs.fst m hm m e
      have : fstP (fun x => s' x = s' m) N = fstP (fun x => s x = s m) N := fstP_congr N fun a ha => (heq a ha m hm).symm
      rw [this, ← f2] at f1
      rw [hk, k1, k2, hty.1.2.2.1, f1]; rfl
    · rw [if_neg hk] at e2
      unfold vTm at e2
      simp only [Tm.mk.injEq] at e2
      exact absurd e2.1.symm hk
  intro n hn
  rw [h2 n hn]
  exact (inst_id (s n) s' (hN n hn) fun m hm => hvar m (hs.idem n hn m hm).1 (hs.idem n hn m hm).2).symm
end Go.Proofs.YtncjbccjpneoiaaDoor
namespace Go.Proofs.YtncjbccjpneoiaaDoor
open Go Go.Ab Go.Proofs
set_option maxRecDepth 100000
set_option linter.unusedSimpArgs false
set_option linter.unusedVariables false
theorem tys_of {l : List Tm} (h : ∀ t ∈ l, t.ty) : Tm.tys l := by
  induction l with
  | nil => simp [Tm.tys]
  | cons a r ih => rw [Tm.tys]; exact ⟨h a (by simp), ih fun t ht => h t (by simp [ht])⟩
theorem fits_of {l : List Tm} (h : ∀ t ∈ l, t.fit) : Tm.fits l := by
  induction l with
  | nil => simp [Tm.fits]
  | cons a r ih => rw [Tm.fits]; exact ⟨h a (by simp), ih fun t ht => h t (by simp [ht])⟩
theorem kc_at : ∀ (l : List Sh) (j : Nat) (s : Sh), l[j]? = some s → s.kids.length ≤ kc l
  | [], j, s, h => by simp at h
  | a :: r, j, s, h => by
    have e : kc (a :: r) = a.kids.length + kc r := by simp [kc]
    rw [e]
    cases j with
    | zero => simp at h; subst h; omega
    | succ j => have := kc_at r j s (by simpa using h); omega
theorem sol_fit {l : List (Tm × Tm)} {sh : List Sh} {P : SMap} {N : List (List UInt8)} {rt r : Nat → Nat} {T : Nat → Tm} (sd : SD l sh P N) (hty : Tm.tys (flatE l)) (hft : Tm.fits (flatE l)) (hsz : tszs (flatE l) ≤ 40000) (ok : Ok sh rt r) (hT : Mod sh rt T) (hTv : ∀ (v : Nat) (s : Sh), sh[v]? = some s → s.kind = 1 → rt v = v → T v = ⟨1, [], fstN P rt v N, 0, []⟩) : ∀ (k i : Nat), i < sh.length → r i < k → (T i).ty ∧ (T i).fit
  | 0, i, _, h => by omega
  | k + 1, i, hi, h => by
    have hle := ok.le i hi
    obtain ⟨s, hs⟩ := at_of_lt (ok.lt i hi)
    rw [hT.1 i hi]
    by_cases hk : s.kind = 1
    · rw [hTv _ s hs hk (ok.idem i hi)]
      have hm : (fstN P rt (rt i) N).length ≤ 9223372036854775807 := by
        obtain ⟨n, hn⟩ := sd.ip.sur _ s hs hk
        rw [fstN_fstP]
        have := (fstP_spec (p := fun n => rt (vmap P n) = rt i) N ⟨n, (sd.dom n).2 ⟨_, hn⟩, by rw [vm_of (sh := sh) hn]; exact ok.idem i hi⟩).1
        exact tvarss_fit _ hft _ ((dom_l sd hty _).1 this)
      rw [Tm.ty, Tm.fit]
      simp [Tm.tys, Tm.fits, hm]
    · rw [hT.2 _ s hs hk, Tm.ty, Tm.fit]
      obtain ⟨f1, f2, f3, f4⟩ := sd.ip.fit _ s hs
      have hkl := kc_at _ _ _ hs
      have := sd.kc
      have hall : ∀ t ∈ s.kids.map T, t.ty ∧ t.fit := fun t ht => by
        obtain ⟨c, hc, rfl⟩ := List.mem_map.1 ht
        obtain ⟨g1, g2⟩ := ok.kid _ s c hs hc
        exact sol_fit sd hty hft hsz ok hT hTv k c g1 (by omega)
      exact ⟨⟨⟨f3, f4, rfl, fun e => absurd e hk⟩, tys_of fun t ht => (hall t ht).1⟩, f1, f2, by rw [List.length_map]; omega, fits_of fun t ht => (hall t ht).2⟩
theorem exp_val {H : AHeap} {K g : Nat} {es : List AV} (hK : hget H K = .arr 6 es g) (hs : solidL es = true) (c : Value) : exp1 H expDepth (.tup [.arr K 0 es.length g 6, .val c]) = some (.tup [.slc false es, .val c], [K]) := by
  have h1 := arr_exp hK hs 58
  have hb : exp1 H (58 + 1) (.val c) = some (.val c, []) := rfl
  show exp1 H (58 + 1 + 1) _ = _
  rw [exp1]
  simp only [solid, solidL, Bool.false_and, if_false, Bool.false_eq_true, expL, hb, h1, List.nil_append, List.append_nil, Option.map_some]
theorem exp_nil (H : AHeap) (c : Value) : exp1 H expDepth (.tup [.slc true [], .val c]) = some (.tup [.slc false [], .val c], []) := rfl
set_option maxHeartbeats 8000000 in
theorem solveP {l : List (Tm × Tm)} (hty : Tm.tys (flatE l)) (hft : Tm.fits (flatE l)) (hsz : tszs (flatE l) ≤ 40000) (hll : l.length ≤ 1000) :
    ((¬ ∃ th, Eqs th l) ∧ pcall Tryd.prog md fg 11 [.slc false (l.map eqV)] = some (.tup [.slc false [], .int 15])) ∨
    ∃ s, Sol l (vsL [] (flatE l)) s ∧ (∀ n ∈ vsL [] (flatE l), (s n).ty ∧ (s n).fit) ∧ (((∀ n ∈ vsL [] (flatE l), tsz (s n) ≤ 1000) ∧ pcall Tryd.prog md fg 11 [.slc false (l.map eqV)] = some (.tup [.slc false ((vsL [] (flatE l)).map fun n => valV (n, s n)), .int 0])) ∨ ((¬ ∀ n ∈ vsL [] (flatE l), tsz (s n) ≤ 1000) ∧ pcall Tryd.prog md fg 11 [.slc false (l.map eqV)] = some (.tup [.slc false [], .int 9]))) := by
  obtain ⟨H, res, sh, P, N, c1, sd, c3⟩ := solve_c hty hft hsz hll
  cases res with
  | false =>
    simp only [Bool.false_eq_true, if_false] at c3
    refine .inl ⟨no_sol sd hty c3, ?_⟩
    have e : aval Tryd.prog md fg 11 [.slc false (l.map eqV)] [] = some (.tup [.slc true [], .int 15], H) := by
      rw [aval_of Tryd.func11 body11 Tryd.results11 Tryd.ntmps11 ok11]
      simp (implicitDefEqProofs := false) (disch := omega) only [go_sem, seval, rgn Tryd.f11 0 rfl, rgn Tryd.f11 1 rfl, rgn Tryd.f11 2 rfl, rgn Tryd.f11 3 rfl, c1]
    rw [pcall_eq, e]
    unfold pureRes
    dsimp only
    rw [exp_nil]
    rfl
  | true =>
    simp only [if_true] at c3
    obtain ⟨B, rt, r, vis, w, ns, nb, ids, I, hb, hg⟩ := c3
    obtain ⟨T, hT, hTv0⟩ := ex_mod I.ok (fun v => ⟨1, [], fstN P rt v N, 0, []⟩)
    have hTv : ∀ (v : Nat) (s : Sh), sh[v]? = some s → s.kind = 1 → rt v = v → T v = ⟨1, [], fstN P rt v N, 0, []⟩ := fun v s h1 h2 h3 => hTv0 v s h1 h2 h3
    have hsol := sol_of sd hty I.ok hb hg hT hTv
    have hNl : N.length ≤ 40000 := by
      rw [sd.names]
      have := vsL_len (flatE l) []
      simp only [List.length_nil] at this
      omega
    have hNv : ∀ n ∈ N, vmap P n < sh.length := fun n hn => by
      obtain ⟨i, hi⟩ := (sd.dom n).1 hn
      rw [vm_of (sh := sh) hi]; exact lt_of_at (sd.ip.var n i hi)
    have hkc := sd.kc
    obtain ⟨H1, kt', a23, a2, a3, okk, d1, d2, d3, d4⟩ := sv_loop (B := B) (vis := vis) (w := w) (nb := nb) (ids := ids) hT hTv (by omega) (by omega) hNv N [] rfl H ns (.slc true []) I (.inl ⟨rfl, rfl⟩)
    simp only [List.length_nil, Int.natCast_zero] at d1
    have hZ := I.z
    unfold SO at hZ
    have hfit : ∀ n ∈ N, (sg T P n).ty ∧ (sg T P n).fit := fun n hn => sol_fit sd hty hft hsz I.ok hT hTv _ _ (hNv n hn) (Nat.lt_succ_self _)
    rw [← sd.names]
    refine .inr ⟨sg T P, hsol, hfit, ?_⟩
    cases okk with
    | true =>
      left
      refine ⟨d3.1 rfl, ?_⟩
      simp only [if_true] at d1
      have e : aval Tryd.prog md fg 11 [.slc false (l.map eqV)] [] = some (.tup [kt', .int 0], H1) := by
        rw [aval_of Tryd.func11 body11 Tryd.results11 Tryd.ntmps11 ok11]
        simp (implicitDefEqProofs := false) (disch := omega) only [go_sem, seval, rgn Tryd.f11 0 rfl, rgn Tryd.f11 1 rfl, rgn Tryd.f11 2 rfl, rgn Tryd.f11 4 rfl, rgn Tryd.f11 5 rfl, rgn Tryd.f11 13 rfl, c1, hZ, List.length_map, d1]
      rw [pcall_eq, e]
      unfold pureRes
      dsimp only
      rcases d4 rfl with ⟨e1, rfl⟩ | ⟨K, g, rfl, e2⟩
      · rw [exp_nil]
        have : N = [] := by simpa using e1
        subst this
        rfl
      · have := exp_val e2 (solid_val _) (.int .i64 0)
        rw [List.length_map, List.length_map] at this
        rw [List.length_map]
        rw [this]
        dsimp only
        rw [if_pos (by simp [canFrz, e2]), List.map_map]
        rfl
    | false =>
      right
      refine ⟨fun h => by have := d3.2 h; simp at this, ?_⟩
      simp only [Bool.false_eq_true, if_false] at d1
      obtain ⟨rfl, rfl⟩ := d2 rfl
      have e : aval Tryd.prog md fg 11 [.slc false (l.map eqV)] [] = some (.tup [.slc true [], .int 9], H1) := by
        rw [aval_of Tryd.func11 body11 Tryd.results11 Tryd.ntmps11 ok11]
        simp (implicitDefEqProofs := false) (disch := omega) only [go_sem, seval, rgn Tryd.f11 0 rfl, rgn Tryd.f11 1 rfl, rgn Tryd.f11 2 rfl, rgn Tryd.f11 4 rfl, rgn Tryd.f11 5 rfl, c1, hZ, List.length_map, d1]
      rw [pcall_eq, e]
      unfold pureRes
      dsimp only
      rw [exp_nil]
      rfl
mutual
theorem sameT_iff : ∀ a b : Tm, sameT a b = true ↔ a = b
  | ⟨k, p, m, n, l⟩, ⟨k', p', m', n', l'⟩ => by
    rw [sameT]
    simp only [Bool.and_eq_true, beq_iff_eq, decide_eq_true_eq, Tm.mk.injEq]
    constructor
    · rintro ⟨h1, h2, h3, h4, h5, h6⟩
      exact ⟨h1, h2, h3, h4, (sameTs_iff l l' h5).1 h6⟩
    · rintro ⟨h1, h2, h3, h4, h5⟩
      exact ⟨h1, h2, h3, h4, by rw [h5], (sameTs_iff l l' (by rw [h5])).2 h5⟩
theorem sameTs_iff : ∀ a b : List Tm, a.length = b.length → (sameTs a b = true ↔ a = b)
  | [], [], _ => by simp [sameTs]
  | [], _ :: _, h => by simp at h
  | _ :: _, [], h => by simp at h
  | t :: r, u :: s, h => by
    rw [sameTs]
    simp only [Bool.and_eq_true, List.cons.injEq]
    rw [sameT_iff t u, sameTs_iff r s (by simpa using h)]
end
theorem subL_len (L : List Vl) : ∀ a : List Tm, (subL L a).length = a.length := by
  intro a
  induction a with
  | nil => rw [subL]
  | cons x r ih => rw [subL, List.length_cons, List.length_cons, ih]
theorem fv_mem {m : List UInt8} {L : List Vl} {j : Nat} {t : Tm} (h : fv m L 0 = some (j, t)) : (m, t) ∈ L := List.mem_of_getElem? (fv_at m L 0 j t h).2
mutual
theorem sub_fit (L : List Vl) (hL : ∀ v ∈ L, v.2.fit) : ∀ t : Tm, t.fit → (subT L t).fit
  | ⟨k, p, m, n, ks⟩, h => by
    rw [Tm.fit] at h
    have hn : (Tm.mk k p m n (subL L ks)).fit := by rw [Tm.fit]; exact ⟨h.1, h.2.1, by rw [subL_len]; exact h.2.2.1, subs_fit L hL ks h.2.2.2⟩
    rw [subT]
    by_cases hk : k = 1
    · rw [if_pos hk]
      cases hf : fv m L 0 with
      | none => exact hn
      | some q => exact hL _ (fv_mem (t := q.2) (j := q.1) hf)
    · rw [if_neg hk]; exact hn
theorem subs_fit (L : List Vl) (hL : ∀ v ∈ L, v.2.fit) : ∀ l : List Tm, Tm.fits l → Tm.fits (subL L l)
  | [], _ => by rw [subL, Tm.fits]; trivial
  | t :: r, h => by
    rw [Tm.fits] at h
    rw [subL, Tm.fits]
    exact ⟨sub_fit L hL t h.1, subs_fit L hL r h.2⟩
end

theorem valV_mk (s : List UInt8) (k : Int) (p m : List UInt8) (n : Int) (l : List Tm) : valV (s, ⟨k, p, m, n, l⟩) = .agg [.str (txt s), .int k, .str (txt p), .str (txt m), .int n, .slc false (l.map tmV)] := rfl
theorem tsame_c (t u : Tm) (ht : t.fit) (hu : u.fit) (h : AHeap) : doCall md (aval Tryd.prog md fg) 16 [tmV t, tmV u] h = some (.val (.bool (sameT t u)), h) := doCall_pure md16 (solid2 t u) (Q2_all t ht u hu)
theorem no_p (n : Int) : pcall Tryd.prog md fg 14 [.int n] = some (.int n) := by
  have e : aval Tryd.prog md fg 14 [.int n] [] = some (.int n, []) := by
    rw [aval_of Tryd.func14 body14 Tryd.results14 Tryd.ntmps14 ok14]
    simp (implicitDefEqProofs := false) (disch := omega) only [go_sem, seval, rgn Tryd.f14 0 rfl, rgn Tryd.f14 1 rfl]
  rw [pcall_eq, e, pureRes_solid rfl]
theorem no_c (n : Int) (h : AHeap) : doCall md (aval Tryd.prog md fg) 14 [.int n] h = some (.int n, h) := doCall_pure md14 rfl (no_p n)
mutual
theorem sub_inst (L : List Vl) (s : List UInt8 → Tm) : ∀ t : Tm, t.ty → (∀ n ∈ tvars t, ∃ j, fv n L 0 = some (j, s n)) → subT L t = inst s t
  | ⟨k, p, m, n, ks⟩, ht, hv => by
    rw [Tm.ty] at ht
    rw [tvars] at hv
    rw [subT, inst]
    by_cases hk : k = 1
    · rw [if_pos hk, if_pos hk]
      rw [if_pos hk] at hv
      obtain ⟨j, hj⟩ := hv m (by simp)
      rw [hj]
    · rw [if_neg hk, if_neg hk]
      rw [if_neg hk] at hv
      rw [subs_inst L s ks ht.2 hv, ht.1.2.2.1]
theorem subs_inst (L : List Vl) (s : List UInt8 → Tm) : ∀ l : List Tm, Tm.tys l → (∀ n ∈ tvarss l, ∃ j, fv n L 0 = some (j, s n)) → subL L l = insts s l
  | [], _, _ => by rw [subL, insts]
  | t :: r, ht, hv => by
    rw [Tm.tys] at ht
    rw [subL, insts, sub_inst L s t ht.1 fun n hn => hv n (by rw [tvarss]; simp [hn]), subs_inst L s r ht.2 fun n hn => hv n (by rw [tvarss]; simp [hn])]
end
theorem fv_map (s : List UInt8 → Tm) (n : List UInt8) : ∀ (N : List (List UInt8)) (i : Nat), n ∈ N → ∃ j, fv n (N.map fun x => (x, s x)) i = some (j, s n)
  | [], i, h => by cases h
  | a :: r, i, h => by
    rw [List.map_cons]
    unfold fv
    by_cases ha : a = n
    · exact ⟨i, by rw [if_pos ha, ha]⟩
    · rw [if_neg ha]
      rcases List.mem_cons.1 h with h | h
      · exact absurd h.symm ha
      · exact fv_map s n r (i + 1) h
theorem u_loop (L : List Vl) (hL : L.length ≤ 100000) (hf : ∀ v ∈ L, v.2.fit) : ∀ (r : List Vl) (i : Nat) (a4 : AV), L.drop i = r → i ≤ L.length → ∃ a' : AV,
    lrun Tryd.prog md fg (fg 13) (loopOf Tryd.f13 0) (fg 13 1) (((.slc false (L.map valV)) :: (.slc false (L.map valV)) :: .unk :: .unk :: (a4) :: (.int i) :: .unk :: .unk :: .unk :: .unk :: .unk :: .unk :: .unk :: .unk :: .unk :: .unk :: .unk :: .unk :: .unk :: .unk :: .unk :: .unk :: .unk :: .unk :: .unk :: .unk :: .unk :: .unk :: .unk :: .unk :: .unk :: .unk :: .unk :: .unk :: .unk :: .unk :: .unk :: .unk :: .unk :: .unk :: .unk :: .unk :: [] : List AV)) [] = some (.exit 0, ((.slc false (L.map valV)) :: (.slc false (L.map valV)) :: .unk :: .unk :: (a') :: (.int L.length) :: .unk :: .unk :: .unk :: .unk :: .unk :: .unk :: .unk :: .unk :: .unk :: .unk :: .unk :: .unk :: .unk :: .unk :: .unk :: .unk :: .unk :: .unk :: .unk :: .unk :: .unk :: .unk :: .unk :: .unk :: .unk :: .unk :: .unk :: .unk :: .unk :: .unk :: .unk :: .unk :: .unk :: .unk :: .unk :: .unk :: [] : List AV), [])
  | [], i, a4, hdr, hi => by
    have : i = L.length := by have := congrArg List.length hdr; simp at this; omega
    subst this
    refine ⟨a4, ?_⟩
    rw [lrun_atC loop13_0]
    simp (implicitDefEqProofs := false) (disch := omega) only [go_sem, seval, rgn Tryd.f13 4 rfl, List.length_map]
  | ⟨s, k2, p2, m2, n2, l2⟩ :: r, i, a4, hdr, hi => by
    have hx : L[i]? = some (s, ⟨k2, p2, m2, n2, l2⟩) := by have := congrArg (·[0]?) hdr; simpa using this
    have hlt : i < L.length := (List.getElem?_eq_some_iff.1 hx).1
    have hd' : L.drop (i + 1) = r := by rw [← List.tail_drop, hdr]; rfl
    have ht : ((i : Int)).toNat = i := by omega
    have hft := hf _ (List.mem_of_getElem? hx)
    have cs := tsame_c ⟨k2, p2, m2, n2, l2⟩ ⟨k2, p2, m2, n2, l2⟩ hft hft
    rw [(sameT_iff _ _).2 rfl, tmV_mk] at cs
    obtain ⟨a', e⟩ := u_loop L hL hf r (i + 1) a4 hd' (by omega)
    refine ⟨a', ?_⟩
    rw [← e]
    rw [lrun_atC loop13_0]
    simp (implicitDefEqProofs := false) (disch := omega) only [go_sem, seval, rgn Tryd.f13 4 rfl, rgn Tryd.f13 6 rfl, rgn Tryd.f13 5 rfl, ↓tail_nil, ↓subs_nil_all, ↓List.forall_mem_cons, ↓all_nil, List.length_map, List.getElem?_map, ht, hx, Option.map_some, valV_mk, cs]
    all_goals (congr 1 <;> simp only [List.cons.injEq, AV.val.injEq, Value.int.injEq, Value.bool.injEq, true_and, and_true] <;> omega)
theorem usame_c (L : List Vl) (hL : L.length ≤ 100000) (hf : ∀ v ∈ L, v.2.fit) (h : AHeap) : doCall md (aval Tryd.prog md fg) 13 [.slc false (L.map valV), .slc false (L.map valV)] h = some (.val (.bool true), h) := by
  refine doCall_pure md13 (by simp only [solidL, solid, solid_val, Bool.not_false, Bool.and_true]) ?_
  have e : ∃ h, aval Tryd.prog md fg 13 [.slc false (L.map valV), .slc false (L.map valV)] [] = some (.val (.bool true), h) := by
    obtain ⟨a', e⟩ := u_loop L hL hf L 0 (.val (.bool false)) (by simp) (by omega)
    simp only [Int.natCast_zero] at e
    rw [aval_of Tryd.func13 body13 Tryd.results13 Tryd.ntmps13 ok13]
    simp (implicitDefEqProofs := false) (disch := omega) only [go_sem, seval, rgn Tryd.f13 0 rfl, rgn Tryd.f13 1 rfl, rgn Tryd.f13 3 rfl, rgn Tryd.f13 8 rfl, List.length_map, e]
    exact ⟨_, rfl⟩
  obtain ⟨h, e⟩ := e
  rw [pcall_eq, e, pureRes_solid rfl]
end Go.Proofs.YtncjbccjpneoiaaDoor
namespace Go.Proofs.YtncjbccjpneoiaaDoor
open Go Go.Ab Go.Proofs Go.RowKit Go.ChangeShapes Go.WideShapes
set_option maxRecDepth 100000
theorem und22 : Tryd.prog.underlying 22 = some (.slice 43) := by kernel_rfl
theorem own : ownKnob Tryd.prog.godebug = none := by kernel_rfl
theorem laidOut : laidOutB Tryd.prog = true := by kernel_rfl
theorem mixed : Tryd.prog.follows .mixedOrders = true := by kernel_rfl
theorem und3 : Tryd.prog.underlying 3 = some (.int .i64) := by kernel_rfl
theorem und9 : Tryd.prog.underlying 9 = some .string := by kernel_rfl
theorem und34 : Tryd.prog.underlying 34 = some (.slice 36) := by kernel_rfl
theorem WT_str {n : Nat} {a : AV} (h : WT Tryd.prog n 9 a) : ∃ s : ByteArray, a = .val (.string s) ∧ s.size ≤ maxLen := by
  cases n with
  | zero => exact h.elim
  | succ n => unfold WT at h; rw [und9] at h; exact h
theorem WT_i64 {n t : Nat} {a : AV} (ht : Tryd.prog.underlying t = some (.int .i64)) (h : WT Tryd.prog n t a) : ∃ x, a = .int x ∧ -9223372036854775808 ≤ x ∧ x ≤ 9223372036854775807 := by
  cases n with
  | zero => exact h.elim
  | succ n =>
    unfold WT at h; rw [ht] at h
    obtain ⟨x, rfl, hw⟩ := h
    have hw' : (decide (-9223372036854775808 ≤ x) && decide (x ≤ 9223372036854775807)) = true := hw
    simp only [Bool.and_eq_true, decide_eq_true_eq] at hw'
    exact ⟨x, rfl, hw'⟩
theorem allF {fs : List Field} {p : Field → Prop} (h : ∀ f ∈ fs.toArray, p f) : ∀ f ∈ fs, p f := fun f hf => h f (List.mem_toArray.2 hf)
mutual
def Tm.num : Tm → Prop | .mk k _ _ n l => (-9223372036854775808 ≤ k ∧ k ≤ 9223372036854775807) ∧ (-9223372036854775808 ≤ n ∧ n ≤ 9223372036854775807) ∧ Tm.nums l
def Tm.nums : List Tm → Prop | [] => True | t :: r => t.num ∧ Tm.nums r
end
theorem fits_of2 : ∀ {l : List Tm}, (∀ t ∈ l, t.fit ∧ t.num) → Tm.fits l ∧ Tm.nums l
  | [], _ => by rw [Tm.fits, Tm.nums]; exact ⟨trivial, trivial⟩
  | t :: r, h => by
    have h1 := h t (List.mem_cons_self ..)
    have h2 := fits_of2 fun u hu => h u (List.mem_cons_of_mem _ hu)
    rw [Tm.fits, Tm.nums]; exact ⟨⟨h1.1, h2.1⟩, ⟨h1.2, h2.2⟩⟩
theorem WT_tm : ∀ (n : Nat) {a : AV}, WT Tryd.prog n 36 a → ∃ t : Tm, a = tmV t ∧ t.fit ∧ t.num
  | 0, a, h => h.elim
  | 1, a, h => by
    unfold WT at h
    rw [Tryd.underlying36] at h
    obtain ⟨cs, rfl, hl, hf⟩ := h
    have hf := allF hf
    simp only [List.forall_mem_cons] at hf
    exact hf.1.elim
  | n + 2, a, h => by
    have ih := fun {a : AV} (h : WT Tryd.prog n 36 a) => WT_tm n h
    unfold WT at h
    rw [Tryd.underlying36] at h
    obtain ⟨cs, rfl, hl, hf⟩ := h
    have hl : cs.length = 5 := hl
    match cs, hl with
    | [a0, a1, a2, a3, a4], _ =>
      have hf := allF hf
      simp only [List.forall_mem_cons] at hf
      obtain ⟨f0, f1, f2, f3, f4, _⟩ := hf
      obtain ⟨k, e0, hk⟩ := WT_i64 und3 (show WT Tryd.prog (n + 1) 3 a0 from f0)
      obtain ⟨s, e1, h1⟩ := WT_str (show WT Tryd.prog (n + 1) 9 a1 from f1)
      obtain ⟨t, e2, h2⟩ := WT_str (show WT Tryd.prog (n + 1) 9 a2 from f2)
      obtain ⟨m, e3, hm⟩ := WT_i64 und3 (show WT Tryd.prog (n + 1) 3 a3 from f3)
      have g4 : WT Tryd.prog (n + 1) 34 a4 := f4
      unfold WT at g4
      rw [und34] at g4
      obtain ⟨es, e4, hlen, he⟩ := g4
      subst e0; subst e1; subst e2; subst e3; subst e4
      have key : ∀ es : List AV, (∀ x ∈ es, WT Tryd.prog n 36 x) → ∃ l : List Tm, es = l.map tmV ∧ ∀ t ∈ l, t.fit ∧ t.num := by
        intro es
        induction es with
        | nil => intro _; exact ⟨[], rfl, by simp⟩
        | cons e r ihr =>
          intro h
          obtain ⟨l, e1, e2⟩ := ihr fun y hy => h y (List.mem_cons_of_mem _ hy)
          obtain ⟨t, et, ft⟩ := ih (h e (List.mem_cons_self ..))
          refine ⟨t :: l, by rw [e1, et]; rfl, ?_⟩
          intro u hu
          rcases List.mem_cons.1 hu with hu | hu
          · rw [hu]; exact ft
          · exact e2 u hu
      obtain ⟨l, el, fl⟩ := key es he
      obtain ⟨S, rfl⟩ := txt_of s
      obtain ⟨T, rfl⟩ := txt_of t
      have := txt_size S
      have := txt_size T
      unfold maxLen at h1 h2 hlen
      refine ⟨⟨k, S, T, m, l⟩, by rw [tmV_mk, ← el], ?_, ?_⟩
      · rw [Tm.fit]
        refine ⟨by omega, by omega, ?_, (fits_of2 fl).1⟩
        have := congrArg List.length el
        rw [List.length_map] at this
        omega
      · rw [Tm.num]; exact ⟨hk, hm, (fits_of2 fl).2⟩
theorem WT_eq : ∀ (n : Nat) {a : AV}, WT Tryd.prog n 43 a → ∃ p : Tm × Tm, a = eqV p ∧ p.1.fit ∧ p.2.fit
  | 0, a, h => h.elim
  | n + 1, a, h => by
    unfold WT at h
    rw [Tryd.underlying43] at h
    obtain ⟨cs, rfl, hl, hf⟩ := h
    have hl : cs.length = 10 := hl
    match cs, hl with
    | [a0, a1, a2, a3, a4, a5, a6, a7, a8, a9], _ =>
      have hf := allF hf
      simp only [List.forall_mem_cons] at hf
      obtain ⟨f0, f1, _⟩ := hf
      obtain ⟨t, e0, h0, _⟩ := WT_tm _ (show WT Tryd.prog n 36 (.agg [a0, a1, a2, a3, a4]) from f0)
      obtain ⟨u, e1, h1, _⟩ := WT_tm _ (show WT Tryd.prog n 36 (.agg [a5, a6, a7, a8, a9]) from f1)
      obtain ⟨k, p, m, q, ks⟩ := t
      obtain ⟨k', p', m', q', ks'⟩ := u
      rw [tmV_mk] at e0 e1
      simp only [AV.agg.injEq, List.cons.injEq, and_true] at e0 e1
      obtain ⟨rfl, rfl, rfl, rfl, rfl⟩ := e0
      obtain ⟨rfl, rfl, rfl, rfl, rfl⟩ := e1
      exact ⟨(⟨k, p, m, q, ks⟩, ⟨k', p', m', q', ks'⟩), rfl, h0, h1⟩
theorem WT_eqs {n : Nat} {a : AV} (h : WT Tryd.prog n 22 a) : ∃ l : List (Tm × Tm), a = .slc false (l.map eqV) ∧ l.length ≤ 9223372036854775807 ∧ Tm.fits (flatE l) := by
  cases n with
  | zero => exact h.elim
  | succ n =>
    unfold WT at h
    rw [und22] at h
    obtain ⟨es, rfl, hlen, he⟩ := h
    have key : ∀ es : List AV, (∀ x ∈ es, WT Tryd.prog n 43 x) → ∃ l : List (Tm × Tm), es = l.map eqV ∧ Tm.fits (flatE l) := by
      intro es
      induction es with
      | nil => intro _; exact ⟨[], rfl, by simp [flatE, Tm.fits]⟩
      | cons e r ihr =>
        intro h
        obtain ⟨l, e1, e2⟩ := ihr fun y hy => h y (List.mem_cons_of_mem _ hy)
        obtain ⟨t, et, f1, f2⟩ := WT_eq n (h e (List.mem_cons_self ..))
        refine ⟨t :: l, by rw [e1, et]; rfl, ?_⟩
        rw [show flatE (t :: l) = t.1 :: t.2 :: flatE l from rfl, Tm.fits, Tm.fits]
        exact ⟨f1, f2, e2⟩
    obtain ⟨l, el, hl⟩ := key es he
    have := congrArg List.length el
    rw [List.length_map] at this
    unfold maxLen at hlen
    exact ⟨l, by rw [el], by omega, hl⟩
end Go.Proofs.YtncjbccjpneoiaaDoor
namespace Go.Proofs.YtncjbccjpneoiaaDoor
open Go Go.Ab Go.Proofs
set_option maxRecDepth 100000
set_option linter.unusedSimpArgs false
set_option linter.unusedVariables false
mutual
theorem inst_sz (s : List UInt8 → Tm) : ∀ t : Tm, t.ty → tsz t ≤ tsz (inst s t)
  | .mk k p m x l, h => by
    rw [Tm.ty] at h
    rw [inst]
    by_cases hk : k = 1
    · rw [if_pos hk]
      obtain ⟨h1, _⟩ := h.1.2.2.2 hk
      rw [h1, tsz, tszs]
      have := tsz_pos (s m); omega
    · rw [if_neg hk, tsz, tsz]
      have := insts_sz s l h.2; omega
theorem insts_sz (s : List UInt8 → Tm) : ∀ l : List Tm, Tm.tys l → tszs l ≤ tszs (insts s l)
  | [], _ => by simp [tszs]
  | t :: r, h => by
    rw [Tm.tys] at h
    rw [insts, tszs, tszs]
    have := inst_sz s t h.1
    have := insts_sz s r h.2
    omega
end
theorem turned_sz {l m : List (Tm × Tm)} {N N' : List (List UInt8)} {s s' : List UInt8 → Tm} (h1 : Sol l N s) (h2 : Sol m N' s') (hE : ∀ th, Eqs th l ↔ Eqs th m) (hN : ∀ n, n ∈ N ↔ n ∈ N') (hf : ∀ n ∈ N, (s n).ty) (hf' : ∀ n ∈ N', (s' n).ty) : (∀ n ∈ N, tsz (s n) ≤ 1000) ↔ ∀ n ∈ N', tsz (s' n) ≤ 1000 := by
  have e1 : ∀ n ∈ N, tsz (s n) = tsz (s' n) := fun n hn => by
    have a := h2.gen s ((hE s).1 h1.eqs) n ((hN n).1 hn)
    have b := h1.gen s' ((hE s').2 h2.eqs) n hn
    have c := inst_sz s (s' n) (hf' n ((hN n).1 hn))
    have d := inst_sz s' (s n) (hf n hn)
    rw [← a] at c
    rw [← b] at d
    omega
  constructor
  · intro h n hn
    rw [← e1 n ((hN n).2 hn)]; exact h n ((hN n).2 hn)
  · intro h n hn
    rw [e1 n hn]; exact h n ((hN n).1 hn)
def swp (sides : Bool) (p : Tm × Tm) : Tm × Tm := if sides then (p.2, p.1) else p
def trn (l : List (Tm × Tm)) (k : Nat) (sides : Bool) : List (Tm × Tm) := (l.drop k ++ l.take k).map (swp sides)
theorem trn_mem {l : List (Tm × Tm)} {k : Nat} {sides : Bool} {q : Tm × Tm} : q ∈ trn l k sides ↔ ∃ p ∈ l, q = swp sides p := by
  unfold trn
  rw [List.mem_map]
  constructor
  · rintro ⟨p, hp, rfl⟩
    refine ⟨p, ?_, rfl⟩
    rcases List.mem_append.1 hp with hp | hp
    · exact List.mem_of_mem_drop hp
    · exact List.mem_of_mem_take hp
  · rintro ⟨p, hp, rfl⟩
    refine ⟨p, ?_, rfl⟩
    rw [← List.take_append_drop k l] at hp
    rw [List.mem_append] at hp ⊢
    exact hp.symm
theorem trn_eqs (l : List (Tm × Tm)) (k : Nat) (sides : Bool) (th : List UInt8 → Tm) : Eqs th l ↔ Eqs th (trn l k sides) := by
  constructor
  · intro h q hq
    obtain ⟨p, hp, rfl⟩ := trn_mem.1 hq
    have := h p hp
    unfold swp
    split
    · exact this.symm
    · exact this
  · intro h p hp
    have := h (swp sides p) (trn_mem.2 ⟨p, hp, rfl⟩)
    unfold swp at this
    split at this
    · exact this.symm
    · exact this
theorem flat_mem {l : List (Tm × Tm)} {t : Tm} : t ∈ flatE l ↔ ∃ p ∈ l, t = p.1 ∨ t = p.2 := by
  unfold flatE
  rw [List.mem_flatMap]
  constructor
  · rintro ⟨p, hp, h⟩; exact ⟨p, hp, by simpa using h⟩
  · rintro ⟨p, hp, h⟩; exact ⟨p, hp, by simpa using h⟩
theorem trn_flat {l : List (Tm × Tm)} {k : Nat} {sides : Bool} {t : Tm} : t ∈ flatE (trn l k sides) ↔ t ∈ flatE l := by
  rw [flat_mem, flat_mem]
  constructor
  · rintro ⟨q, hq, h⟩
    obtain ⟨p, hp, rfl⟩ := trn_mem.1 hq
    refine ⟨p, hp, ?_⟩
    unfold swp at h
    split at h
    · exact h.symm
    · exact h
  · rintro ⟨p, hp, h⟩
    refine ⟨swp sides p, trn_mem.2 ⟨p, hp, rfl⟩, ?_⟩
    unfold swp
    split
    · exact h.symm
    · exact h
theorem flat_swp (sides : Bool) : ∀ l : List (Tm × Tm), tszs (flatE (l.map (swp sides))) = tszs (flatE l)
  | [] => rfl
  | p :: r => by
    rw [List.map_cons, show flatE (swp sides p :: r.map (swp sides)) = [(swp sides p).1, (swp sides p).2] ++ flatE (r.map (swp sides)) from rfl, show flatE (p :: r) = [p.1, p.2] ++ flatE r from rfl, tszs_append, tszs_append, flat_swp sides r]
    congr 1
    unfold swp
    split <;> simp [tszs] <;> omega
theorem trn_sz (l : List (Tm × Tm)) (k : Nat) (sides : Bool) : tszs (flatE (trn l k sides)) = tszs (flatE l) := by
  unfold trn
  rw [flat_swp, flatE_app, tszs_append]
  have : flatE l = flatE (l.take k) ++ flatE (l.drop k) := by rw [← flatE_app, List.take_append_drop]
  rw [this, tszs_append]; omega
end Go.Proofs.YtncjbccjpneoiaaDoor
