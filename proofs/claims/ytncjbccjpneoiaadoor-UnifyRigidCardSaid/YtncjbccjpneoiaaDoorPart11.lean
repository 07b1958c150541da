/- Parts of the proof, each with its own heading: become. Unify, of roots. Unify as a whole. The five unifications of the law. The law's loop over a store with a budget. Chapter 13: alive. UnifyRigid: what the law's function answers. What the laws of touchstonelaw13 share: closed facts of the program. -/
import Derived.Test.YtncjbccjpneoiaaDoorPart10
import Derived.Test.YtncjbccjpneoiaaDoorRows
set_option linter.unusedSimpArgs false
set_option linter.unusedVariables false
namespace Go.Proofs.YtncjbccjpneoiaaDoor
open Go Go.Ab Go.Proofs
set_option maxRecDepth 100000
set_option linter.unusedSimpArgs false
set_option linter.unusedVariables false
theorem WK.mono {Q Q' : AV → List Int → Prop} (hQ : ∀ v kl, Q v kl → Q' v kl) {F : Nat → Nd → Bool} {G : Nat → Nd → Nd} {w : Int} {ns ns' : List Nd} {st : List Int} {r : Bool} (x : WK Q F G w ns st r ns') : WK Q' F G w ns st r ns' := by
  induction x with
  | done => exact .done
  | no q1 q2 q3 q4 q5 => exact .no q1 q2 q3 q4 q5
  | yes q1 q2 q3 q4 q5 q6 q7 _ ih => exact .yes q1 q2 q3 q4 q5 q6 (hQ _ _ q7) ih
def KY (h : AHeap) (S : Nat) (v : AV) (kl : List Int) : Prop := (v = .slc true [] ∧ kl = []) ∨ ∃ K g, v = .arr K 0 kl.length g 1 ∧ hget h K = .arr 1 (kl.map AV.int) g ∧ K ≠ S
theorem KY.kf {h H : AHeap} {S : Nat} (k : Kf S h H) {v : AV} {kl : List Int} (x : KY h S v kl) : KY H S v kl := by
  rcases x with x | ⟨K, g, e1, e2, e3⟩
  · exact .inl x
  · exact .inr ⟨K, g, e1, k.2 K _ e2 (by simp) e3 (by simp), e3⟩
theorem KY.kx {h : AHeap} {S : Nat} {v : AV} {kl : List Int} (x : KY h S v kl) : KX h S h.length v kl := by
  rcases x with x | ⟨K, g, e1, e2, e3⟩
  · exact .inl x
  · exact .inr ⟨K, g, e1, e2, e3, by have := hlt_of e2 (by simp); omega⟩
theorem set_same {ns : List Nd} {i : Nat} {n : Nd} (h : ns[i]? = some n) : ns.set i n = ns := by
  apply List.ext_getElem?
  intro j
  by_cases hij : i = j
  · subst hij; rw [List.getElem?_set_self (List.getElem?_eq_some_iff.1 h).1, h]
  · rw [List.getElem?_set_ne hij]
theorem bx_get0 {h : AHeap} (a b c : AObj) : hget (h ++ [a, b, c]) h.length = a := sb_get0 a _ rfl
theorem bx_get1 {h : AHeap} (a b c : AObj) : hget (h ++ [a, b, c]) (h.length + 1) = b := sb_get1 a b _ rfl
theorem bx_get2 {h : AHeap} (a b c : AObj) : hget (h ++ [a, b, c]) (h.length + 2) = c := sb_get2 a b c _ rfl
theorem bx_set2 {h : AHeap} (a b c d : AObj) : (h ++ [a, b, c]).set (h.length + 2) d = h ++ [a, b, d] := sb_set2 a b c d _ rfl
theorem walk_may {h : AHeap} {S q r s : Nat} {ns ns' : List Nd} {b : Int} {f : Bool} {w v L : Int} (hs : SP h S ns b f w) (hwl : 0 ≤ w ∧ w ≤ 1000000000) (hq : hget h q = .vars [.ptr S 0]) (hr : hget h r = .vars [.int v]) (hl : hget h s = .vars [.int L]) (hqS : q ≠ S ∧ r ≠ S ∧ s ≠ S) {res : Bool} (i : Int)
    (hw : WK (KY h S) (mayIn v L ·) (fun _ n => n) (w + 1) ns [i] res ns') :
    ∃ H, doCall md (aval Tryd.prog md fg) 65 [.ptr S 0, .int i, .clo 66 [] [.ptr q 0, .ptr r 0, .ptr s 0]] h = some (.val (.bool res), H) ∧ SP H S ns' b f (w + 1) ∧ Kf S h H := by
  refine walk_c hs hwl 66 _ rfl (mayIn v L ·) (fun _ n => n) (fun _ _ => rfl) (fun h1 ns1 j n k1 s1 hx => ⟨h1, ?_, ?_, Kf.refl _ _⟩) i (hw.mono fun _ _ x => x.kx)
  · have lq := hlt_of hq (by simp)
    have lr := hlt_of hr (by simp)
    have ls := hlt_of hl (by simp)
    exact may_c s1 (k1.2 q _ hq (by simp) hqS.1 (by omega) (by simp)) (k1.2 r _ hr (by simp) hqS.2.1 (by omega) (by simp)) (k1.2 s _ hl (by simp) hqS.2.2 (by omega) (by simp)) hx
  · rw [set_same hx, ite_self]; exact s1
theorem walk_low {h : AHeap} {S q s : Nat} {ns ns' : List Nd} {b : Int} {f : Bool} {w L : Int} (hs : SP h S ns b f w) (hwl : 0 ≤ w ∧ w ≤ 1000000000) (hq : hget h q = .vars [.ptr S 0]) (hl : hget h s = .vars [.int L]) (hqS : q ≠ S ∧ s ≠ S) {res : Bool} (i : Int)
    (hw : WK (KY h S) (fun _ _ => true) (fun _ => lowN L) (w + 1) ns [i] res ns') :
    ∃ H, doCall md (aval Tryd.prog md fg) 65 [.ptr S 0, .int i, .clo 67 [] [.ptr q 0, .ptr s 0]] h = some (.val (.bool res), H) ∧ SP H S ns' b f (w + 1) ∧ Kf S h H := by
  refine walk_c hs hwl 67 _ rfl (fun _ _ => true) (fun _ => lowN L) (fun _ n => by unfold lowN; split <;> rfl) (fun h1 ns1 j n k1 s1 hx => ?_) i (hw.mono fun _ _ x => x.kx)
  have lq := hlt_of hq (by simp)
  have ls := hlt_of hl (by simp)
  obtain ⟨H, c1, c2, c3⟩ := low_c s1 (k1.2 q _ hq (by simp) hqS.1 (by omega) (by simp)) (k1.2 s _ hl (by simp) hqS.2 (by omega) (by simp)) hx
  exact ⟨H, c1, by rw [if_pos rfl]; exact c2, c3⟩
set_option maxHeartbeats 8000000 in
theorem become_no {h : AHeap} {S v : Nat} {ns ns' : List Nd} {b : Int} {f : Bool} {w : Int} (hs : SP h S ns b f w) (hwl : 0 ≤ w ∧ w ≤ 1000000000) {nv : Nd} (hv : ns[v]? = some nv) (q : Int)
    (hw : WK (KY h S) (mayIn v nv.level ·) (fun _ n => n) (w + 1) ns [q] false ns') :
    ∃ H, doCall md (aval Tryd.prog md fg) 47 [.ptr S 0, .int v, .int q] h = some (.val (.bool false), H) ∧ SP H S ns' b f (w + 1) ∧ Kf S h H := by
  have hs0 := hs
  have hkf := kf_app S h [.vars [.ptr S 0], .vars [.int (v : Int)], .vars [.int nv.level]]
  have hS : S < h.length := by obtain ⟨_, h1, _⟩ := hs; exact hlt_of h1 (by simp)
  obtain ⟨H1, c1, c2, c3⟩ := walk_may (sp_app hs [.vars [.ptr S 0], .vars [.int (v : Int)], .vars [.int nv.level]]) hwl (bx_get0 _ _ _) (bx_get1 _ _ _) (bx_get2 _ _ _) (by omega) q (hw.mono fun _ _ x => x.kf hkf)
  obtain ⟨A, g, h1, h2⟩ := sp_arr hs (ne_of_at hv)
  have hA := hlt_of h2 (by simp)
  have hlt := (List.getElem?_eq_some_iff.1 hv).1
  have ht : ((v : Int)).toNat = v := by omega
  obtain ⟨k, p, m, ks, l, t, mk⟩ := nv
  dsimp only at c1 c2 c3 hkf
  have g1 : hget (h ++ [.vars [.ptr S 0]] ++ [.vars [.int (v : Int)]]) h.length = .vars [.ptr S 0] := by rw [List.append_assoc]; exact sb_get0 _ _ rfl
  refine doCall_sp md47 ?_ hs0 c2 (hkf.trans c3)
  rw [aval_of Tryd.func47 body47 Tryd.results47 Tryd.ntmps47 ok47]
  simp (implicitDefEqProofs := false) (disch := omega) only [go_sem, Nat.reduceAdd, Nat.reduceSub, Nat.reduceMul, Nat.reduceLT, Nat.reduceLeDiff, Nat.reduceEqDiff, List.drop_zero, List.take_succ_cons, List.take_zero, List.drop_succ_cons, Bool.and_true, Bool.true_and, Bool.and_false, Bool.false_and, BitVec.reduceOfInt, Nat.zero_add, Nat.mul_one, Nat.add_zero, Int.zero_add, Int.reduceToNat, Nat.reducePow, ↓reduceIte, reduceCtorEq, Int.reduceLE, Int.reduceLT, Int.reduceEq, Int.reduceNe, Int.reduceAdd, Int.reduceSub, Int.reduceMul, Int.reduceNeg, Nat.reduceBEq, show regOf Tryd.f47 0 = Code.region _ _ _ from rfl, show regOf Tryd.f47 1 = Code.region _ _ _ from rfl, show regOf Tryd.f47 2 = Code.region _ _ _ from rfl, show regOf Tryd.f47 3 = Code.region _ _ _ from rfl, show regOf Tryd.f47 4 = Code.region _ _ _ from rfl, c1, List.append_assoc, List.cons_append, List.nil_append, bx_get0, bx_get1, bx_get2, hget_app, h1, h2, ht, List.getElem?_map, hv, Option.map_some, ndV_mk, bx_set2, thenDraw_store, List.length_append, List.length_cons, List.length_nil]
set_option maxHeartbeats 8000000 in
theorem become_yes {h : AHeap} {S v : Nat} {ns ns' ns'' : List Nd} {b : Int} {f : Bool} {w : Int} (hs : SP h S ns b f w) (hwl : 0 ≤ w ∧ w ≤ 900000000) {nv : Nd} (hv : ns[v]? = some nv) (q : Int)
    (hw : WK (KY h S) (mayIn v nv.level ·) (fun _ n => n) (w + 1) ns [q] true ns')
    (hw2 : WK (KY h S) (fun _ _ => true) (fun _ => lowN nv.level) (w + 2) ns' [q] true ns'') {n2 : Nd} (hv2 : ns''[v]? = some n2) :
    ∃ H, doCall md (aval Tryd.prog md fg) 47 [.ptr S 0, .int v, .int q] h = some (.val (.bool true), H) ∧ SP H S (ns''.set v { n2 with to := q }) b f (w + 2) ∧ Kf S h H := by
  have hs0 := hs
  have hkf := kf_app S h [.vars [.ptr S 0], .vars [.int (v : Int)], .vars [.int nv.level]]
  have hS : S < h.length := by obtain ⟨_, h1, _⟩ := hs; exact hlt_of h1 (by simp)
  obtain ⟨H1, c1, c2, c3⟩ := walk_may (sp_app hs [.vars [.ptr S 0], .vars [.int (v : Int)], .vars [.int nv.level]]) (by omega) (bx_get0 _ _ _) (bx_get1 _ _ _) (bx_get2 _ _ _) (by omega) q (hw.mono fun _ _ x => x.kf hkf)
  have y0 : hget H1 h.length = .vars [.ptr S 0] := c3.2 _ _ (bx_get0 _ _ _) (by simp) (by omega) (by simp)
  have y1 : hget H1 (h.length + 1) = .vars [.int (v : Int)] := c3.2 _ _ (bx_get1 _ _ _) (by simp) (by omega) (by simp)
  have y2 : hget H1 (h.length + 2) = .vars [.int nv.level] := c3.2 _ _ (bx_get2 _ _ _) (by simp) (by omega) (by simp)
  have e12 : w + 1 + 1 = w + 2 := by omega
  obtain ⟨H2, d1, d2, d3⟩ := walk_low c2 (by omega) y0 y2 (by omega) q (by rw [e12]; exact hw2.mono fun _ _ x => x.kf (hkf.trans c3))
  rw [e12] at d2
  have z0 : hget H2 h.length = .vars [.ptr S 0] := d3.2 _ _ y0 (by simp) (by omega) (by simp)
  have z1 : hget H2 (h.length + 1) = .vars [.int (v : Int)] := d3.2 _ _ y1 (by simp) (by omega) (by simp)
  obtain ⟨A, g, h1, h2⟩ := sp_arr hs (ne_of_at hv)
  obtain ⟨A2, g2, k1, k2⟩ := sp_arr d2 (ne_of_at hv2)
  have hA := hlt_of h2 (by simp)
  have hlt := (List.getElem?_eq_some_iff.1 hv).1
  have hlt2 := (List.getElem?_eq_some_iff.1 hv2).1
  have ht : ((v : Int)).toNat = v := by omega
  obtain ⟨s1, s2⟩ := sp_set k1 k2 v { n2 with to := q }
  obtain ⟨k, p, m, ks, l, t, mk⟩ := nv
  obtain ⟨k', p', m', ks', l', t', mk'⟩ := n2
  dsimp only at c1 c2 c3 hkf d1 y2 s1 s2
  have hgt : (ns''.map ndV)[v]? = some (.agg [.int k', .str (txt p'), .str (txt m'), ks', .int l', .int t', .int mk']) := by rw [List.getElem?_map, hv2]; rfl
  have hstp : septr true 1 (.int q) g2 7 v 5 H2 A2 (.arr 7 (ns''.map ndV) g2) = some (H2.set A2 (.arr 7 ((ns''.set v ⟨k', p', m', ks', l', q, mk'⟩).map ndV) g2)) := by
    rw [← map_set']
    simp [septr, hgt, AV.cells, patch, putAt, ndV]
  refine doCall_sp md47 ?_ hs0 s1 ((hkf.trans c3).trans (d3.trans s2))
  rw [aval_of Tryd.func47 body47 Tryd.results47 Tryd.ntmps47 ok47]
  simp (implicitDefEqProofs := false) (disch := omega) only [go_sem, Nat.reduceAdd, Nat.reduceSub, Nat.reduceMul, Nat.reduceLT, Nat.reduceLeDiff, Nat.reduceEqDiff, List.drop_zero, List.take_succ_cons, List.take_zero, List.drop_succ_cons, Bool.and_true, Bool.true_and, Bool.and_false, Bool.false_and, BitVec.reduceOfInt, Nat.zero_add, Nat.mul_one, Nat.add_zero, Int.zero_add, Int.reduceToNat, Nat.reducePow, ↓reduceIte, reduceCtorEq, Int.reduceLE, Int.reduceLT, Int.reduceEq, Int.reduceNe, Int.reduceAdd, Int.reduceSub, Int.reduceMul, Int.reduceNeg, Nat.reduceBEq, show regOf Tryd.f47 0 = Code.region _ _ _ from rfl, show regOf Tryd.f47 1 = Code.region _ _ _ from rfl, show regOf Tryd.f47 2 = Code.region _ _ _ from rfl, show regOf Tryd.f47 3 = Code.region _ _ _ from rfl, show regOf Tryd.f47 5 = Code.region _ _ _ from rfl, show regOf Tryd.f47 6 = Code.region _ _ _ from rfl, show regOf Tryd.f47 7 = Code.region _ _ _ from rfl, c1, List.append_assoc, List.cons_append, List.nil_append, bx_get0, bx_get1, bx_get2, hget_app, h1, h2, ht, List.getElem?_map, hv, Option.map_some, ndV_mk, bx_set2, thenDraw_store, List.length_append, List.length_cons, List.length_nil, y0, d1, z0, z1, k1, k2, hv2, hstp]
end Go.Proofs.YtncjbccjpneoiaaDoor
namespace Go.Proofs.YtncjbccjpneoiaaDoor
open Go Go.Ab Go.Proofs
set_option maxRecDepth 100000
set_option linter.unusedSimpArgs false
set_option linter.unusedVariables false
theorem e10 : (((1 : Nat) : Int) - 1).toNat = 0 := rfl
set_option maxHeartbeats 8000000
theorem un_end (h : AHeap) (S M T g : Nat) : lrun Tryd.prog md fg (fg 29) (loopOf Tryd.f29 0) (fg 29 1) (((.ptr S 0) :: .unk :: .unk :: .unk :: .unk :: .unk :: (.val (.bool false)) :: (.mp M) :: (.arr T 0 0 g 2) :: .unk :: .unk :: .unk :: .unk :: .unk :: .unk :: .unk :: .unk :: .unk :: .unk :: .unk :: .unk :: .unk :: .unk :: .unk :: .unk :: .unk :: .unk :: .unk :: .unk :: .unk :: .unk :: .unk :: .unk :: .unk :: .unk :: .unk :: .unk :: .unk :: .unk :: .unk :: .unk :: .unk :: .unk :: .unk :: .unk :: .unk :: .unk :: .unk :: .unk :: .unk :: .unk :: .unk :: .unk :: .unk :: .unk :: .unk :: .unk :: .unk :: .unk :: .unk :: .unk :: .unk :: .unk :: .unk :: .unk :: .unk :: .unk :: .unk :: .unk :: .unk :: .unk :: .unk :: .unk :: .unk :: .unk :: .unk :: .unk :: .unk :: .unk :: .unk :: .unk :: .unk :: .unk :: .unk :: .unk :: .unk :: .unk :: .unk :: .unk :: .unk :: .unk :: .unk :: .unk :: .unk :: .unk :: .unk :: .unk :: .unk :: .unk :: .unk :: .unk :: .unk :: .unk :: .unk :: .unk :: .unk :: .unk :: .unk :: .unk :: .unk :: .unk :: .unk :: .unk :: .unk :: .unk :: .unk :: .unk :: .unk :: .unk :: .unk :: .unk :: .unk :: .unk :: .unk :: .unk :: .unk :: [] : List AV)) h = some (.exit 0, ((.ptr S 0) :: .unk :: .unk :: .unk :: .unk :: .unk :: (.val (.bool false)) :: (.mp M) :: (.arr T 0 0 g 2) :: .unk :: .unk :: .unk :: .unk :: .unk :: .unk :: .unk :: .unk :: .unk :: .unk :: .unk :: .unk :: .unk :: .unk :: .unk :: .unk :: .unk :: .unk :: .unk :: .unk :: .unk :: .unk :: .unk :: .unk :: .unk :: .unk :: .unk :: .unk :: .unk :: .unk :: .unk :: .unk :: .unk :: .unk :: .unk :: .unk :: .unk :: .unk :: .unk :: .unk :: .unk :: .unk :: .unk :: .unk :: .unk :: .unk :: .unk :: .unk :: .unk :: .unk :: .unk :: .unk :: .unk :: .unk :: .unk :: .unk :: .unk :: .unk :: .unk :: .unk :: .unk :: .unk :: .unk :: .unk :: .unk :: .unk :: .unk :: .unk :: .unk :: .unk :: .unk :: .unk :: .unk :: .unk :: .unk :: .unk :: .unk :: .unk :: .unk :: .unk :: .unk :: .unk :: .unk :: .unk :: .unk :: .unk :: .unk :: .unk :: .unk :: .unk :: .unk :: .unk :: .unk :: .unk :: .unk :: .unk :: .unk :: .unk :: .unk :: .unk :: .unk :: .unk :: .unk :: .unk :: .unk :: .unk :: .unk :: .unk :: .unk :: .unk :: .unk :: .unk :: .unk :: .unk :: .unk :: .unk :: .unk :: [] : List AV), h) := by
  rw [lrun_atC loop29_0]
  simp (implicitDefEqProofs := false) (disch := omega) only [go_sem, Nat.reduceAdd, Nat.reduceSub, Nat.reduceMul, Nat.reduceLT, Nat.reduceLeDiff, Nat.reduceEqDiff, List.drop_zero, List.take_succ_cons, List.take_zero, List.drop_succ_cons, Bool.and_true, Bool.true_and, Bool.and_false, Bool.false_and, BitVec.reduceOfInt, Nat.zero_add, Nat.mul_one, Nat.add_zero, Int.zero_add, Int.reduceToNat, Nat.reducePow, ↓reduceIte, reduceCtorEq, Int.reduceLE, Int.reduceLT, Int.reduceEq, Int.reduceNe, Int.reduceAdd, Int.reduceSub, Int.reduceMul, Int.reduceNeg, Nat.reduceBEq, show regOf Tryd.f29 5 = Code.region _ _ _ from rfl]
theorem un_same {h : AHeap} {S : Nat} {ns : List Nd} {b w : Int} {f : Bool} (hs : SP h S ns b f w) {i : Nat} {n : Nd} (hx : ns[i]? = some n) (hto : n.to = (i : Int)) {M c T g : Nat} (hm : hget h M = .map [] c) (hT : hget h T = .arr 2 [.agg [.int (i : Int), .int (i : Int)]] g) : ∃ H, lrun Tryd.prog md fg (fg 29) (loopOf Tryd.f29 0) (fg 29 1) (((.ptr S 0) :: .unk :: .unk :: .unk :: .unk :: .unk :: (.val (.bool false)) :: (.mp M) :: (.arr T 0 1 g 2) :: .unk :: .unk :: .unk :: .unk :: .unk :: .unk :: .unk :: .unk :: .unk :: .unk :: .unk :: .unk :: .unk :: .unk :: .unk :: .unk :: .unk :: .unk :: .unk :: .unk :: .unk :: .unk :: .unk :: .unk :: .unk :: .unk :: .unk :: .unk :: .unk :: .unk :: .unk :: .unk :: .unk :: .unk :: .unk :: .unk :: .unk :: .unk :: .unk :: .unk :: .unk :: .unk :: .unk :: .unk :: .unk :: .unk :: .unk :: .unk :: .unk :: .unk :: .unk :: .unk :: .unk :: .unk :: .unk :: .unk :: .unk :: .unk :: .unk :: .unk :: .unk :: .unk :: .unk :: .unk :: .unk :: .unk :: .unk :: .unk :: .unk :: .unk :: .unk :: .unk :: .unk :: .unk :: .unk :: .unk :: .unk :: .unk :: .unk :: .unk :: .unk :: .unk :: .unk :: .unk :: .unk :: .unk :: .unk :: .unk :: .unk :: .unk :: .unk :: .unk :: .unk :: .unk :: .unk :: .unk :: .unk :: .unk :: .unk :: .unk :: .unk :: .unk :: .unk :: .unk :: .unk :: .unk :: .unk :: .unk :: .unk :: .unk :: .unk :: .unk :: .unk :: .unk :: .unk :: .unk :: .unk :: [] : List AV)) h = some (.exit 0, ((.ptr S 0) :: .unk :: .unk :: .unk :: .unk :: .unk :: (.val (.bool false)) :: (.mp M) :: (.arr T 0 0 g 2) :: .unk :: .unk :: .unk :: .unk :: .unk :: .unk :: .unk :: .unk :: .unk :: .unk :: .unk :: .unk :: .unk :: .unk :: .unk :: .unk :: .unk :: .unk :: .unk :: .unk :: .unk :: .unk :: .unk :: .unk :: .unk :: .unk :: .unk :: .unk :: .unk :: .unk :: .unk :: .unk :: .unk :: .unk :: .unk :: .unk :: .unk :: .unk :: .unk :: .unk :: .unk :: .unk :: .unk :: .unk :: .unk :: .unk :: .unk :: .unk :: .unk :: .unk :: .unk :: .unk :: .unk :: .unk :: .unk :: .unk :: .unk :: .unk :: .unk :: .unk :: .unk :: .unk :: .unk :: .unk :: .unk :: .unk :: .unk :: .unk :: .unk :: .unk :: .unk :: .unk :: .unk :: .unk :: .unk :: .unk :: .unk :: .unk :: .unk :: .unk :: .unk :: .unk :: .unk :: .unk :: .unk :: .unk :: .unk :: .unk :: .unk :: .unk :: .unk :: .unk :: .unk :: .unk :: .unk :: .unk :: .unk :: .unk :: .unk :: .unk :: .unk :: .unk :: .unk :: .unk :: .unk :: .unk :: .unk :: .unk :: .unk :: .unk :: .unk :: .unk :: .unk :: .unk :: .unk :: .unk :: .unk :: [] : List AV), H) ∧ SP H S ns b f w ∧ Kf S h H := by
  have hs1 := sp_app hs [.vars [.int (i : Int), .int (i : Int)]]
  have hm1 : hget (h ++ [.vars [.int (i : Int), .int (i : Int)]]) M = .map [] c := by rw [hget_app _ (hlt_of hm (by simp))]; exact hm
  have hT1 := hT
  rw [← hget_app [.vars [.int (i : Int), .int (i : Int)]] (hlt_of hT (by simp))] at hT1
  have cf := top_root hs1 hx hto hm1
  refine ⟨h ++ [.vars [.int (i : Int), .int (i : Int)]], ?_, hs1, kf_app _ _ _⟩
  rw [lrun_atC loop29_0]
  simp (implicitDefEqProofs := false) (disch := omega) only [go_sem, Nat.reduceAdd, Nat.reduceSub, Nat.reduceMul, Nat.reduceLT, Nat.reduceLeDiff, Nat.reduceEqDiff, List.drop_zero, List.take_succ_cons, List.take_zero, List.drop_succ_cons, Bool.and_true, Bool.true_and, Bool.and_false, Bool.false_and, BitVec.reduceOfInt, Nat.zero_add, Nat.mul_one, Nat.add_zero, Int.zero_add, Int.reduceToNat, Nat.reducePow, ↓reduceIte, reduceCtorEq, Int.reduceLE, Int.reduceLT, Int.reduceEq, Int.reduceNe, Int.reduceAdd, Int.reduceSub, Int.reduceMul, Int.reduceNeg, Nat.reduceBEq, show regOf Tryd.f29 5 = Code.region _ _ _ from rfl, show regOf Tryd.f29 6 = Code.region _ _ _ from rfl, show regOf Tryd.f29 7 = Code.region _ _ _ from rfl, show regOf Tryd.f29 8 = Code.region _ _ _ from rfl, show regOf Tryd.f29 15 = Code.region _ _ _ from rfl, cf, hT, hT1, e10, List.getElem?_cons_zero, hget_last, set_last, md46, beq_self_eq_true, Bool.true_or, un_end]
theorem un_rigid {h : AHeap} {S : Nat} {ns : List Nd} {b w : Int} {f : Bool} (hs : SP h S ns b f w) {i j : Nat} {n m : Nd} (hij : i ≠ j) (hx : ns[i]? = some n) (hto : n.to = (i : Int)) (hy : ns[j]? = some m) (hto2 : m.to = (j : Int)) (hn : n.kind = 5) (hmk : m.kind = 5) {M c T g : Nat} (hm : hget h M = .map [] c) (hT : hget h T = .arr 2 [.agg [.int (i : Int), .int (j : Int)]] g) : ∃ H, lrun Tryd.prog md fg (fg 29) (loopOf Tryd.f29 0) (fg 29 1) (((.ptr S 0) :: .unk :: .unk :: .unk :: .unk :: .unk :: (.val (.bool false)) :: (.mp M) :: (.arr T 0 1 g 2) :: .unk :: .unk :: .unk :: .unk :: .unk :: .unk :: .unk :: .unk :: .unk :: .unk :: .unk :: .unk :: .unk :: .unk :: .unk :: .unk :: .unk :: .unk :: .unk :: .unk :: .unk :: .unk :: .unk :: .unk :: .unk :: .unk :: .unk :: .unk :: .unk :: .unk :: .unk :: .unk :: .unk :: .unk :: .unk :: .unk :: .unk :: .unk :: .unk :: .unk :: .unk :: .unk :: .unk :: .unk :: .unk :: .unk :: .unk :: .unk :: .unk :: .unk :: .unk :: .unk :: .unk :: .unk :: .unk :: .unk :: .unk :: .unk :: .unk :: .unk :: .unk :: .unk :: .unk :: .unk :: .unk :: .unk :: .unk :: .unk :: .unk :: .unk :: .unk :: .unk :: .unk :: .unk :: .unk :: .unk :: .unk :: .unk :: .unk :: .unk :: .unk :: .unk :: .unk :: .unk :: .unk :: .unk :: .unk :: .unk :: .unk :: .unk :: .unk :: .unk :: .unk :: .unk :: .unk :: .unk :: .unk :: .unk :: .unk :: .unk :: .unk :: .unk :: .unk :: .unk :: .unk :: .unk :: .unk :: .unk :: .unk :: .unk :: .unk :: .unk :: .unk :: .unk :: .unk :: .unk :: .unk :: [] : List AV)) h = some (.ret, ((.ptr S 0) :: .unk :: .unk :: .unk :: .unk :: .unk :: (.val (.bool false)) :: (.mp M) :: (.arr T 0 0 g 2) :: .unk :: .unk :: .unk :: .unk :: .unk :: .unk :: .unk :: .unk :: .unk :: .unk :: .unk :: .unk :: .unk :: .unk :: .unk :: .unk :: .unk :: .unk :: .unk :: .unk :: .unk :: .unk :: .unk :: .unk :: .unk :: .unk :: .unk :: .unk :: .unk :: .unk :: .unk :: .unk :: .unk :: .unk :: .unk :: .unk :: .unk :: .unk :: .unk :: .unk :: .unk :: .unk :: .unk :: .unk :: .unk :: .unk :: .unk :: .unk :: .unk :: .unk :: .unk :: .unk :: .unk :: .unk :: .unk :: .unk :: .unk :: .unk :: .unk :: .unk :: .unk :: .unk :: .unk :: .unk :: .unk :: .unk :: .unk :: .unk :: .unk :: .unk :: .unk :: .unk :: .unk :: .unk :: .unk :: .unk :: .unk :: .unk :: .unk :: .unk :: .unk :: .unk :: .unk :: .unk :: .unk :: .unk :: .unk :: .unk :: .unk :: .unk :: .unk :: .unk :: .unk :: .unk :: .unk :: .unk :: .unk :: .unk :: .unk :: .unk :: .unk :: .unk :: .unk :: .unk :: .unk :: .unk :: .unk :: .unk :: .unk :: .unk :: .unk :: .unk :: .unk :: .unk :: .unk :: .unk :: .unk :: [] : List AV), H) ∧ SP H S ns b f w ∧ Kf S h H := by
  have hs1 := sp_app hs [.vars [.int (i : Int), .int (j : Int)]]
  have hm1 : hget (h ++ [.vars [.int (i : Int), .int (j : Int)]]) M = .map [] c := by rw [hget_app _ (hlt_of hm (by simp))]; exact hm
  have hT1 := hT
  rw [← hget_app [.vars [.int (i : Int), .int (j : Int)]] (hlt_of hT (by simp))] at hT1
  have cf := top_root hs1 hx hto hm1
  have cg := top_root hs1 hy hto2 hm1
  have cs := same_rigid hs1 hx hy hn hmk
  have hne : ¬ (i : Int) = j := by omega
  obtain ⟨A, gA, h1, h2⟩ := sp_arr hs1 (ne_of_at hx)
  have hlt := (List.getElem?_eq_some_iff.1 hx).1
  have hlt2 := (List.getElem?_eq_some_iff.1 hy).1
  have ht : ((i : Int)).toNat = i := by omega
  have ht2 : ((j : Int)).toNat = j := by omega
  refine ⟨h ++ [.vars [.int (i : Int), .int (j : Int)]], ?_, hs1, kf_app _ _ _⟩
  obtain ⟨k, p, m1, ks, l, t, mk⟩ := n
  obtain ⟨k2, p2, m2, ks2, l2, t2, mk2⟩ := m
  dsimp only at hn hmk
  subst hn; subst hmk
  rw [lrun_atC loop29_0]
  simp (implicitDefEqProofs := false) (disch := omega) only [go_sem, Nat.reduceAdd, Nat.reduceSub, Nat.reduceMul, Nat.reduceLT, Nat.reduceLeDiff, Nat.reduceEqDiff, List.drop_zero, List.take_succ_cons, List.take_zero, List.drop_succ_cons, Bool.and_true, Bool.true_and, Bool.and_false, Bool.false_and, BitVec.reduceOfInt, Nat.zero_add, Nat.mul_one, Nat.add_zero, Int.zero_add, Int.reduceToNat, Nat.reducePow, ↓reduceIte, reduceCtorEq, Int.reduceLE, Int.reduceLT, Int.reduceEq, Int.reduceNe, Int.reduceAdd, Int.reduceSub, Int.reduceMul, Int.reduceNeg, Nat.reduceBEq, show regOf Tryd.f29 5 = Code.region _ _ _ from rfl, show regOf Tryd.f29 6 = Code.region _ _ _ from rfl, show regOf Tryd.f29 7 = Code.region _ _ _ from rfl, show regOf Tryd.f29 8 = Code.region _ _ _ from rfl, show regOf Tryd.f29 15 = Code.region _ _ _ from rfl, show regOf Tryd.f29 16 = Code.region _ _ _ from rfl, show regOf Tryd.f29 19 = Code.region _ _ _ from rfl, show regOf Tryd.f29 22 = Code.region _ _ _ from rfl, show regOf Tryd.f29 23 = Code.region _ _ _ from rfl, cf, hT, hT1, cg, cs, e10, List.getElem?_cons_zero, hget_last, set_last, md46, beq_self_eq_true, Bool.true_or, un_end, hne, h1, h2, List.getElem?_map, ht, ht2, hx, hy, Option.map_some, ndV_mk]
/-- A variable's turn: it becomes the other, or not. -/
theorem un_var {h : AHeap} {S : Nat} {ns ns2 : List Nd} {b w w2 : Int} {f : Bool} (hs : SP h S ns b f w) {i j : Nat} {n m : Nd} (hij : i ≠ j) (hx : ns[i]? = some n) (hto : n.to = (i : Int)) (hy : ns[j]? = some m) (hto2 : m.to = (j : Int)) (hn : n.kind = 1) {M c T g : Nat} (hm : hget h M = .map [] c) (hT : hget h T = .arr 2 [.agg [.int (i : Int), .int (j : Int)]] g) (res : Bool)
    (hb : ∀ h1, SP h1 S ns b f w → Kf S h h1 → ∃ H, doCall md (aval Tryd.prog md fg) 47 [.ptr S 0, .int i, .int j] h1 = some (.val (.bool res), H) ∧ SP H S ns2 b f w2 ∧ Kf S h1 H) : ∃ H, lrun Tryd.prog md fg (fg 29) (loopOf Tryd.f29 0) (fg 29 1) (((.ptr S 0) :: .unk :: .unk :: .unk :: .unk :: .unk :: (.val (.bool false)) :: (.mp M) :: (.arr T 0 1 g 2) :: .unk :: .unk :: .unk :: .unk :: .unk :: .unk :: .unk :: .unk :: .unk :: .unk :: .unk :: .unk :: .unk :: .unk :: .unk :: .unk :: .unk :: .unk :: .unk :: .unk :: .unk :: .unk :: .unk :: .unk :: .unk :: .unk :: .unk :: .unk :: .unk :: .unk :: .unk :: .unk :: .unk :: .unk :: .unk :: .unk :: .unk :: .unk :: .unk :: .unk :: .unk :: .unk :: .unk :: .unk :: .unk :: .unk :: .unk :: .unk :: .unk :: .unk :: .unk :: .unk :: .unk :: .unk :: .unk :: .unk :: .unk :: .unk :: .unk :: .unk :: .unk :: .unk :: .unk :: .unk :: .unk :: .unk :: .unk :: .unk :: .unk :: .unk :: .unk :: .unk :: .unk :: .unk :: .unk :: .unk :: .unk :: .unk :: .unk :: .unk :: .unk :: .unk :: .unk :: .unk :: .unk :: .unk :: .unk :: .unk :: .unk :: .unk :: .unk :: .unk :: .unk :: .unk :: .unk :: .unk :: .unk :: .unk :: .unk :: .unk :: .unk :: .unk :: .unk :: .unk :: .unk :: .unk :: .unk :: .unk :: .unk :: .unk :: .unk :: .unk :: .unk :: .unk :: .unk :: .unk :: .unk :: [] : List AV)) h = some (if res then .exit 0 else .ret, ((.ptr S 0) :: .unk :: .unk :: .unk :: .unk :: .unk :: (.val (.bool false)) :: (.mp M) :: (.arr T 0 0 g 2) :: .unk :: .unk :: .unk :: .unk :: .unk :: .unk :: .unk :: .unk :: .unk :: .unk :: .unk :: .unk :: .unk :: .unk :: .unk :: .unk :: .unk :: .unk :: .unk :: .unk :: .unk :: .unk :: .unk :: .unk :: .unk :: .unk :: .unk :: .unk :: .unk :: .unk :: .unk :: .unk :: .unk :: .unk :: .unk :: .unk :: .unk :: .unk :: .unk :: .unk :: .unk :: .unk :: .unk :: .unk :: .unk :: .unk :: .unk :: .unk :: .unk :: .unk :: .unk :: .unk :: .unk :: .unk :: .unk :: .unk :: .unk :: .unk :: .unk :: .unk :: .unk :: .unk :: .unk :: .unk :: .unk :: .unk :: .unk :: .unk :: .unk :: .unk :: .unk :: .unk :: .unk :: .unk :: .unk :: .unk :: .unk :: .unk :: .unk :: .unk :: .unk :: .unk :: .unk :: .unk :: .unk :: .unk :: .unk :: .unk :: .unk :: .unk :: .unk :: .unk :: .unk :: .unk :: .unk :: .unk :: .unk :: .unk :: .unk :: .unk :: .unk :: .unk :: .unk :: .unk :: .unk :: .unk :: .unk :: .unk :: .unk :: .unk :: .unk :: .unk :: .unk :: .unk :: .unk :: .unk :: .unk :: [] : List AV), H) ∧ SP H S ns2 b f w2 ∧ Kf S h H := by
  have hs1 := sp_app hs [.vars [.int (i : Int), .int (j : Int)]]
  have kf1 := kf_app S h [.vars [.int (i : Int), .int (j : Int)]]
  have hm1 : hget (h ++ [.vars [.int (i : Int), .int (j : Int)]]) M = .map [] c := by rw [hget_app _ (hlt_of hm (by simp))]; exact hm
  have hT1 := hT
  rw [← hget_app [.vars [.int (i : Int), .int (j : Int)]] (hlt_of hT (by simp))] at hT1
  have cf := top_root hs1 hx hto hm1
  have cg := top_root hs1 hy hto2 hm1
  have hne : ¬ (i : Int) = j := by omega
  obtain ⟨A, gA, h1, h2⟩ := sp_arr hs1 (ne_of_at hx)
  have hlt := (List.getElem?_eq_some_iff.1 hx).1
  have ht : ((i : Int)).toNat = i := by omega
  obtain ⟨H, c1, c2, c3⟩ := hb _ hs1 kf1
  refine ⟨H, ?_, c2, kf1.trans c3⟩
  obtain ⟨k, p, m1, ks, l, t, mk⟩ := n
  dsimp only at hn
  subst hn
  cases res
  · rw [lrun_atC loop29_0]
    simp (implicitDefEqProofs := false) (disch := omega) only [go_sem, Nat.reduceAdd, Nat.reduceSub, Nat.reduceMul, Nat.reduceLT, Nat.reduceLeDiff, Nat.reduceEqDiff, List.drop_zero, List.take_succ_cons, List.take_zero, List.drop_succ_cons, Bool.and_true, Bool.true_and, Bool.and_false, Bool.false_and, BitVec.reduceOfInt, Nat.zero_add, Nat.mul_one, Nat.add_zero, Int.zero_add, Int.reduceToNat, Nat.reducePow, ↓reduceIte, reduceCtorEq, Int.reduceLE, Int.reduceLT, Int.reduceEq, Int.reduceNe, Int.reduceAdd, Int.reduceSub, Int.reduceMul, Int.reduceNeg, Nat.reduceBEq, show regOf Tryd.f29 5 = Code.region _ _ _ from rfl, show regOf Tryd.f29 6 = Code.region _ _ _ from rfl, show regOf Tryd.f29 7 = Code.region _ _ _ from rfl, show regOf Tryd.f29 8 = Code.region _ _ _ from rfl, show regOf Tryd.f29 15 = Code.region _ _ _ from rfl, show regOf Tryd.f29 16 = Code.region _ _ _ from rfl, show regOf Tryd.f29 17 = Code.region _ _ _ from rfl, show regOf Tryd.f29 18 = Code.region _ _ _ from rfl, cf, hT, hT1, cg, c1, e10, List.getElem?_cons_zero, hget_last, set_last, md46, beq_self_eq_true, Bool.true_or, un_end, hne, h1, h2, List.getElem?_map, ht, hx, Option.map_some, ndV_mk]
  · rw [lrun_atC loop29_0]
    simp (implicitDefEqProofs := false) (disch := omega) only [go_sem, Nat.reduceAdd, Nat.reduceSub, Nat.reduceMul, Nat.reduceLT, Nat.reduceLeDiff, Nat.reduceEqDiff, List.drop_zero, List.take_succ_cons, List.take_zero, List.drop_succ_cons, Bool.and_true, Bool.true_and, Bool.and_false, Bool.false_and, BitVec.reduceOfInt, Nat.zero_add, Nat.mul_one, Nat.add_zero, Int.zero_add, Int.reduceToNat, Nat.reducePow, ↓reduceIte, reduceCtorEq, Int.reduceLE, Int.reduceLT, Int.reduceEq, Int.reduceNe, Int.reduceAdd, Int.reduceSub, Int.reduceMul, Int.reduceNeg, Nat.reduceBEq, show regOf Tryd.f29 5 = Code.region _ _ _ from rfl, show regOf Tryd.f29 6 = Code.region _ _ _ from rfl, show regOf Tryd.f29 7 = Code.region _ _ _ from rfl, show regOf Tryd.f29 8 = Code.region _ _ _ from rfl, show regOf Tryd.f29 15 = Code.region _ _ _ from rfl, show regOf Tryd.f29 16 = Code.region _ _ _ from rfl, show regOf Tryd.f29 17 = Code.region _ _ _ from rfl, cf, hT, hT1, cg, c1, e10, List.getElem?_cons_zero, hget_last, set_last, md46, beq_self_eq_true, Bool.true_or, un_end, hne, h1, h2, List.getElem?_map, ht, hx, Option.map_some, ndV_mk]
end Go.Proofs.YtncjbccjpneoiaaDoor
namespace Go.Proofs.YtncjbccjpneoiaaDoor
open Go Go.Ab Go.Proofs
set_option maxRecDepth 100000
set_option linter.unusedSimpArgs false
set_option linter.unusedVariables false
set_option maxHeartbeats 8000000
theorem isMapT_90 : isMapT Tryd.prog 90 = true := by kernel_rfl
theorem abuild_91 (x y : Int) : abuild Tryd.prog 91 [(0, .int x), (1, .int y)] = some (.agg [.int x, .int y]) := by kernel_rfl
theorem unify_run {h : AHeap} {S : Nat} {ns ns2 : List Nd} {b w w2 : Int} (hs : SP h S ns b false w) (hl : ns.length ≤ 200000) {i j : Nat} (hi : i < ns.length) (hj : j < ns.length) (res : Bool)
    (hr : ∀ h1 M c T g, SP h1 S ns b false w → Kf S h h1 → hget h1 M = .map [] c → hget h1 T = .arr 2 [.agg [.int (i : Int), .int (j : Int)]] g → ∃ H, lrun Tryd.prog md fg (fg 29) (loopOf Tryd.f29 0) (fg 29 1) (((.ptr S 0) :: .unk :: .unk :: .unk :: .unk :: .unk :: (.val (.bool false)) :: (.mp M) :: (.arr T 0 1 g 2) :: .unk :: .unk :: .unk :: .unk :: .unk :: .unk :: .unk :: .unk :: .unk :: .unk :: .unk :: .unk :: .unk :: .unk :: .unk :: .unk :: .unk :: .unk :: .unk :: .unk :: .unk :: .unk :: .unk :: .unk :: .unk :: .unk :: .unk :: .unk :: .unk :: .unk :: .unk :: .unk :: .unk :: .unk :: .unk :: .unk :: .unk :: .unk :: .unk :: .unk :: .unk :: .unk :: .unk :: .unk :: .unk :: .unk :: .unk :: .unk :: .unk :: .unk :: .unk :: .unk :: .unk :: .unk :: .unk :: .unk :: .unk :: .unk :: .unk :: .unk :: .unk :: .unk :: .unk :: .unk :: .unk :: .unk :: .unk :: .unk :: .unk :: .unk :: .unk :: .unk :: .unk :: .unk :: .unk :: .unk :: .unk :: .unk :: .unk :: .unk :: .unk :: .unk :: .unk :: .unk :: .unk :: .unk :: .unk :: .unk :: .unk :: .unk :: .unk :: .unk :: .unk :: .unk :: .unk :: .unk :: .unk :: .unk :: .unk :: .unk :: .unk :: .unk :: .unk :: .unk :: .unk :: .unk :: .unk :: .unk :: .unk :: .unk :: .unk :: .unk :: .unk :: .unk :: .unk :: .unk :: .unk :: [] : List AV)) h1 = some (if res then .exit 0 else .ret, ((.ptr S 0) :: .unk :: .unk :: .unk :: .unk :: .unk :: (.val (.bool false)) :: (.mp M) :: (.arr T 0 0 g 2) :: .unk :: .unk :: .unk :: .unk :: .unk :: .unk :: .unk :: .unk :: .unk :: .unk :: .unk :: .unk :: .unk :: .unk :: .unk :: .unk :: .unk :: .unk :: .unk :: .unk :: .unk :: .unk :: .unk :: .unk :: .unk :: .unk :: .unk :: .unk :: .unk :: .unk :: .unk :: .unk :: .unk :: .unk :: .unk :: .unk :: .unk :: .unk :: .unk :: .unk :: .unk :: .unk :: .unk :: .unk :: .unk :: .unk :: .unk :: .unk :: .unk :: .unk :: .unk :: .unk :: .unk :: .unk :: .unk :: .unk :: .unk :: .unk :: .unk :: .unk :: .unk :: .unk :: .unk :: .unk :: .unk :: .unk :: .unk :: .unk :: .unk :: .unk :: .unk :: .unk :: .unk :: .unk :: .unk :: .unk :: .unk :: .unk :: .unk :: .unk :: .unk :: .unk :: .unk :: .unk :: .unk :: .unk :: .unk :: .unk :: .unk :: .unk :: .unk :: .unk :: .unk :: .unk :: .unk :: .unk :: .unk :: .unk :: .unk :: .unk :: .unk :: .unk :: .unk :: .unk :: .unk :: .unk :: .unk :: .unk :: .unk :: .unk :: .unk :: .unk :: .unk :: .unk :: .unk :: .unk :: .unk :: [] : List AV), H) ∧ SP H S ns2 b false w2 ∧ Kf S h1 H) :
    ∃ H, doCall md (aval Tryd.prog md fg) 29 [.ptr S 0, .int i, .int j] h = some (.val (.bool res), H) ∧ SP H S ns2 b false w2 ∧ Kf S h H := by
  have hs0 := hs
  have s1 := sp_app hs [.arr 1 [.int (i : Int), .int (j : Int)] 0]
  have ct := there_c s1 h.length 0 [(i : Int), (j : Int)] hget_last (by simp)
  have ho : [(i : Int), (j : Int)].any (out ns.length) = false := by
    simp [out]; omega
  rw [ho] at ct
  simp only [List.length_cons, List.length_nil] at ct
  have s2 := sp_app hs [.arr 1 [.int (i : Int), .int (j : Int)] 0, .map [] 0, .arr 2 [.agg [.int (i : Int), .int (j : Int)]] 0]
  obtain ⟨H, c1, c2, c3⟩ := hr _ (h.length + 1) 0 (h.length + 2) 0 s2 (kf_app _ _ _) (sb_get1 _ _ _ rfl) (sb_get2 _ _ _ _ rfl)
  refine doCall_sp md29 ?_ hs0 c2 ((kf_app _ _ _).trans c3)
  cases res
  · simp only [Bool.false_eq_true, if_false] at c1
    rw [aval_of Tryd.func29 body29 Tryd.results29 Tryd.ntmps29 ok29]
    simp (implicitDefEqProofs := false) (disch := omega) only [go_sem, Nat.reduceAdd, Nat.reduceSub, Nat.reduceMul, Nat.reduceLT, Nat.reduceLeDiff, Nat.reduceEqDiff, List.drop_zero, List.take_succ_cons, List.take_zero, List.drop_succ_cons, Bool.and_true, Bool.true_and, Bool.and_false, Bool.false_and, BitVec.reduceOfInt, Nat.zero_add, Nat.mul_one, Nat.add_zero, Int.zero_add, Int.reduceToNat, Nat.reducePow, ↓reduceIte, reduceCtorEq, Int.reduceLE, Int.reduceLT, Int.reduceEq, Int.reduceNe, Int.reduceAdd, Int.reduceSub, Int.reduceMul, Int.reduceNeg, Nat.reduceBEq, show regOf Tryd.f29 0 = Code.region _ _ _ from rfl, show regOf Tryd.f29 1 = Code.region _ _ _ from rfl, show regOf Tryd.f29 3 = Code.region _ _ _ from rfl, show regOf Tryd.f29 4 = Code.region _ _ _ from rfl, ct, List.append_assoc, List.cons_append, List.nil_append, aop_makeMap0, isMapT_90, abuild_91, c1, List.length_append, List.length_cons, List.length_nil]
  · simp only [if_true] at c1
    rw [aval_of Tryd.func29 body29 Tryd.results29 Tryd.ntmps29 ok29]
    simp (implicitDefEqProofs := false) (disch := omega) only [go_sem, Nat.reduceAdd, Nat.reduceSub, Nat.reduceMul, Nat.reduceLT, Nat.reduceLeDiff, Nat.reduceEqDiff, List.drop_zero, List.take_succ_cons, List.take_zero, List.drop_succ_cons, Bool.and_true, Bool.true_and, Bool.and_false, Bool.false_and, BitVec.reduceOfInt, Nat.zero_add, Nat.mul_one, Nat.add_zero, Int.zero_add, Int.reduceToNat, Nat.reducePow, ↓reduceIte, reduceCtorEq, Int.reduceLE, Int.reduceLT, Int.reduceEq, Int.reduceNe, Int.reduceAdd, Int.reduceSub, Int.reduceMul, Int.reduceNeg, Nat.reduceBEq, show regOf Tryd.f29 0 = Code.region _ _ _ from rfl, show regOf Tryd.f29 1 = Code.region _ _ _ from rfl, show regOf Tryd.f29 3 = Code.region _ _ _ from rfl, show regOf Tryd.f29 4 = Code.region _ _ _ from rfl, show regOf Tryd.f29 24 = Code.region _ _ _ from rfl, ct, List.append_assoc, List.cons_append, List.nil_append, aop_makeMap0, isMapT_90, abuild_91, c1, List.length_append, List.length_cons, List.length_nil]
end Go.Proofs.YtncjbccjpneoiaaDoor
namespace Go.Proofs.YtncjbccjpneoiaaDoor
open Go Go.Ab Go.Proofs
set_option maxRecDepth 100000
set_option linter.unusedSimpArgs false
set_option linter.unusedVariables false
set_option maxHeartbeats 4000000
/-- The law's store: two that are rigid, two variables, a pair, one more variable. -/
def st6 (a b : Int) (K : Nat) (t2 t5 m0 m3 m4 : Int) : List Nd :=
  [⟨5, [], [], .slc true [], b, 0, m0⟩, ⟨5, [], [], .slc true [], b, 1, 0⟩, ⟨1, [], [], .slc true [], a, t2, 0⟩, ⟨1, [], [], .slc true [], a, 3, m3⟩, ⟨3, [], [], .arr K 0 2 0 1, 0, 4, m4⟩, ⟨1, [], [], .slc true [], a, t5, 0⟩]
theorem may_rigid (v L : Int) (i : Int) (n : Nd) (hn : n.kind = 5) (hi : i ≠ v) : mayIn v L i n = decide (n.level ≤ L) := by
  unfold mayIn; simp [hn, hi]
theorem may_free (v L : Int) (i : Int) (n : Nd) (hn : n.kind ≠ 5) (hi : i ≠ v) : mayIn v L i n = true := by
  unfold mayIn; simp [hn, hi]
theorem may_self (L : Int) (i : Int) (n : Nd) : mayIn i L i n = false := by
  unfold mayIn; simp
section
variable {h : AHeap} {S K : Nat} {B w a b t2 t5 m0 m3 m4 : Int}
theorem u_rr (hs : SP h S (st6 a b K t2 t5 m0 m3 m4) B false w) : ∃ H, doCall md (aval Tryd.prog md fg) 29 [.ptr S 0, .int 0, .int 1] h = some (.val (.bool false), H) ∧ SP H S (st6 a b K t2 t5 m0 m3 m4) B false w ∧ Kf S h H :=
  unify_run (i := 0) (j := 1) hs (by simp [st6]) (by simp [st6]) (by simp [st6]) false fun h1 M c T g z1 z2 z3 z4 => by
    obtain ⟨H, e1, e2, e3⟩ := un_rigid z1 (i := 0) (j := 1) (by omega) rfl rfl rfl rfl rfl rfl z3 z4
    exact ⟨H, e1, e2, e3⟩
theorem u_r (hs : SP h S (st6 a b K t2 t5 m0 m3 m4) B false w) : ∃ H, doCall md (aval Tryd.prog md fg) 29 [.ptr S 0, .int 0, .int 0] h = some (.val (.bool true), H) ∧ SP H S (st6 a b K t2 t5 m0 m3 m4) B false w ∧ Kf S h H :=
  unify_run (i := 0) (j := 0) hs (by simp [st6]) (by simp [st6]) (by simp [st6]) true fun h1 M c T g z1 z2 z3 z4 => by
    obtain ⟨H, e1, e2, e3⟩ := un_same z1 (i := 0) rfl rfl z3 z4
    exact ⟨H, e1, e2, e3⟩
/-- A variable takes what is rigid, if its level lets it. -/
theorem u_vr_no (hs : SP h S (st6 a b K 2 t5 m0 m3 m4) B false w) (hw : 0 ≤ w ∧ w ≤ 1000) (h0 : m0 ≤ w) (hab : ¬ b ≤ a) : ∃ H, doCall md (aval Tryd.prog md fg) 29 [.ptr S 0, .int 2, .int 0] h = some (.val (.bool false), H) ∧ SP H S (st6 a b K 2 t5 (w + 1) m3 m4) B false (w + 1) ∧ Kf S h H :=
  unify_run (i := 2) (j := 0) hs (by simp [st6]) (by simp [st6]) (by simp [st6]) false fun h1 M c T g z1 z2 z3 z4 =>
    un_var z1 (i := 2) (j := 0) (by omega) rfl rfl rfl rfl rfl z3 z4 false fun h2 y1 y2 => by
      refine become_no y1 (by omega) (v := 2) rfl 0 ?_
      have := WK.no (Q := KY h2 S) (F := fun i => mayIn (2 : Nat) a i) (G := fun _ n => n) (w := w + 1) (ns := st6 a b K 2 t5 m0 m3 m4) (st := []) (i := 0) (by simp) rfl rfl (by dsimp only; omega) (by rw [may_rigid _ _ _ _ rfl (by omega)]; exact decide_eq_false hab)
      exact this
theorem u_vr_yes (hs : SP h S (st6 a b K 2 t5 m0 m3 m4) B false w) (hw : 0 ≤ w ∧ w ≤ 1000) (h0 : m0 ≤ w) (hab : b ≤ a) : ∃ H, doCall md (aval Tryd.prog md fg) 29 [.ptr S 0, .int 2, .int 0] h = some (.val (.bool true), H) ∧ SP H S (st6 a b K 0 t5 (w + 2) m3 m4) B false (w + 2) ∧ Kf S h H :=
  unify_run (i := 2) (j := 0) hs (by simp [st6]) (by simp [st6]) (by simp [st6]) true fun h1 M c T g z1 z2 z3 z4 =>
    un_var z1 (i := 2) (j := 0) (by omega) rfl rfl rfl rfl rfl z3 z4 true fun h2 y1 y2 => by
      refine become_yes y1 (by omega) (v := 2) rfl 0 (ns' := st6 a b K 2 t5 (w + 1) m3 m4) (ns'' := st6 a b K 2 t5 (w + 2) m3 m4) ?_ ?_ rfl
      · have := WK.yes (Q := KY h2 S) (F := fun i => mayIn (2 : Nat) a i) (G := fun _ n => n) (w := w + 1) (ns := st6 a b K 2 t5 m0 m3 m4) (st := []) (kl := []) (i := 0) (by simp) (by simp) rfl rfl (by dsimp only; omega) (by rw [may_rigid _ _ _ _ rfl (by omega)]; exact decide_eq_true hab) (.inl ⟨rfl, rfl⟩) .done
        exact this
      · have := WK.yes (Q := KY h2 S) (F := fun _ _ => true) (G := fun _ => lowN a) (w := w + 2) (ns := st6 a b K 2 t5 (w + 1) m3 m4) (st := []) (kl := []) (i := 0) (by simp) (by simp) rfl rfl (by dsimp only; omega) rfl (.inl ⟨rfl, rfl⟩) .done
        exact this
/-- A variable takes a pair of a variable and what is rigid, if its level lets it. -/
theorem u_wf_no (hs : SP h S (st6 a b K t2 5 m0 m3 m4) B false w) (hK : hget h K = .arr 1 [.int 3, .int 0] 0) (hKS : K ≠ S) (hw : 0 ≤ w ∧ w ≤ 1000) (h0 : m0 ≤ w) (h3 : m3 ≤ w) (h4 : m4 ≤ w) (hab : ¬ b ≤ a) : ∃ H, doCall md (aval Tryd.prog md fg) 29 [.ptr S 0, .int 5, .int 4] h = some (.val (.bool false), H) ∧ SP H S (st6 a b K t2 5 (w + 1) m3 (w + 1)) B false (w + 1) ∧ Kf S h H :=
  unify_run (i := 5) (j := 4) hs (by simp [st6]) (by simp [st6]) (by simp [st6]) false fun h1 M c T g z1 z2 z3 z4 =>
    un_var z1 (i := 5) (j := 4) (by omega) rfl rfl rfl rfl rfl z3 z4 false fun h2 y1 y2 => by
      have hK2 : hget h2 K = .arr 1 [.int 3, .int 0] 0 := (z2.trans y2).2 K _ hK (by simp) hKS (by simp)
      refine become_no y1 (by omega) (v := 5) rfl 4 ?_
      have e0 := WK.no (Q := KY h2 S) (F := fun i => mayIn (5 : Nat) a i) (G := fun _ n => n) (w := w + 1) (ns := st6 a b K t2 5 m0 m3 (w + 1)) (st := [3]) (i := 0) (by simp) rfl rfl (by dsimp only; omega) (by rw [may_rigid _ _ _ _ rfl (by omega)]; exact decide_eq_false hab)
      have := WK.yes (Q := KY h2 S) (F := fun i => mayIn (5 : Nat) a i) (G := fun _ n => n) (w := w + 1) (ns := st6 a b K t2 5 m0 m3 m4) (st := []) (kl := [3, 0]) (i := 4) (by simp) (by simp) rfl rfl (by dsimp only; omega) (may_free _ _ _ _ (by simp [mkN]) (by omega)) (.inr ⟨K, 0, rfl, hK2, hKS⟩) e0
      exact this
theorem u_wf_yes (hs : SP h S (st6 a b K t2 5 m0 m3 m4) B false w) (hK : hget h K = .arr 1 [.int 3, .int 0] 0) (hKS : K ≠ S) (hw : 0 ≤ w ∧ w ≤ 1000) (h0 : m0 ≤ w) (h3 : m3 ≤ w) (h4 : m4 ≤ w) (hab : b ≤ a) : ∃ H, doCall md (aval Tryd.prog md fg) 29 [.ptr S 0, .int 5, .int 4] h = some (.val (.bool true), H) ∧ SP H S (st6 a b K t2 4 (w + 2) (w + 2) (w + 2)) B false (w + 2) ∧ Kf S h H :=
  unify_run (i := 5) (j := 4) hs (by simp [st6]) (by simp [st6]) (by simp [st6]) true fun h1 M c T g z1 z2 z3 z4 =>
    un_var z1 (i := 5) (j := 4) (by omega) rfl rfl rfl rfl rfl z3 z4 true fun h2 y1 y2 => by
      have hK2 : hget h2 K = .arr 1 [.int 3, .int 0] 0 := (z2.trans y2).2 K _ hK (by simp) hKS (by simp)
      refine become_yes y1 (by omega) (v := 5) rfl 4 (ns' := st6 a b K t2 5 (w + 1) (w + 1) (w + 1)) (ns'' := st6 a b K t2 5 (w + 2) (w + 2) (w + 2)) ?_ ?_ rfl
      · have e1 := WK.yes (Q := KY h2 S) (F := fun i => mayIn (5 : Nat) a i) (G := fun _ n => n) (w := w + 1) (ns := st6 a b K t2 5 (w + 1) m3 (w + 1)) (st := []) (kl := []) (i := 3) (by simp) (by simp) rfl rfl (by dsimp only; omega) (may_free _ _ _ _ (by simp [mkN]) (by omega)) (.inl ⟨rfl, rfl⟩) .done
        have e0 := WK.yes (Q := KY h2 S) (F := fun i => mayIn (5 : Nat) a i) (G := fun _ n => n) (w := w + 1) (ns := st6 a b K t2 5 m0 m3 (w + 1)) (st := [3]) (kl := []) (i := 0) (by simp) (by simp) rfl rfl (by dsimp only; omega) (by rw [may_rigid _ _ _ _ rfl (by omega)]; exact decide_eq_true hab) (.inl ⟨rfl, rfl⟩) e1
        have := WK.yes (Q := KY h2 S) (F := fun i => mayIn (5 : Nat) a i) (G := fun _ n => n) (w := w + 1) (ns := st6 a b K t2 5 m0 m3 m4) (st := []) (kl := [3, 0]) (i := 4) (by simp) (by simp) rfl rfl (by dsimp only; omega) (may_free _ _ _ _ (by simp [mkN]) (by omega)) (.inr ⟨K, 0, rfl, hK2, hKS⟩) e0
        exact this
      · have hl : lowN a (mkN (w + 2) ⟨1, [], [], .slc true [], a, 3, w + 1⟩) = ⟨1, [], [], .slc true [], a, 3, w + 2⟩ := by
          unfold lowN mkN; simp
        have e1 := WK.yes (Q := KY h2 S) (F := fun _ _ => true) (G := fun _ => lowN a) (w := w + 2) (ns := st6 a b K t2 5 (w + 2) (w + 1) (w + 2)) (ns' := st6 a b K t2 5 (w + 2) (w + 2) (w + 2)) (st := []) (kl := []) (i := 3) (r := true) (by simp) (by simp) rfl rfl (by dsimp only; omega) rfl (.inl ⟨rfl, rfl⟩) (by rw [hl]; exact .done)
        have e0 := WK.yes (Q := KY h2 S) (F := fun _ _ => true) (G := fun _ => lowN a) (w := w + 2) (ns := st6 a b K t2 5 (w + 1) (w + 1) (w + 2)) (st := [3]) (kl := []) (i := 0) (by simp) (by simp) rfl rfl (by dsimp only; omega) rfl (.inl ⟨rfl, rfl⟩) e1
        have := WK.yes (Q := KY h2 S) (F := fun _ _ => true) (G := fun _ => lowN a) (w := w + 2) (ns := st6 a b K t2 5 (w + 1) (w + 1) (w + 1)) (st := []) (kl := [3, 0]) (i := 4) (by simp) (by simp) rfl rfl (by dsimp only; omega) rfl (.inr ⟨K, 0, rfl, hK2, hKS⟩) e0
        exact this
/-- A variable never takes a pair that it lies in. -/
theorem u_in (hs : SP h S (st6 a b K t2 t5 m0 m3 m4) B false w) (hK : hget h K = .arr 1 [.int 3, .int 0] 0) (hKS : K ≠ S) (hw : 0 ≤ w ∧ w ≤ 1000) (h0 : m0 ≤ w) (h3 : m3 ≤ w) (h4 : m4 ≤ w) : ∃ H ns', doCall md (aval Tryd.prog md fg) 29 [.ptr S 0, .int 3, .int 4] h = some (.val (.bool false), H) ∧ SP H S ns' B false (w + 1) ∧ Kf S h H := by
  by_cases hab : b ≤ a
  · obtain ⟨H, x⟩ : ∃ H, doCall md (aval Tryd.prog md fg) 29 [.ptr S 0, .int 3, .int 4] h = some (.val (.bool false), H) ∧ SP H S (st6 a b K t2 t5 (w + 1) (w + 1) (w + 1)) B false (w + 1) ∧ Kf S h H :=
      unify_run (i := 3) (j := 4) hs (by simp [st6]) (by simp [st6]) (by simp [st6]) false fun h1 M c T g z1 z2 z3 z4 =>
        un_var z1 (i := 3) (j := 4) (by omega) rfl rfl rfl rfl rfl z3 z4 false fun h2 y1 y2 => by
          have hK2 : hget h2 K = .arr 1 [.int 3, .int 0] 0 := (z2.trans y2).2 K _ hK (by simp) hKS (by simp)
          refine become_no y1 (by omega) (v := 3) rfl 4 ?_
          have e1 := WK.no (Q := KY h2 S) (F := fun i => mayIn (3 : Nat) a i) (G := fun _ n => n) (w := w + 1) (ns := st6 a b K t2 t5 (w + 1) m3 (w + 1)) (st := []) (i := 3) (by simp) rfl rfl (by dsimp only; omega) (may_self _ _ _)
          have e0 := WK.yes (Q := KY h2 S) (F := fun i => mayIn (3 : Nat) a i) (G := fun _ n => n) (w := w + 1) (ns := st6 a b K t2 t5 m0 m3 (w + 1)) (st := [3]) (kl := []) (i := 0) (by simp) (by simp) rfl rfl (by dsimp only; omega) (by rw [may_rigid _ _ _ _ rfl (by omega)]; exact decide_eq_true hab) (.inl ⟨rfl, rfl⟩) e1
          have := WK.yes (Q := KY h2 S) (F := fun i => mayIn (3 : Nat) a i) (G := fun _ n => n) (w := w + 1) (ns := st6 a b K t2 t5 m0 m3 m4) (st := []) (kl := [3, 0]) (i := 4) (by simp) (by simp) rfl rfl (by dsimp only; omega) (may_free _ _ _ _ (by simp [mkN]) (by omega)) (.inr ⟨K, 0, rfl, hK2, hKS⟩) e0
          exact this
    exact ⟨H, _, x⟩
  · obtain ⟨H, x⟩ : ∃ H, doCall md (aval Tryd.prog md fg) 29 [.ptr S 0, .int 3, .int 4] h = some (.val (.bool false), H) ∧ SP H S (st6 a b K t2 t5 (w + 1) m3 (w + 1)) B false (w + 1) ∧ Kf S h H :=
      unify_run (i := 3) (j := 4) hs (by simp [st6]) (by simp [st6]) (by simp [st6]) false fun h1 M c T g z1 z2 z3 z4 =>
        un_var z1 (i := 3) (j := 4) (by omega) rfl rfl rfl rfl rfl z3 z4 false fun h2 y1 y2 => by
          have hK2 : hget h2 K = .arr 1 [.int 3, .int 0] 0 := (z2.trans y2).2 K _ hK (by simp) hKS (by simp)
          refine become_no y1 (by omega) (v := 3) rfl 4 ?_
          have e0 := WK.no (Q := KY h2 S) (F := fun i => mayIn (3 : Nat) a i) (G := fun _ n => n) (w := w + 1) (ns := st6 a b K t2 t5 m0 m3 (w + 1)) (st := [3]) (i := 0) (by simp) rfl rfl (by dsimp only; omega) (by rw [may_rigid _ _ _ _ rfl (by omega)]; exact decide_eq_false hab)
          have := WK.yes (Q := KY h2 S) (F := fun i => mayIn (3 : Nat) a i) (G := fun _ n => n) (w := w + 1) (ns := st6 a b K t2 t5 m0 m3 m4) (st := []) (kl := [3, 0]) (i := 4) (by simp) (by simp) rfl rfl (by dsimp only; omega) (may_free _ _ _ _ (by simp [mkN]) (by omega)) (.inr ⟨K, 0, rfl, hK2, hKS⟩) e0
          exact this
    exact ⟨H, _, x⟩
end
end Go.Proofs.YtncjbccjpneoiaaDoor
namespace Go.Proofs.YtncjbccjpneoiaaDoor
open Go Go.Ab Go.Proofs
set_option maxRecDepth 100000
set_option linter.unusedSimpArgs false
set_option linter.unusedVariables false
set_option maxHeartbeats 8000000
theorem b_loop (B : Int) (h0 : 0 ≤ B) (hB : B ≤ 20) (S : Nat) : ∀ (k i : Nat) (h : AHeap) (ns : List Nd) (fl : Bool), i + k = 25 → SP h S ns B fl 0 → ((fl = false ∧ ns.length = i ∧ (i : Int) ≤ B) ∨ (fl = true ∧ B < (i : Int))) →
    ∃ H ns', lrun Tryd.prog md fg (fg 8) (loopOf Tryd.f8 0) (fg 8 1) ((.unk :: .unk :: (.int B) :: .unk :: .unk :: .unk :: (.val (.bool false)) :: .unk :: .unk :: .unk :: .unk :: .unk :: .unk :: .unk :: (.ptr S 0) :: (.int i) :: .unk :: .unk :: .unk :: .unk :: .unk :: .unk :: .unk :: .unk :: .unk :: .unk :: .unk :: .unk :: .unk :: .unk :: .unk :: .unk :: .unk :: .unk :: .unk :: .unk :: .unk :: .unk :: .unk :: .unk :: .unk :: .unk :: .unk :: .unk :: .unk :: .unk :: .unk :: .unk :: .unk :: .unk :: .unk :: .unk :: .unk :: .unk :: .unk :: .unk :: .unk :: .unk :: .unk :: .unk :: .unk :: .unk :: .unk :: .unk :: .unk :: .unk :: .unk :: .unk :: .unk :: .unk :: .unk :: .unk :: .unk :: .unk :: .unk :: .unk :: .unk :: .unk :: .unk :: .unk :: .unk :: .unk :: .unk :: .unk :: .unk :: .unk :: .unk :: .unk :: .unk :: .unk :: .unk :: .unk :: .unk :: .unk :: .unk :: .unk :: .unk :: .unk :: .unk :: .unk :: .unk :: .unk :: .unk :: .unk :: .unk :: .unk :: .unk :: .unk :: .unk :: .unk :: .unk :: .unk :: .unk :: .unk :: .unk :: .unk :: .unk :: .unk :: .unk :: .unk :: .unk :: .unk :: .unk :: .unk :: .unk :: .unk :: .unk :: .unk :: .unk :: .unk :: .unk :: .unk :: .unk :: .unk :: .unk :: .unk :: .unk :: .unk :: .unk :: .unk :: .unk :: .unk :: .unk :: .unk :: .unk :: .unk :: .unk :: .unk :: [] : List AV)) h = some (.exit 0, (.unk :: .unk :: (.int B) :: .unk :: .unk :: .unk :: (.val (.bool false)) :: .unk :: .unk :: .unk :: .unk :: .unk :: .unk :: .unk :: (.ptr S 0) :: (.int 25) :: .unk :: .unk :: .unk :: .unk :: .unk :: .unk :: .unk :: .unk :: .unk :: .unk :: .unk :: .unk :: .unk :: .unk :: .unk :: .unk :: .unk :: .unk :: .unk :: .unk :: .unk :: .unk :: .unk :: .unk :: .unk :: .unk :: .unk :: .unk :: .unk :: .unk :: .unk :: .unk :: .unk :: .unk :: .unk :: .unk :: .unk :: .unk :: .unk :: .unk :: .unk :: .unk :: .unk :: .unk :: .unk :: .unk :: .unk :: .unk :: .unk :: .unk :: .unk :: .unk :: .unk :: .unk :: .unk :: .unk :: .unk :: .unk :: .unk :: .unk :: .unk :: .unk :: .unk :: .unk :: .unk :: .unk :: .unk :: .unk :: .unk :: .unk :: .unk :: .unk :: .unk :: .unk :: .unk :: .unk :: .unk :: .unk :: .unk :: .unk :: .unk :: .unk :: .unk :: .unk :: .unk :: .unk :: .unk :: .unk :: .unk :: .unk :: .unk :: .unk :: .unk :: .unk :: .unk :: .unk :: .unk :: .unk :: .unk :: .unk :: .unk :: .unk :: .unk :: .unk :: .unk :: .unk :: .unk :: .unk :: .unk :: .unk :: .unk :: .unk :: .unk :: .unk :: .unk :: .unk :: .unk :: .unk :: .unk :: .unk :: .unk :: .unk :: .unk :: .unk :: .unk :: .unk :: .unk :: .unk :: .unk :: .unk :: .unk :: .unk :: [] : List AV), H) ∧ SP H S ns' B true 0 ∧ Kf S h H
  | 0, i, h, ns, fl, hi, hs, hc => by
    have : i = 25 := by omega
    subst this
    rcases hc with ⟨_, _, hc⟩ | ⟨rfl, _⟩
    · omega
    refine ⟨h, ns, ?_, hs, Kf.refl _ _⟩
    rw [lrun_atC loop8_0]
    simp (implicitDefEqProofs := false) (disch := omega) only [go_sem, Nat.reduceAdd, Nat.reduceSub, Nat.reduceMul, Nat.reduceLT, Nat.reduceLeDiff, Nat.reduceEqDiff, List.drop_zero, List.take_succ_cons, List.take_zero, List.drop_succ_cons, Bool.and_true, Bool.true_and, Bool.and_false, Bool.false_and, BitVec.reduceOfInt, Nat.zero_add, Nat.mul_one, Nat.add_zero, Int.zero_add, Int.reduceToNat, Nat.reducePow, ↓reduceIte, reduceCtorEq, Int.reduceLE, Int.reduceLT, Int.reduceEq, Int.reduceNe, Int.reduceAdd, Int.reduceSub, Int.reduceMul, Int.reduceNeg, Nat.reduceBEq, show regOf Tryd.f8 11 = Code.region _ _ _ from rfl]
    rfl
  | k + 1, i, h, ns, fl, hi, hs, hc => by
    have hlt : ((i : Int) < 25) = True := by simp; omega
    rcases hc with ⟨rfl, hn, hc⟩ | ⟨rfl, hc⟩
    · subst hn
      by_cases hb : (ns.length : Int) < B
      · have hb2 : ¬ B ≤ (ns.length : Int) := by omega
        obtain ⟨H, c1, c2, c3⟩ := var_c hs hb (by omega) 0
        have cf := full_c c2
        obtain ⟨H2, ns', e1, e2, e3⟩ := b_loop B h0 hB S k (ns.length + 1) H _ false (by omega) c2 (.inl ⟨rfl, by simp, by omega⟩)
        refine ⟨H2, ns', ?_, e2, c3.trans e3⟩
        rw [← e1]
        rw [lrun_atC loop8_0]
        simp (implicitDefEqProofs := false) (disch := omega) only [go_sem, Nat.reduceAdd, Nat.reduceSub, Nat.reduceMul, Nat.reduceLT, Nat.reduceLeDiff, Nat.reduceEqDiff, List.drop_zero, List.take_succ_cons, List.take_zero, List.drop_succ_cons, Bool.and_true, Bool.true_and, Bool.and_false, Bool.false_and, BitVec.reduceOfInt, Nat.zero_add, Nat.mul_one, Nat.add_zero, Int.zero_add, Int.reduceToNat, Nat.reducePow, ↓reduceIte, reduceCtorEq, Int.reduceLE, Int.reduceLT, Int.reduceEq, Int.reduceNe, Int.reduceAdd, Int.reduceSub, Int.reduceMul, Int.reduceNeg, Nat.reduceBEq, show regOf Tryd.f8 11 = Code.region _ _ _ from rfl, show regOf Tryd.f8 13 = Code.region _ _ _ from rfl, show regOf Tryd.f8 14 = Code.region _ _ _ from rfl, show regOf Tryd.f8 12 = Code.region _ _ _ from rfl, hlt, hb, hb2, c1, cf]
        all_goals (congr 1 <;> simp only [List.cons.injEq, AV.val.injEq, Value.int.injEq, Value.bool.injEq, true_and, and_true] <;> omega)
      · have hb2 : B ≤ (ns.length : Int) := by omega
        obtain ⟨H, c1, c2, c3⟩ := var_over hs hb2 0
        have cf := full_c c2
        obtain ⟨H2, ns', e1, e2, e3⟩ := b_loop B h0 hB S k (ns.length + 1) H _ true (by omega) c2 (.inr ⟨rfl, by omega⟩)
        refine ⟨H2, ns', ?_, e2, c3.trans e3⟩
        rw [← e1]
        rw [lrun_atC loop8_0]
        simp (implicitDefEqProofs := false) (disch := omega) only [go_sem, Nat.reduceAdd, Nat.reduceSub, Nat.reduceMul, Nat.reduceLT, Nat.reduceLeDiff, Nat.reduceEqDiff, List.drop_zero, List.take_succ_cons, List.take_zero, List.drop_succ_cons, Bool.and_true, Bool.true_and, Bool.and_false, Bool.false_and, BitVec.reduceOfInt, Nat.zero_add, Nat.mul_one, Nat.add_zero, Int.zero_add, Int.reduceToNat, Nat.reducePow, ↓reduceIte, reduceCtorEq, Int.reduceLE, Int.reduceLT, Int.reduceEq, Int.reduceNe, Int.reduceAdd, Int.reduceSub, Int.reduceMul, Int.reduceNeg, Nat.reduceBEq, show regOf Tryd.f8 11 = Code.region _ _ _ from rfl, show regOf Tryd.f8 13 = Code.region _ _ _ from rfl, show regOf Tryd.f8 14 = Code.region _ _ _ from rfl, show regOf Tryd.f8 12 = Code.region _ _ _ from rfl, hlt, hb, hb2, c1, cf]
        all_goals (congr 1 <;> simp only [List.cons.injEq, AV.val.injEq, Value.int.injEq, Value.bool.injEq, true_and, and_true] <;> omega)
    · have hb2 : B ≤ (i : Int) := by omega
      have hb : ¬ (i : Int) < B := by omega
      have c1 := var_full hs 0
      have cf := full_c hs
      obtain ⟨H2, ns', e1, e2, e3⟩ := b_loop B h0 hB S k (i + 1) h _ true (by omega) hs (.inr ⟨rfl, by omega⟩)
      refine ⟨H2, ns', ?_, e2, e3⟩
      rw [← e1]
      rw [lrun_atC loop8_0]
      simp (implicitDefEqProofs := false) (disch := omega) only [go_sem, Nat.reduceAdd, Nat.reduceSub, Nat.reduceMul, Nat.reduceLT, Nat.reduceLeDiff, Nat.reduceEqDiff, List.drop_zero, List.take_succ_cons, List.take_zero, List.drop_succ_cons, Bool.and_true, Bool.true_and, Bool.and_false, Bool.false_and, BitVec.reduceOfInt, Nat.zero_add, Nat.mul_one, Nat.add_zero, Int.zero_add, Int.reduceToNat, Nat.reducePow, ↓reduceIte, reduceCtorEq, Int.reduceLE, Int.reduceLT, Int.reduceEq, Int.reduceNe, Int.reduceAdd, Int.reduceSub, Int.reduceMul, Int.reduceNeg, Nat.reduceBEq, show regOf Tryd.f8 11 = Code.region _ _ _ from rfl, show regOf Tryd.f8 13 = Code.region _ _ _ from rfl, show regOf Tryd.f8 14 = Code.region _ _ _ from rfl, show regOf Tryd.f8 12 = Code.region _ _ _ from rfl, hlt, hb, hb2, c1, cf]
      all_goals (congr 1 <;> simp only [List.cons.injEq, AV.val.injEq, Value.int.injEq, Value.bool.injEq, true_and, and_true] <;> omega)
end Go.Proofs.YtncjbccjpneoiaaDoor
namespace Go.Proofs.YtncjbccjpneoiaaDoor
open Go Go.Ab Go.Proofs
set_option maxRecDepth 100000
theorem alive_p : pcall Tryd.prog md fg 10 [] = some (.bool true) := pcall_strue okKnown 200 (by decide +kernel)
theorem alive_c (h : AHeap) : doCall md (aval Tryd.prog md fg) 10 [] h = some (.val (.bool true), h) := doCall_pure md10 rfl alive_p
end Go.Proofs.YtncjbccjpneoiaaDoor
namespace Go.Proofs.YtncjbccjpneoiaaDoor
open Go Go.Ab Go.Proofs
set_option maxRecDepth 100000
set_option linter.unusedSimpArgs false
set_option linter.unusedVariables false
theorem rem_u (n : Int) : ∃ r : Int, (n.tmod 21 + 21).tmod 21 = r ∧ -21 < n.tmod 21 ∧ n.tmod 21 < 21 ∧ 0 ≤ r ∧ r ≤ 20 := by
  have h : -21 < n.tmod 21 ∧ n.tmod 21 < 21 := by
    by_cases h0 : 0 ≤ n
    · rw [Int.tmod_eq_emod_of_nonneg h0]; omega
    · obtain ⟨m, rfl⟩ : ∃ m, n = -m := ⟨-n, by omega⟩
      rw [Int.neg_tmod, Int.tmod_eq_emod_of_nonneg (by omega)]; omega
  refine ⟨(n.tmod 21 + 21).tmod 21, rfl, h.1, h.2, ?_⟩
  rw [Int.tmod_eq_emod_of_nonneg (by omega)]
  omega
theorem rem21 (x : Int) : abin Tryd.prog .rem 3 (.int x) (.val (.int .i64 21)) = some (.int (x.tmod 21)) := abin_rem _ _ _ _ (by decide)
theorem rem1000 (x : Int) : abin Tryd.prog .rem 3 (.int x) (.val (.int .i64 1000)) = some (.int (x.tmod 1000)) := abin_rem _ _ _ _ (by decide)
set_option maxHeartbeats 16000000 in
/-- The law up to its five unifications. -/
theorem uses (a b : Int) : ∃ S H1 H2 H3 H4 H5 H6 H7 H8 H9 H10 H11 H12,
    doCall md (aval Tryd.prog md fg) 25 [.int 100] [] = some (.ptr S 0, H1) ∧
    doCall md (aval Tryd.prog md fg) 26 [.ptr S 0, .int b] H1 = some (.int 0, H2) ∧
    doCall md (aval Tryd.prog md fg) 26 [.ptr S 0, .int b] H2 = some (.int 1, H3) ∧
    doCall md (aval Tryd.prog md fg) 27 [.ptr S 0, .int a] H3 = some (.int 2, H4) ∧
    doCall md (aval Tryd.prog md fg) 27 [.ptr S 0, .int a] H4 = some (.int 3, H5) ∧
    doCall md (aval Tryd.prog md fg) 28 [.ptr S 0, .int 3, .str (txt []), .str (txt []), .arr H5.length 0 2 0 1] (H5 ++ [.arr 1 [.int 3, .int 0] 0]) = some (.int 4, H6) ∧
    doCall md (aval Tryd.prog md fg) 27 [.ptr S 0, .int a] H6 = some (.int 5, H7) ∧
    doCall md (aval Tryd.prog md fg) 29 [.ptr S 0, .int 0, .int 1] H7 = some (.val (.bool false), H8) ∧
    doCall md (aval Tryd.prog md fg) 29 [.ptr S 0, .int 0, .int 0] H8 = some (.val (.bool true), H9) ∧
    doCall md (aval Tryd.prog md fg) 29 [.ptr S 0, .int 2, .int 0] H9 = some (.val (.bool (decide (b ≤ a))), H10) ∧
    doCall md (aval Tryd.prog md fg) 29 [.ptr S 0, .int 5, .int 4] H10 = some (.val (.bool (decide (b ≤ a))), H11) ∧
    doCall md (aval Tryd.prog md fg) 29 [.ptr S 0, .int 3, .int 4] H11 = some (.val (.bool false), H12) := by
  obtain ⟨H1, c1, s1, _⟩ := new_c 100 (by omega) (by omega) []
  obtain ⟨H2, c2, s2, k2⟩ := rigid_c s1 (by simp) (by omega) b
  obtain ⟨H3, c3, s3, k3⟩ := rigid_c s2 (by simp) (by omega) b
  obtain ⟨H4, c4, s4, k4⟩ := var_c s3 (by simp) (by omega) a
  obtain ⟨H5, c5, s5, k5⟩ := var_c s4 (by simp) (by omega) a
  obtain ⟨H6, K, c6, s6, hK, hKS, k6⟩ := make_c (sp_app s5 [.arr 1 [.int 3, .int 0] 0]) (by simp) (by omega) 3 [] [] (k := H5.length) (g := 0) (l := [3, 0]) hget_last (by simp) (by simp) rfl
  obtain ⟨H7, c7, s7, k7⟩ := var_c s6 (by simp) (by omega) a
  have s7 : SP H7 ([] : AHeap).length (st6 a b K 2 5 0 0 0) 100 false 0 := s7
  have hK7 : hget H7 K = .arr 1 [.int 3, .int 0] 0 := k7.2 K _ hK (by simp) hKS (by simp)
  obtain ⟨H8, c8, s8, k8⟩ := u_rr s7
  obtain ⟨H9, c9, s9, k9⟩ := u_r s8
  have hK9 : hget H9 K = .arr 1 [.int 3, .int 0] 0 := (k8.trans k9).2 K _ hK7 (by simp) hKS (by simp)
  by_cases hab : b ≤ a
  · obtain ⟨H10, c10, s10, k10⟩ := u_vr_yes s9 (by omega) (by omega) hab
    have hK10 : hget H10 K = .arr 1 [.int 3, .int 0] 0 := k10.2 K _ hK9 (by simp) hKS (by simp)
    obtain ⟨H11, c11, s11, k11⟩ := u_wf_yes s10 hK10 hKS (by omega) (by omega) (by omega) (by omega) hab
    have hK11 : hget H11 K = .arr 1 [.int 3, .int 0] 0 := k11.2 K _ hK10 (by simp) hKS (by simp)
    obtain ⟨H12, ns', c12, s12, k12⟩ := u_in s11 hK11 hKS (by omega) (by omega) (by omega) (by omega)
    rw [decide_eq_true hab]
    exact ⟨_, H1, H2, H3, H4, H5, H6, H7, H8, H9, H10, H11, H12, c1, c2, c3, c4, c5, c6, c7, c8, c9, c10, c11, c12⟩
  · obtain ⟨H10, c10, s10, k10⟩ := u_vr_no s9 (by omega) (by omega) hab
    have hK10 : hget H10 K = .arr 1 [.int 3, .int 0] 0 := k10.2 K _ hK9 (by simp) hKS (by simp)
    obtain ⟨H11, c11, s11, k11⟩ := u_wf_no s10 hK10 hKS (by omega) (by omega) (by omega) (by omega) hab
    have hK11 : hget H11 K = .arr 1 [.int 3, .int 0] 0 := k11.2 K _ hK10 (by simp) hKS (by simp)
    obtain ⟨H12, ns', c12, s12, k12⟩ := u_in s11 hK11 hKS (by omega) (by omega) (by omega) (by omega)
    rw [decide_eq_false hab]
    exact ⟨_, H1, H2, H3, H4, H5, H6, H7, H8, H9, H10, H11, H12, c1, c2, c3, c4, c5, c6, c7, c8, c9, c10, c11, c12⟩
set_option maxHeartbeats 16000000 in
theorem unifyRigid (x y z : Int) : pcall Tryd.prog md fg 8 [.int x, .int y, .int z] = some (.val (.bool true)) := by
  obtain ⟨B, hB, q1, q2, r1, r2⟩ := rem_u z
  obtain ⟨S, H1, H2, H3, H4, H5, H6, H7, H8, H9, H10, H11, H12, c1, c2, c3, c4, c5, c6, c7, c8, c9, c10, c11, c12⟩ := uses (x.tmod 1000) (y.tmod 1000)
  obtain ⟨G1, d1, d2, _⟩ := new_c B r1 (by omega) H12
  obtain ⟨G2, ns', e1, e2, e3⟩ := b_loop B r1 r2 H12.length 25 0 G1 [] false (by omega) d2 (.inl ⟨rfl, rfl, by omega⟩)
  simp only [Int.natCast_zero] at e1
  have t1 := term_full e2 0
  have e4 := fun l => sp_app e2 l
  have u1 := fun l => unify_full (e4 l) 0 0
  have u2 := fun h => unify_none h 0 0
  have v1 := fun h => var_none h 0
  have c6 : doCall md (aval Tryd.prog md fg) 28 [.ptr S 0, .int 3, .val (.string ⟨#[]⟩), .val (.string ⟨#[]⟩), .arr H5.length 0 2 0 1] (H5 ++ [.arr 1 [.int 3, .int 0] 0]) = some (.int 4, H6) := c6
  have e : ∃ h, aval Tryd.prog md fg 8 [.int x, .int y, .int z] [] = some (.val (.bool true), h) := by
    by_cases hab : y.tmod 1000 ≤ x.tmod 1000
    · rw [decide_eq_true hab] at c10 c11
      rw [aval_of Tryd.func8 body8 Tryd.results8 Tryd.ntmps8 ok8]
      simp (implicitDefEqProofs := false) (disch := first | omega | exact List.length_set) only [go_sem, Nat.reduceAdd, Nat.reduceSub, Nat.reduceMul, Nat.reduceLT, Nat.reduceLeDiff, Nat.reduceEqDiff, List.drop_zero, List.take_succ_cons, List.take_zero, List.drop_succ_cons, Bool.and_true, Bool.true_and, Bool.and_false, Bool.false_and, BitVec.reduceOfInt, Nat.zero_add, Nat.mul_one, Nat.add_zero, Int.zero_add, Int.reduceToNat, Nat.reducePow, ↓reduceIte, reduceCtorEq, Int.reduceLE, Int.reduceLT, Int.reduceEq, Int.reduceNe, Int.reduceAdd, Int.reduceSub, Int.reduceMul, Int.reduceNeg, Nat.reduceBEq, show regOf Tryd.f8 0 = Code.region _ _ _ from rfl, show regOf Tryd.f8 1 = Code.region _ _ _ from rfl, show regOf Tryd.f8 2 = Code.region _ _ _ from rfl, show regOf Tryd.f8 3 = Code.region _ _ _ from rfl, show regOf Tryd.f8 4 = Code.region _ _ _ from rfl, show regOf Tryd.f8 5 = Code.region _ _ _ from rfl, show regOf Tryd.f8 6 = Code.region _ _ _ from rfl, show regOf Tryd.f8 7 = Code.region _ _ _ from rfl, show regOf Tryd.f8 9 = Code.region _ _ _ from rfl, show regOf Tryd.f8 10 = Code.region _ _ _ from rfl, show regOf Tryd.f8 16 = Code.region _ _ _ from rfl, show regOf Tryd.f8 17 = Code.region _ _ _ from rfl, show regOf Tryd.f8 18 = Code.region _ _ _ from rfl, rem21, rem1000, hB, hab, c1, c2, c3, c4, c5, c6, c7, c8, c9, c10, c11, c12, d1, e1, t1, u1, u2, v1, full_nil, alive_c, hget_last, set_last]
      exact ⟨_, rfl⟩
    · rw [decide_eq_false hab] at c10 c11
      rw [aval_of Tryd.func8 body8 Tryd.results8 Tryd.ntmps8 ok8]
      simp (implicitDefEqProofs := false) (disch := first | omega | exact List.length_set) only [go_sem, Nat.reduceAdd, Nat.reduceSub, Nat.reduceMul, Nat.reduceLT, Nat.reduceLeDiff, Nat.reduceEqDiff, List.drop_zero, List.take_succ_cons, List.take_zero, List.drop_succ_cons, Bool.and_true, Bool.true_and, Bool.and_false, Bool.false_and, BitVec.reduceOfInt, Nat.zero_add, Nat.mul_one, Nat.add_zero, Int.zero_add, Int.reduceToNat, Nat.reducePow, ↓reduceIte, reduceCtorEq, Int.reduceLE, Int.reduceLT, Int.reduceEq, Int.reduceNe, Int.reduceAdd, Int.reduceSub, Int.reduceMul, Int.reduceNeg, Nat.reduceBEq, show regOf Tryd.f8 0 = Code.region _ _ _ from rfl, show regOf Tryd.f8 1 = Code.region _ _ _ from rfl, show regOf Tryd.f8 2 = Code.region _ _ _ from rfl, show regOf Tryd.f8 3 = Code.region _ _ _ from rfl, show regOf Tryd.f8 4 = Code.region _ _ _ from rfl, show regOf Tryd.f8 5 = Code.region _ _ _ from rfl, show regOf Tryd.f8 6 = Code.region _ _ _ from rfl, show regOf Tryd.f8 7 = Code.region _ _ _ from rfl, show regOf Tryd.f8 9 = Code.region _ _ _ from rfl, show regOf Tryd.f8 10 = Code.region _ _ _ from rfl, show regOf Tryd.f8 16 = Code.region _ _ _ from rfl, show regOf Tryd.f8 17 = Code.region _ _ _ from rfl, show regOf Tryd.f8 18 = Code.region _ _ _ from rfl, rem21, rem1000, hB, hab, c1, c2, c3, c4, c5, c6, c7, c8, c9, c10, c11, c12, d1, e1, t1, u1, u2, v1, full_nil, alive_c, hget_last, set_last]
      exact ⟨_, rfl⟩
  obtain ⟨h, e⟩ := e
  rw [pcall_eq, e, pureRes_solid rfl]
end Go.Proofs.YtncjbccjpneoiaaDoor
namespace Go.Proofs.YtncjbccjpneoiaaDoor
open Go Go.Ab Go.Proofs Go.RowKit Go.ChangeShapes Go.WideShapes
set_option maxRecDepth 100000
theorem own : ownKnob Tryd.prog.godebug = none := by kernel_rfl
theorem laidOut : laidOutB Tryd.prog = true := by kernel_rfl
theorem mixed : Tryd.prog.follows .mixedOrders = true := by kernel_rfl
theorem undInt : Tryd.prog.underlying 3 = some (.int .i64) := by kernel_rfl
theorem WT_i64 {n t : Nat} {a : AV} (ht : Tryd.prog.underlying t = some (.int .i64)) (h : WT Tryd.prog n t a) : ∃ x, a = .int x ∧ -9223372036854775808 ≤ x ∧ x ≤ 9223372036854775807 := by
  cases n with
  | zero => exact h.elim
  | succ n =>
    unfold WT at h; rw [ht] at h
    obtain ⟨x, rfl, hw⟩ := h
    have hw' : (decide (-9223372036854775808 ≤ x) && decide (x ≤ 9223372036854775807)) = true := hw
    simp only [Bool.and_eq_true, decide_eq_true_eq] at hw'
    exact ⟨x, rfl, hw'⟩
end Go.Proofs.YtncjbccjpneoiaaDoor
