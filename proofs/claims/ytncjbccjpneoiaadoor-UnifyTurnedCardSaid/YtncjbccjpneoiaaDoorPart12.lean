/- Parts of the proof, each with its own heading: Unify: a round of its loop. Unify: its loop, and as a whole. Unify as a whole, in general. Making nodes: what a call by reference keeps. Making nodes: variables, types of others. Import: what it makes, in plain words. Same, Size (turned from chapter 11). -/
import Derived.Test.YtncjbccjpneoiaaDoorPart11
set_option linter.unusedSimpArgs false
set_option linter.unusedVariables false
namespace Go.Proofs.YtncjbccjpneoiaaDoor
open Go Go.Ab Go.Proofs
set_option maxRecDepth 100000
set_option linter.unusedSimpArgs false
set_option linter.unusedVariables false
def Ku (S M T : Nat) (h H : AHeap) : Prop := h.length ≤ H.length ∧ ∀ j o, hget h j = o → o ≠ .dead → j ≠ S → j ≠ M → j ≠ T → (∀ b c, o ≠ .arr 7 b c) → hget H j = o
theorem Ku.refl (S M T : Nat) (h : AHeap) : Ku S M T h h := ⟨Nat.le_refl _, fun _ _ e _ _ _ _ _ => e⟩
theorem Ku.trans {S M T : Nat} {a b c : AHeap} (x : Ku S M T a b) (y : Ku S M T b c) : Ku S M T a c := ⟨Nat.le_trans x.1 y.1, fun j o e h1 h2 h3 h4 h5 => y.2 j o (x.2 j o e h1 h2 h3 h4 h5) h1 h2 h3 h4 h5⟩
theorem Kf.ku {S : Nat} {a b : AHeap} (M T : Nat) (x : Kf S a b) : Ku S M T a b := ⟨x.1, fun j o e h1 h2 _ _ h4 => x.2 j o e h1 h2 h4⟩
theorem Kw.ku {S T : Nat} {a b : AHeap} (M : Nat) (x : Kw S T a b) : Ku S M T a b := ⟨x.1, fun j o e h1 h2 _ h4 h5 => x.2 j o e h1 h2 h4 h5⟩
theorem KB.ku {h H : AHeap} {S B M T : Nat} (hM : B ≤ M) (hT : B ≤ T) (k : Ku S M T h H) {v : AV} {kl : List Int} (x : KB h S B v kl) : KB H S B v kl := by
  rcases x with x | ⟨K, g, e1, e2, e3, e4⟩
  · exact .inl x
  · exact .inr ⟨K, g, e1, k.2 K _ e2 (by simp) e3 (by omega) (by omega) (by simp), e3, e4⟩
theorem NR.ku {h H : AHeap} {S B M T : Nat} (hM : B ≤ M) (hT : B ≤ T) (k : Ku S M T h H) {sh : List Sh} {rt r : Nat → Nat} {vis : Nat → Bool} {w : Int} {ns : List Nd} (x : NR h S B sh rt r vis w ns) : NR H S B sh rt r vis w ns :=
  ⟨x.1, fun i n s h1 h2 => by
    have y := x.2 i n s h1 h2
    exact ⟨y.kind, y.pkg, y.name, y.kids.ku hM hT k, y.to, y.mark, y.le⟩⟩
def keys (one : List (Nat × Nat)) : Nat → Bool := fun i => one.any fun p => p.1 == i
theorem keys_add (one : List (Nat × Nat)) (x y : Nat) : keys (one ++ [(x, y)]) = upd (keys one) x := by
  funext i
  unfold keys upd
  rw [List.any_append]
  by_cases h : i = x
  · subst h; simp
  · rw [if_neg h]
    have : (x == i) = false := by simpa using fun e => h e.symm
    simp [this]
theorem keys_no {one : List (Nat × Nat)} {x : Nat} (h : ∀ p ∈ one, x ≠ p.1) : keys one x = false := by
  unfold keys
  rw [List.any_eq_false]
  intro p hp e
  exact h p hp (by simpa using (beq_iff_eq.1 e).symm)
theorem prs_mset {P : NMap} {x y : Nat} (h : ∀ p ∈ prs P, x ≠ p.1) : prs (mset P x y) = prs P ++ [(x, y)] ∧ ∀ c, mset P x y = (P.1 ++ [(x, y, P.2)], c) ∨ True := by
  have : mf x P.1 0 = none := by
    have h2 : mg P x = none := by
      rw [show mg P x = mg (P.1, P.2) x from rfl, mg_og]
      have := og_skip (prs P) [] x h
      rw [List.append_nil] at this
      exact this
    unfold mg at h2
    exact Option.map_eq_none_iff.1 h2
  refine ⟨?_, fun _ => .inr trivial⟩
  unfold mset
  rw [this]
  simp [prs]
section
variable {S B M T : Nat} {b w : Int} {fl : Bool} {sh : List Sh} {rt r : Nat → Nat} {vis : Nat → Bool} {ns : List Nd} {P : NMap} {h : AHeap} {g : Nat} {todo rest : List (Nat × Nat)} {p q : Nat}
theorem two_tops (ok : Ok sh rt r) (ho : Ord (prs P)) (hp : ∀ z ∈ prs P, z.2 < sh.length ∧ rt z.2 = z.2) (hMS : M ≠ S) (hTS : T ≠ S) (hpl : p < sh.length) (hql : q < sh.length) (hs : SP h S ns b fl w) (hn : NR h S B sh rt r vis w ns) (hm : MN h M P) (hT : TP h T g (todo ++ [(p, q)] ++ rest)) :
    ∃ H1 H2 ns2, doCall md (aval Tryd.prog md fg) 46 [.ptr S 0, .int p, .mp M] (h ++ [.vars [.int p, .int q]]) = some (.int (topO (prs P) (rt p) : Nat), H1) ∧ doCall md (aval Tryd.prog md fg) 46 [.ptr S 0, .int q, .mp M] H1 = some (.int (topO (prs P) (rt q) : Nat), H2) ∧ hget H1 h.length = .vars [.int p, .int q] ∧ hget H2 h.length = .vars [.int p, .int q] ∧ SP H2 S ns2 b fl w ∧ NR H2 S B sh rt r vis w ns2 ∧ MN H2 M P ∧ TP H2 T g (todo ++ [(p, q)] ++ rest) ∧ Kf S h H2 := by
  have k0 := kf_app S h [.vars [.int (p : Int), .int (q : Int)]]
  have hSl : S < h.length := by obtain ⟨_, h1, _⟩ := hs; exact hlt_of h1 (by simp)
  obtain ⟨H1, ns1, c1, c2, c3, c4, c5⟩ := top_c2 ok ho hp hMS hpl (sp_app hs [.vars [.int (p : Int), .int (q : Int)]]) (hn.kf k0) (k0.2 M _ hm (by simp) hMS (by simp))
  obtain ⟨H2, ns2, d1, d2, d3, d4, d5⟩ := top_c2 ok ho hp hMS hql c2 c3 (c4.2 M _ (k0.2 M _ hm (by simp) hMS (by simp)) (by simp) hMS (by simp))
  have k2 := k0.trans (c4.trans d4)
  exact ⟨H1, H2, ns2, c1, d1, c4.2 _ _ hget_last (by simp) (by omega) (by simp), d4.2 _ _ (c4.2 _ _ hget_last (by simp) (by omega) (by simp)) (by simp) (by omega) (by simp), d2, d3, k2.2 M _ hm (by simp) hMS (by simp), k2.2 T _ hT (by simp) hTS (by simp), k2⟩
theorem e_last {todo rest : List (Nat × Nat)} {p q : Nat} : ((todo ++ [(p, q)] ++ rest).map prV)[todo.length]? = some (.agg [.int (p : Int), .int (q : Int)]) := by simp [prV]
set_option maxHeartbeats 8000000
variable {H1 H2 : AHeap} {x y : Nat} {a6 : AV} (htl : todo.length ≤ 100000) (hT : TP h T g (todo ++ [(p, q)] ++ rest)) (c1 : doCall md (aval Tryd.prog md fg) 46 [.ptr S 0, .int p, .mp M] (h ++ [.vars [.int p, .int q]]) = some (.int (x : Nat), H1)) (c2 : doCall md (aval Tryd.prog md fg) 46 [.ptr S 0, .int q, .mp M] H1 = some (.int (y : Nat), H2)) (c3 : hget H1 h.length = .vars [.int p, .int q]) (c4 : hget H2 h.length = .vars [.int p, .int q])
include htl hT c1 c2 c3 c4
theorem r_same (hxy : x = y) : lrun Tryd.prog md fg (fg 29) (loopOf Tryd.f29 0) (fg 29 1) (((.ptr S 0) :: .unk :: .unk :: .unk :: .unk :: .unk :: (a6) :: (.mp M) :: (.arr T 0 (todo ++ [(p, q)]).length g 2) :: .unk :: .unk :: .unk :: .unk :: .unk :: .unk :: .unk :: .unk :: .unk :: .unk :: .unk :: .unk :: .unk :: .unk :: .unk :: .unk :: .unk :: .unk :: .unk :: .unk :: .unk :: .unk :: .unk :: .unk :: .unk :: .unk :: .unk :: .unk :: .unk :: .unk :: .unk :: .unk :: .unk :: .unk :: .unk :: .unk :: .unk :: .unk :: .unk :: .unk :: .unk :: .unk :: .unk :: .unk :: .unk :: .unk :: .unk :: .unk :: .unk :: .unk :: .unk :: .unk :: .unk :: .unk :: .unk :: .unk :: .unk :: .unk :: .unk :: .unk :: .unk :: .unk :: .unk :: .unk :: .unk :: .unk :: .unk :: .unk :: .unk :: .unk :: .unk :: .unk :: .unk :: .unk :: .unk :: .unk :: .unk :: .unk :: .unk :: .unk :: .unk :: .unk :: .unk :: .unk :: .unk :: .unk :: .unk :: .unk :: .unk :: .unk :: .unk :: .unk :: .unk :: .unk :: .unk :: .unk :: .unk :: .unk :: .unk :: .unk :: .unk :: .unk :: .unk :: .unk :: .unk :: .unk :: .unk :: .unk :: .unk :: .unk :: .unk :: .unk :: .unk :: .unk :: .unk :: .unk :: .unk :: [] : List AV)) h = lrun Tryd.prog md fg (fg 29) (loopOf Tryd.f29 0) (fg 29 1) (((.ptr S 0) :: .unk :: .unk :: .unk :: .unk :: .unk :: (a6) :: (.mp M) :: (.arr T 0 todo.length g 2) :: .unk :: .unk :: .unk :: .unk :: .unk :: .unk :: .unk :: .unk :: .unk :: .unk :: .unk :: .unk :: .unk :: .unk :: .unk :: .unk :: .unk :: .unk :: .unk :: .unk :: .unk :: .unk :: .unk :: .unk :: .unk :: .unk :: .unk :: .unk :: .unk :: .unk :: .unk :: .unk :: .unk :: .unk :: .unk :: .unk :: .unk :: .unk :: .unk :: .unk :: .unk :: .unk :: .unk :: .unk :: .unk :: .unk :: .unk :: .unk :: .unk :: .unk :: .unk :: .unk :: .unk :: .unk :: .unk :: .unk :: .unk :: .unk :: .unk :: .unk :: .unk :: .unk :: .unk :: .unk :: .unk :: .unk :: .unk :: .unk :: .unk :: .unk :: .unk :: .unk :: .unk :: .unk :: .unk :: .unk :: .unk :: .unk :: .unk :: .unk :: .unk :: .unk :: .unk :: .unk :: .unk :: .unk :: .unk :: .unk :: .unk :: .unk :: .unk :: .unk :: .unk :: .unk :: .unk :: .unk :: .unk :: .unk :: .unk :: .unk :: .unk :: .unk :: .unk :: .unk :: .unk :: .unk :: .unk :: .unk :: .unk :: .unk :: .unk :: .unk :: .unk :: .unk :: .unk :: .unk :: .unk :: [] : List AV)) H2 := by
  subst hxy
  unfold TP at hT
  have hT1 : hget (h ++ [.vars [.int (p : Int), .int (q : Int)]]) T = _ := (hget_app _ (hlt_of hT (by simp))).trans hT
  have hl1 : (((todo.length + 1 : Nat) : Int) - 1).toNat = todo.length := by omega
  have hl2 : (((todo.length : Nat) : Int) + 1 - 1).toNat = todo.length := by omega
  have hel := @e_last todo rest p q
  have hlen : (todo ++ [(p, q)]).length = todo.length + 1 := by simp
  rw [hlen]
  rw [lrun_atC loop29_0]
  simp (implicitDefEqProofs := false) (disch := omega) only [go_sem, seval, rgn Tryd.f29 5 rfl, rgn Tryd.f29 6 rfl, rgn Tryd.f29 7 rfl, rgn Tryd.f29 8 rfl, rgn Tryd.f29 15 rfl, hT, hT1, c1, c2, c3, c4, hl1, hl2, hel, hget_last, set_last, md46, beq_self_eq_true, Bool.true_or, Nat.sub_zero]
theorem r_var {ns2 : List Nd} (hs : SP H2 S ns2 b fl w) {n : Nd} (hx : ns2[x]? = some n) (hk : n.kind = 1) (hxy : x ≠ y) {res : Bool} {H3 : AHeap} (cb : doCall md (aval Tryd.prog md fg) 47 [.ptr S 0, .int x, .int y] H2 = some (.val (.bool res), H3)) :
    lrun Tryd.prog md fg (fg 29) (loopOf Tryd.f29 0) (fg 29 1) (((.ptr S 0) :: .unk :: .unk :: .unk :: .unk :: .unk :: (a6) :: (.mp M) :: (.arr T 0 (todo ++ [(p, q)]).length g 2) :: .unk :: .unk :: .unk :: .unk :: .unk :: .unk :: .unk :: .unk :: .unk :: .unk :: .unk :: .unk :: .unk :: .unk :: .unk :: .unk :: .unk :: .unk :: .unk :: .unk :: .unk :: .unk :: .unk :: .unk :: .unk :: .unk :: .unk :: .unk :: .unk :: .unk :: .unk :: .unk :: .unk :: .unk :: .unk :: .unk :: .unk :: .unk :: .unk :: .unk :: .unk :: .unk :: .unk :: .unk :: .unk :: .unk :: .unk :: .unk :: .unk :: .unk :: .unk :: .unk :: .unk :: .unk :: .unk :: .unk :: .unk :: .unk :: .unk :: .unk :: .unk :: .unk :: .unk :: .unk :: .unk :: .unk :: .unk :: .unk :: .unk :: .unk :: .unk :: .unk :: .unk :: .unk :: .unk :: .unk :: .unk :: .unk :: .unk :: .unk :: .unk :: .unk :: .unk :: .unk :: .unk :: .unk :: .unk :: .unk :: .unk :: .unk :: .unk :: .unk :: .unk :: .unk :: .unk :: .unk :: .unk :: .unk :: .unk :: .unk :: .unk :: .unk :: .unk :: .unk :: .unk :: .unk :: .unk :: .unk :: .unk :: .unk :: .unk :: .unk :: .unk :: .unk :: .unk :: .unk :: .unk :: [] : List AV)) h = if res then lrun Tryd.prog md fg (fg 29) (loopOf Tryd.f29 0) (fg 29 1) (((.ptr S 0) :: .unk :: .unk :: .unk :: .unk :: .unk :: (a6) :: (.mp M) :: (.arr T 0 todo.length g 2) :: .unk :: .unk :: .unk :: .unk :: .unk :: .unk :: .unk :: .unk :: .unk :: .unk :: .unk :: .unk :: .unk :: .unk :: .unk :: .unk :: .unk :: .unk :: .unk :: .unk :: .unk :: .unk :: .unk :: .unk :: .unk :: .unk :: .unk :: .unk :: .unk :: .unk :: .unk :: .unk :: .unk :: .unk :: .unk :: .unk :: .unk :: .unk :: .unk :: .unk :: .unk :: .unk :: .unk :: .unk :: .unk :: .unk :: .unk :: .unk :: .unk :: .unk :: .unk :: .unk :: .unk :: .unk :: .unk :: .unk :: .unk :: .unk :: .unk :: .unk :: .unk :: .unk :: .unk :: .unk :: .unk :: .unk :: .unk :: .unk :: .unk :: .unk :: .unk :: .unk :: .unk :: .unk :: .unk :: .unk :: .unk :: .unk :: .unk :: .unk :: .unk :: .unk :: .unk :: .unk :: .unk :: .unk :: .unk :: .unk :: .unk :: .unk :: .unk :: .unk :: .unk :: .unk :: .unk :: .unk :: .unk :: .unk :: .unk :: .unk :: .unk :: .unk :: .unk :: .unk :: .unk :: .unk :: .unk :: .unk :: .unk :: .unk :: .unk :: .unk :: .unk :: .unk :: .unk :: .unk :: .unk :: [] : List AV)) H3 else some (.ret, ((.ptr S 0) :: .unk :: .unk :: .unk :: .unk :: .unk :: (.val (.bool false)) :: (.mp M) :: (.arr T 0 todo.length g 2) :: .unk :: .unk :: .unk :: .unk :: .unk :: .unk :: .unk :: .unk :: .unk :: .unk :: .unk :: .unk :: .unk :: .unk :: .unk :: .unk :: .unk :: .unk :: .unk :: .unk :: .unk :: .unk :: .unk :: .unk :: .unk :: .unk :: .unk :: .unk :: .unk :: .unk :: .unk :: .unk :: .unk :: .unk :: .unk :: .unk :: .unk :: .unk :: .unk :: .unk :: .unk :: .unk :: .unk :: .unk :: .unk :: .unk :: .unk :: .unk :: .unk :: .unk :: .unk :: .unk :: .unk :: .unk :: .unk :: .unk :: .unk :: .unk :: .unk :: .unk :: .unk :: .unk :: .unk :: .unk :: .unk :: .unk :: .unk :: .unk :: .unk :: .unk :: .unk :: .unk :: .unk :: .unk :: .unk :: .unk :: .unk :: .unk :: .unk :: .unk :: .unk :: .unk :: .unk :: .unk :: .unk :: .unk :: .unk :: .unk :: .unk :: .unk :: .unk :: .unk :: .unk :: .unk :: .unk :: .unk :: .unk :: .unk :: .unk :: .unk :: .unk :: .unk :: .unk :: .unk :: .unk :: .unk :: .unk :: .unk :: .unk :: .unk :: .unk :: .unk :: .unk :: .unk :: .unk :: .unk :: .unk :: [] : List AV), H3) := by
  unfold TP at hT
  have hT1 : hget (h ++ [.vars [.int (p : Int), .int (q : Int)]]) T = _ := (hget_app _ (hlt_of hT (by simp))).trans hT
  have hl1 : (((todo.length + 1 : Nat) : Int) - 1).toNat = todo.length := by omega
  have hl2 : (((todo.length : Nat) : Int) + 1 - 1).toNat = todo.length := by omega
  have hel := @e_last todo rest p q
  have hlen : (todo ++ [(p, q)]).length = todo.length + 1 := by simp
  rw [hlen]
  obtain ⟨A, gA, h1, h2⟩ := sp_arr hs (ne_of_at hx)
  have hlt := lt_of_at hx
  have ht : ((x : Int)).toNat = x := by omega
  have hne : ¬ (x : Int) = (y : Int) := by omega
  obtain ⟨k, p1, m1, ks, l, t, mk⟩ := n
  dsimp only at hk
  subst hk
  cases res
  · simp only [Bool.false_eq_true, if_false]
    rw [lrun_atC loop29_0]
    simp (implicitDefEqProofs := false) (disch := omega) only [go_sem, seval, rgn Tryd.f29 5 rfl, rgn Tryd.f29 6 rfl, rgn Tryd.f29 7 rfl, rgn Tryd.f29 8 rfl, rgn Tryd.f29 15 rfl, rgn Tryd.f29 16 rfl, rgn Tryd.f29 17 rfl, rgn Tryd.f29 18 rfl, hT, hT1, c1, c2, c3, c4, hl1, hl2, hel, hget_last, set_last, md46, beq_self_eq_true, Bool.true_or, Nat.sub_zero, hne, h1, h2, List.getElem?_map, ht, hx, Option.map_some, ndV_mk, cb]
  · simp only [if_true]
    rw [lrun_atC loop29_0]
    simp (implicitDefEqProofs := false) (disch := omega) only [go_sem, seval, rgn Tryd.f29 5 rfl, rgn Tryd.f29 6 rfl, rgn Tryd.f29 7 rfl, rgn Tryd.f29 8 rfl, rgn Tryd.f29 15 rfl, rgn Tryd.f29 16 rfl, rgn Tryd.f29 17 rfl, hT, hT1, c1, c2, c3, c4, hl1, hl2, hel, hget_last, set_last, md46, beq_self_eq_true, Bool.true_or, Nat.sub_zero, hne, h1, h2, List.getElem?_map, ht, hx, Option.map_some, ndV_mk, cb]
theorem r_var2 {ns2 : List Nd} (hs : SP H2 S ns2 b fl w) {n m : Nd} (hx : ns2[x]? = some n) (hk : n.kind ≠ 1) (hy : ns2[y]? = some m) (hk2 : m.kind = 1) (hxy : x ≠ y) {res : Bool} {H3 : AHeap} (cb : doCall md (aval Tryd.prog md fg) 47 [.ptr S 0, .int y, .int x] H2 = some (.val (.bool res), H3)) :
    lrun Tryd.prog md fg (fg 29) (loopOf Tryd.f29 0) (fg 29 1) (((.ptr S 0) :: .unk :: .unk :: .unk :: .unk :: .unk :: (a6) :: (.mp M) :: (.arr T 0 (todo ++ [(p, q)]).length g 2) :: .unk :: .unk :: .unk :: .unk :: .unk :: .unk :: .unk :: .unk :: .unk :: .unk :: .unk :: .unk :: .unk :: .unk :: .unk :: .unk :: .unk :: .unk :: .unk :: .unk :: .unk :: .unk :: .unk :: .unk :: .unk :: .unk :: .unk :: .unk :: .unk :: .unk :: .unk :: .unk :: .unk :: .unk :: .unk :: .unk :: .unk :: .unk :: .unk :: .unk :: .unk :: .unk :: .unk :: .unk :: .unk :: .unk :: .unk :: .unk :: .unk :: .unk :: .unk :: .unk :: .unk :: .unk :: .unk :: .unk :: .unk :: .unk :: .unk :: .unk :: .unk :: .unk :: .unk :: .unk :: .unk :: .unk :: .unk :: .unk :: .unk :: .unk :: .unk :: .unk :: .unk :: .unk :: .unk :: .unk :: .unk :: .unk :: .unk :: .unk :: .unk :: .unk :: .unk :: .unk :: .unk :: .unk :: .unk :: .unk :: .unk :: .unk :: .unk :: .unk :: .unk :: .unk :: .unk :: .unk :: .unk :: .unk :: .unk :: .unk :: .unk :: .unk :: .unk :: .unk :: .unk :: .unk :: .unk :: .unk :: .unk :: .unk :: .unk :: .unk :: .unk :: .unk :: .unk :: .unk :: .unk :: [] : List AV)) h = if res then lrun Tryd.prog md fg (fg 29) (loopOf Tryd.f29 0) (fg 29 1) (((.ptr S 0) :: .unk :: .unk :: .unk :: .unk :: .unk :: (a6) :: (.mp M) :: (.arr T 0 todo.length g 2) :: .unk :: .unk :: .unk :: .unk :: .unk :: .unk :: .unk :: .unk :: .unk :: .unk :: .unk :: .unk :: .unk :: .unk :: .unk :: .unk :: .unk :: .unk :: .unk :: .unk :: .unk :: .unk :: .unk :: .unk :: .unk :: .unk :: .unk :: .unk :: .unk :: .unk :: .unk :: .unk :: .unk :: .unk :: .unk :: .unk :: .unk :: .unk :: .unk :: .unk :: .unk :: .unk :: .unk :: .unk :: .unk :: .unk :: .unk :: .unk :: .unk :: .unk :: .unk :: .unk :: .unk :: .unk :: .unk :: .unk :: .unk :: .unk :: .unk :: .unk :: .unk :: .unk :: .unk :: .unk :: .unk :: .unk :: .unk :: .unk :: .unk :: .unk :: .unk :: .unk :: .unk :: .unk :: .unk :: .unk :: .unk :: .unk :: .unk :: .unk :: .unk :: .unk :: .unk :: .unk :: .unk :: .unk :: .unk :: .unk :: .unk :: .unk :: .unk :: .unk :: .unk :: .unk :: .unk :: .unk :: .unk :: .unk :: .unk :: .unk :: .unk :: .unk :: .unk :: .unk :: .unk :: .unk :: .unk :: .unk :: .unk :: .unk :: .unk :: .unk :: .unk :: .unk :: .unk :: .unk :: .unk :: [] : List AV)) H3 else some (.ret, ((.ptr S 0) :: .unk :: .unk :: .unk :: .unk :: .unk :: (.val (.bool false)) :: (.mp M) :: (.arr T 0 todo.length g 2) :: .unk :: .unk :: .unk :: .unk :: .unk :: .unk :: .unk :: .unk :: .unk :: .unk :: .unk :: .unk :: .unk :: .unk :: .unk :: .unk :: .unk :: .unk :: .unk :: .unk :: .unk :: .unk :: .unk :: .unk :: .unk :: .unk :: .unk :: .unk :: .unk :: .unk :: .unk :: .unk :: .unk :: .unk :: .unk :: .unk :: .unk :: .unk :: .unk :: .unk :: .unk :: .unk :: .unk :: .unk :: .unk :: .unk :: .unk :: .unk :: .unk :: .unk :: .unk :: .unk :: .unk :: .unk :: .unk :: .unk :: .unk :: .unk :: .unk :: .unk :: .unk :: .unk :: .unk :: .unk :: .unk :: .unk :: .unk :: .unk :: .unk :: .unk :: .unk :: .unk :: .unk :: .unk :: .unk :: .unk :: .unk :: .unk :: .unk :: .unk :: .unk :: .unk :: .unk :: .unk :: .unk :: .unk :: .unk :: .unk :: .unk :: .unk :: .unk :: .unk :: .unk :: .unk :: .unk :: .unk :: .unk :: .unk :: .unk :: .unk :: .unk :: .unk :: .unk :: .unk :: .unk :: .unk :: .unk :: .unk :: .unk :: .unk :: .unk :: .unk :: .unk :: .unk :: .unk :: .unk :: .unk :: [] : List AV), H3) := by
  unfold TP at hT
  have hT1 : hget (h ++ [.vars [.int (p : Int), .int (q : Int)]]) T = _ := (hget_app _ (hlt_of hT (by simp))).trans hT
  have hl1 : (((todo.length + 1 : Nat) : Int) - 1).toNat = todo.length := by omega
  have hl2 : (((todo.length : Nat) : Int) + 1 - 1).toNat = todo.length := by omega
  have hel := @e_last todo rest p q
  have hlen : (todo ++ [(p, q)]).length = todo.length + 1 := by simp
  rw [hlen]
  obtain ⟨A, gA, h1, h2⟩ := sp_arr hs (ne_of_at hx)
  have hlt := lt_of_at hx
  have ht : ((x : Int)).toNat = x := by omega
  have hne : ¬ (x : Int) = (y : Int) := by omega
  obtain ⟨k, p1, m1, ks, l, t, mk⟩ := n
  dsimp only at hk
  have hlt2 := lt_of_at hy
  have ht2 : ((y : Int)).toNat = y := by omega
  obtain ⟨k2, p2, m2, ks2, l2, t2, mk2⟩ := m
  dsimp only at hk2
  subst hk2
  cases res
  · simp only [Bool.false_eq_true, if_false]
    rw [lrun_atC loop29_0]
    simp (implicitDefEqProofs := false) (disch := omega) only [go_sem, seval, rgn Tryd.f29 5 rfl, rgn Tryd.f29 6 rfl, rgn Tryd.f29 7 rfl, rgn Tryd.f29 8 rfl, rgn Tryd.f29 15 rfl, rgn Tryd.f29 16 rfl, rgn Tryd.f29 19 rfl, rgn Tryd.f29 20 rfl, rgn Tryd.f29 21 rfl, hT, hT1, c1, c2, c3, c4, hl1, hl2, hel, hget_last, set_last, md46, beq_self_eq_true, Bool.true_or, Nat.sub_zero, hne, h1, h2, List.getElem?_map, ht, hx, Option.map_some, ndV_mk, ht2, hy, hk, cb]
  · simp only [if_true]
    rw [lrun_atC loop29_0]
    simp (implicitDefEqProofs := false) (disch := omega) only [go_sem, seval, rgn Tryd.f29 5 rfl, rgn Tryd.f29 6 rfl, rgn Tryd.f29 7 rfl, rgn Tryd.f29 8 rfl, rgn Tryd.f29 15 rfl, rgn Tryd.f29 16 rfl, rgn Tryd.f29 19 rfl, rgn Tryd.f29 20 rfl, hT, hT1, c1, c2, c3, c4, hl1, hl2, hel, hget_last, set_last, md46, beq_self_eq_true, Bool.true_or, Nat.sub_zero, hne, h1, h2, List.getElem?_map, ht, hx, Option.map_some, ndV_mk, ht2, hy, hk, cb]
theorem r_no {ns2 : List Nd} (hs : SP H2 S ns2 b fl w) {n m : Nd} (hx : ns2[x]? = some n) (hk : n.kind ≠ 1) (hy : ns2[y]? = some m) (hk2 : m.kind ≠ 1) (hxy : x ≠ y) (cb : doCall md (aval Tryd.prog md fg) 48 [.ptr S 0, .int x, .int y] H2 = some (.val (.bool false), H2)) :
    lrun Tryd.prog md fg (fg 29) (loopOf Tryd.f29 0) (fg 29 1) (((.ptr S 0) :: .unk :: .unk :: .unk :: .unk :: .unk :: (a6) :: (.mp M) :: (.arr T 0 (todo ++ [(p, q)]).length g 2) :: .unk :: .unk :: .unk :: .unk :: .unk :: .unk :: .unk :: .unk :: .unk :: .unk :: .unk :: .unk :: .unk :: .unk :: .unk :: .unk :: .unk :: .unk :: .unk :: .unk :: .unk :: .unk :: .unk :: .unk :: .unk :: .unk :: .unk :: .unk :: .unk :: .unk :: .unk :: .unk :: .unk :: .unk :: .unk :: .unk :: .unk :: .unk :: .unk :: .unk :: .unk :: .unk :: .unk :: .unk :: .unk :: .unk :: .unk :: .unk :: .unk :: .unk :: .unk :: .unk :: .unk :: .unk :: .unk :: .unk :: .unk :: .unk :: .unk :: .unk :: .unk :: .unk :: .unk :: .unk :: .unk :: .unk :: .unk :: .unk :: .unk :: .unk :: .unk :: .unk :: .unk :: .unk :: .unk :: .unk :: .unk :: .unk :: .unk :: .unk :: .unk :: .unk :: .unk :: .unk :: .unk :: .unk :: .unk :: .unk :: .unk :: .unk :: .unk :: .unk :: .unk :: .unk :: .unk :: .unk :: .unk :: .unk :: .unk :: .unk :: .unk :: .unk :: .unk :: .unk :: .unk :: .unk :: .unk :: .unk :: .unk :: .unk :: .unk :: .unk :: .unk :: .unk :: .unk :: .unk :: .unk :: [] : List AV)) h = some (.ret, ((.ptr S 0) :: .unk :: .unk :: .unk :: .unk :: .unk :: (.val (.bool false)) :: (.mp M) :: (.arr T 0 todo.length g 2) :: .unk :: .unk :: .unk :: .unk :: .unk :: .unk :: .unk :: .unk :: .unk :: .unk :: .unk :: .unk :: .unk :: .unk :: .unk :: .unk :: .unk :: .unk :: .unk :: .unk :: .unk :: .unk :: .unk :: .unk :: .unk :: .unk :: .unk :: .unk :: .unk :: .unk :: .unk :: .unk :: .unk :: .unk :: .unk :: .unk :: .unk :: .unk :: .unk :: .unk :: .unk :: .unk :: .unk :: .unk :: .unk :: .unk :: .unk :: .unk :: .unk :: .unk :: .unk :: .unk :: .unk :: .unk :: .unk :: .unk :: .unk :: .unk :: .unk :: .unk :: .unk :: .unk :: .unk :: .unk :: .unk :: .unk :: .unk :: .unk :: .unk :: .unk :: .unk :: .unk :: .unk :: .unk :: .unk :: .unk :: .unk :: .unk :: .unk :: .unk :: .unk :: .unk :: .unk :: .unk :: .unk :: .unk :: .unk :: .unk :: .unk :: .unk :: .unk :: .unk :: .unk :: .unk :: .unk :: .unk :: .unk :: .unk :: .unk :: .unk :: .unk :: .unk :: .unk :: .unk :: .unk :: .unk :: .unk :: .unk :: .unk :: .unk :: .unk :: .unk :: .unk :: .unk :: .unk :: .unk :: .unk :: [] : List AV), H2) := by
  unfold TP at hT
  have hT1 : hget (h ++ [.vars [.int (p : Int), .int (q : Int)]]) T = _ := (hget_app _ (hlt_of hT (by simp))).trans hT
  have hl1 : (((todo.length + 1 : Nat) : Int) - 1).toNat = todo.length := by omega
  have hl2 : (((todo.length : Nat) : Int) + 1 - 1).toNat = todo.length := by omega
  have hel := @e_last todo rest p q
  have hlen : (todo ++ [(p, q)]).length = todo.length + 1 := by simp
  rw [hlen]
  obtain ⟨A, gA, h1, h2⟩ := sp_arr hs (ne_of_at hx)
  have hlt := lt_of_at hx
  have ht : ((x : Int)).toNat = x := by omega
  have hne : ¬ (x : Int) = (y : Int) := by omega
  obtain ⟨k, p1, m1, ks, l, t, mk⟩ := n
  dsimp only at hk
  have hlt2 := lt_of_at hy
  have ht2 : ((y : Int)).toNat = y := by omega
  obtain ⟨k2, p2, m2, ks2, l2, t2, mk2⟩ := m
  dsimp only at hk2
  rw [lrun_atC loop29_0]
  simp (implicitDefEqProofs := false) (disch := omega) only [go_sem, seval, rgn Tryd.f29 5 rfl, rgn Tryd.f29 6 rfl, rgn Tryd.f29 7 rfl, rgn Tryd.f29 8 rfl, rgn Tryd.f29 15 rfl, rgn Tryd.f29 16 rfl, rgn Tryd.f29 19 rfl, rgn Tryd.f29 22 rfl, rgn Tryd.f29 23 rfl, hT, hT1, c1, c2, c3, c4, hl1, hl2, hel, hget_last, set_last, md46, beq_self_eq_true, Bool.true_or, Nat.sub_zero, hne, h1, h2, List.getElem?_map, ht, hx, Option.map_some, ndV_mk, ht2, hy, hk, hk2, cb]
end
section
variable {S B M T : Nat} {b w : Int} {fl : Bool} {sh : List Sh} {rt r : Nat → Nat} {vis : Nat → Bool} {ns : List Nd} {P : NMap} {h : AHeap} {g : Nat} {todo rest : List (Nat × Nat)} {p q : Nat}
set_option maxHeartbeats 8000000 in
theorem r_push {H1 H2 : AHeap} {a6 : AV} {x y : Nat} (htl : todo.length ≤ 100000) (hT : TP h T g (todo ++ [(p, q)] ++ rest)) (c1 : doCall md (aval Tryd.prog md fg) 46 [.ptr S 0, .int p, .mp M] (h ++ [.vars [.int p, .int q]]) = some (.int (x : Nat), H1)) (c2 : doCall md (aval Tryd.prog md fg) 46 [.ptr S 0, .int q, .mp M] H1 = some (.int (y : Nat), H2)) (c3 : hget H1 h.length = .vars [.int p, .int q]) (c4 : hget H2 h.length = .vars [.int p, .int q])
    {ns2 : List Nd} (hs : SP H2 S ns2 b fl w) (hn : NR H2 S B sh rt r vis w ns2) {s s' : Sh} (hsx : sh[x]? = some s) (hsy : sh[y]? = some s') (hk : s.kind ≠ 1) (hk2 : s'.kind ≠ 1) (hxy : x ≠ y) (hlen : s.kids.length = s'.kids.length) (hkl : s.kids.length + todo.length ≤ 100000) (hTS : T ≠ S) (hMT : M ≠ T) (hMS : M ≠ S) (hBT : B ≤ T) (hm : MN H2 M P) (hT2 : TP H2 T g (todo ++ [(p, q)] ++ rest)) (cb : doCall md (aval Tryd.prog md fg) 48 [.ptr S 0, .int x, .int y] H2 = some (.val (.bool true), H2)) :
    ∃ H4 g' rest', lrun Tryd.prog md fg (fg 29) (loopOf Tryd.f29 0) (fg 29 1) (((.ptr S 0) :: .unk :: .unk :: .unk :: .unk :: .unk :: (a6) :: (.mp M) :: (.arr T 0 (todo ++ [(p, q)]).length g 2) :: .unk :: .unk :: .unk :: .unk :: .unk :: .unk :: .unk :: .unk :: .unk :: .unk :: .unk :: .unk :: .unk :: .unk :: .unk :: .unk :: .unk :: .unk :: .unk :: .unk :: .unk :: .unk :: .unk :: .unk :: .unk :: .unk :: .unk :: .unk :: .unk :: .unk :: .unk :: .unk :: .unk :: .unk :: .unk :: .unk :: .unk :: .unk :: .unk :: .unk :: .unk :: .unk :: .unk :: .unk :: .unk :: .unk :: .unk :: .unk :: .unk :: .unk :: .unk :: .unk :: .unk :: .unk :: .unk :: .unk :: .unk :: .unk :: .unk :: .unk :: .unk :: .unk :: .unk :: .unk :: .unk :: .unk :: .unk :: .unk :: .unk :: .unk :: .unk :: .unk :: .unk :: .unk :: .unk :: .unk :: .unk :: .unk :: .unk :: .unk :: .unk :: .unk :: .unk :: .unk :: .unk :: .unk :: .unk :: .unk :: .unk :: .unk :: .unk :: .unk :: .unk :: .unk :: .unk :: .unk :: .unk :: .unk :: .unk :: .unk :: .unk :: .unk :: .unk :: .unk :: .unk :: .unk :: .unk :: .unk :: .unk :: .unk :: .unk :: .unk :: .unk :: .unk :: .unk :: .unk :: .unk :: [] : List AV)) h = lrun Tryd.prog md fg (fg 29) (loopOf Tryd.f29 0) (fg 29 1) (((.ptr S 0) :: .unk :: .unk :: .unk :: .unk :: .unk :: .unk :: (.mp M) :: (.arr T 0 (todo ++ (s.kids.zip s'.kids).reverse).length g' 2) :: .unk :: .unk :: .unk :: .unk :: .unk :: .unk :: .unk :: .unk :: .unk :: .unk :: .unk :: .unk :: .unk :: .unk :: .unk :: .unk :: .unk :: .unk :: .unk :: .unk :: .unk :: .unk :: .unk :: .unk :: .unk :: .unk :: .unk :: .unk :: .unk :: .unk :: .unk :: .unk :: .unk :: .unk :: .unk :: .unk :: .unk :: .unk :: .unk :: .unk :: .unk :: .unk :: .unk :: .unk :: .unk :: .unk :: .unk :: .unk :: .unk :: .unk :: .unk :: .unk :: .unk :: .unk :: .unk :: .unk :: .unk :: .unk :: .unk :: .unk :: .unk :: .unk :: .unk :: .unk :: .unk :: .unk :: .unk :: .unk :: .unk :: .unk :: .unk :: .unk :: .unk :: .unk :: .unk :: .unk :: .unk :: .unk :: .unk :: .unk :: .unk :: .unk :: .unk :: .unk :: .unk :: .unk :: .unk :: .unk :: .unk :: .unk :: .unk :: .unk :: .unk :: .unk :: .unk :: .unk :: .unk :: .unk :: .unk :: .unk :: .unk :: .unk :: .unk :: .unk :: .unk :: .unk :: .unk :: .unk :: .unk :: .unk :: .unk :: .unk :: .unk :: .unk :: .unk :: .unk :: .unk :: [] : List AV)) H4 ∧ TP H4 T g' (todo ++ (s.kids.zip s'.kids).reverse ++ rest') ∧ MN H4 M (mset P x y) ∧ SP H4 S ns2 b fl w ∧ Ku S M T H2 H4 := by
  obtain ⟨n, hx⟩ := at_of_lt (l := ns2) (i := x) (by rw [hn.1]; exact lt_of_at hsx)
  obtain ⟨m, hy⟩ := at_of_lt (l := ns2) (i := y) (by rw [hn.1]; exact lt_of_at hsy)
  have qx := hn.2 x n s hx hsx
  have qy := hn.2 y m s' hy hsy
  have htk : (s.kids.zip s'.kids).take s.kids.length = s.kids.zip s'.kids := List.take_of_length_le (by rw [List.length_zip]; omega)
  rw [List.append_assoc] at hT2
  obtain ⟨H3, g', rest', e1, e2, e3, e4⟩ := push_loop (M := M) hsx hsy hlen hTS hBT s.kids.length H2 g todo ([(p, q)] ++ rest) (Nat.le_refl _) (by omega) hs hn qx.kids hT2
  rw [htk] at e1 e2
  have hm3 : MN H3 M P := e3.2 M _ hm (by simp) hMS hMT (by simp)
  have hMl := hlt_of hm3 (by simp)
  have hput := mn_put hm3 x y
  refine ⟨_, g', rest', ?_, ?_, hget_set_eq hMl, ?_, ?_⟩
  · unfold TP at hT
    have hT1 : hget (h ++ [.vars [.int (p : Int), .int (q : Int)]]) T = _ := (hget_app _ (hlt_of hT (by simp))).trans hT
    have hl1 : (((todo.length + 1 : Nat) : Int) - 1).toNat = todo.length := by omega
    have hl2 : (((todo.length : Nat) : Int) + 1 - 1).toNat = todo.length := by omega
    have hel := @e_last todo rest p q
    have hlen' : (todo ++ [(p, q)]).length = todo.length + 1 := by simp
    obtain ⟨A, gA, h1, h2⟩ := sp_arr hs (ne_of_at hx)
    have hlt := lt_of_at hx
    have ht : ((x : Int)).toNat = x := by omega
    have hne : ¬ (x : Int) = (y : Int) := by omega
    have hlt2 := lt_of_at hy
    have ht2 : ((y : Int)).toNat = y := by omega
    have hkk := qx.kind
    have hkk2 := qy.kind
    have hkln := kb_len qx.kids
    rw [ints_len] at hkln
    obtain ⟨k, p1, m1, ks, l, t, mk⟩ := n
    obtain ⟨k2, p2, m2, ks2, l2, t2, mk2⟩ := m
    dsimp only at hkk hkk2 hkln e1
    have hk' : ¬ k = 1 := by rw [hkk]; exact hk
    have hk2' : ¬ k2 = 1 := by rw [hkk2]; exact hk2
    rw [hlen']
    rw [lrun_atC loop29_0]
    simp (implicitDefEqProofs := false) (disch := omega) only [go_sem, seval, rgn Tryd.f29 5 rfl, rgn Tryd.f29 6 rfl, rgn Tryd.f29 7 rfl, rgn Tryd.f29 8 rfl, rgn Tryd.f29 15 rfl, rgn Tryd.f29 16 rfl, rgn Tryd.f29 19 rfl, rgn Tryd.f29 22 rfl, rgn Tryd.f29 9 rfl, rgn Tryd.f29 10 rfl, rgn Tryd.f29 14 rfl, hT, hT1, c1, c2, c3, c4, hl1, hl2, hel, hget_last, set_last, md46, beq_self_eq_true, Bool.true_or, Nat.sub_zero, hne, h1, h2, List.getElem?_map, ht, hx, Option.map_some, ndV_mk, ht2, hy, hk', hk2', cb, hkln, e1, hput, aop_mapUpdate]
  · unfold TP
    rw [hget_set_ne hMT]; exact e2
  · obtain ⟨nv, z1, z2⟩ := e4
    exact ⟨nv, by rw [hget_set_ne hMS]; exact z1, by
      rcases z2 with z2 | ⟨A', g', z2, z3⟩
      · exact .inl z2
      · exact .inr ⟨A', g', z2, by rw [hget_set_ne (by rintro rfl; unfold MN at hm3; rw [hm3] at z3; simp at z3)]; exact z3⟩⟩
  · have k := e3.ku M
    exact ⟨by rw [List.length_set]; exact k.1, fun j o e z1 z2 z3 z4 z5 => by rw [hget_set_ne (fun q => z3 q.symm)]; exact k.2 j o e z1 z2 z3 z4 z5⟩
theorem un_end2 (h : AHeap) (a6 : AV) (S M T g : Nat) : lrun Tryd.prog md fg (fg 29) (loopOf Tryd.f29 0) (fg 29 1) (((.ptr S 0) :: .unk :: .unk :: .unk :: .unk :: .unk :: (a6) :: (.mp M) :: (.arr T 0 ([] : List (Nat × Nat)).length g 2) :: .unk :: .unk :: .unk :: .unk :: .unk :: .unk :: .unk :: .unk :: .unk :: .unk :: .unk :: .unk :: .unk :: .unk :: .unk :: .unk :: .unk :: .unk :: .unk :: .unk :: .unk :: .unk :: .unk :: .unk :: .unk :: .unk :: .unk :: .unk :: .unk :: .unk :: .unk :: .unk :: .unk :: .unk :: .unk :: .unk :: .unk :: .unk :: .unk :: .unk :: .unk :: .unk :: .unk :: .unk :: .unk :: .unk :: .unk :: .unk :: .unk :: .unk :: .unk :: .unk :: .unk :: .unk :: .unk :: .unk :: .unk :: .unk :: .unk :: .unk :: .unk :: .unk :: .unk :: .unk :: .unk :: .unk :: .unk :: .unk :: .unk :: .unk :: .unk :: .unk :: .unk :: .unk :: .unk :: .unk :: .unk :: .unk :: .unk :: .unk :: .unk :: .unk :: .unk :: .unk :: .unk :: .unk :: .unk :: .unk :: .unk :: .unk :: .unk :: .unk :: .unk :: .unk :: .unk :: .unk :: .unk :: .unk :: .unk :: .unk :: .unk :: .unk :: .unk :: .unk :: .unk :: .unk :: .unk :: .unk :: .unk :: .unk :: .unk :: .unk :: .unk :: .unk :: .unk :: .unk :: .unk :: [] : List AV)) h = some (.exit 0, ((.ptr S 0) :: .unk :: .unk :: .unk :: .unk :: .unk :: (a6) :: (.mp M) :: (.arr T 0 0 g 2) :: .unk :: .unk :: .unk :: .unk :: .unk :: .unk :: .unk :: .unk :: .unk :: .unk :: .unk :: .unk :: .unk :: .unk :: .unk :: .unk :: .unk :: .unk :: .unk :: .unk :: .unk :: .unk :: .unk :: .unk :: .unk :: .unk :: .unk :: .unk :: .unk :: .unk :: .unk :: .unk :: .unk :: .unk :: .unk :: .unk :: .unk :: .unk :: .unk :: .unk :: .unk :: .unk :: .unk :: .unk :: .unk :: .unk :: .unk :: .unk :: .unk :: .unk :: .unk :: .unk :: .unk :: .unk :: .unk :: .unk :: .unk :: .unk :: .unk :: .unk :: .unk :: .unk :: .unk :: .unk :: .unk :: .unk :: .unk :: .unk :: .unk :: .unk :: .unk :: .unk :: .unk :: .unk :: .unk :: .unk :: .unk :: .unk :: .unk :: .unk :: .unk :: .unk :: .unk :: .unk :: .unk :: .unk :: .unk :: .unk :: .unk :: .unk :: .unk :: .unk :: .unk :: .unk :: .unk :: .unk :: .unk :: .unk :: .unk :: .unk :: .unk :: .unk :: .unk :: .unk :: .unk :: .unk :: .unk :: .unk :: .unk :: .unk :: .unk :: .unk :: .unk :: .unk :: .unk :: .unk :: .unk :: [] : List AV), h) := by
  rw [List.length_nil]
  rw [lrun_atC loop29_0]
  simp (implicitDefEqProofs := false) (disch := omega) only [go_sem, seval, rgn Tryd.f29 5 rfl]
def UEnd (S B M T : Nat) (b : Int) (fl : Bool) (sh : List Sh) (rt0 : Nat → Nat) (a c : Nat) (h : AHeap) (w : Int) (N : Nat) (res : Bool) (H : AHeap) : Prop :=
  ∃ ns' rt' r' vis' w', SP H S ns' b fl w' ∧ Ok sh rt' r' ∧ NR H S B sh rt' r' vis' w' ns' ∧ Ku S M T h H ∧ w ≤ w' ∧ w' ≤ w + 2 * N ∧ (if res then ∃ one', UI sh rt0 a c rt' one' [] else ∀ M, Mod sh rt0 M → M a ≠ M c)
theorem UEnd.mono {a c : Nat} {rt0 : Nat → Nat} {H H0 : AHeap} {w0 : Int} {N N0 : Nat} {res : Bool} (x : UEnd S B M T b fl sh rt0 a c h w N res H) (k : Ku S M T H0 h) (hw : w0 ≤ w) (hw2 : w + 2 * N ≤ w0 + 2 * N0) : UEnd S B M T b fl sh rt0 a c H0 w0 N0 res H := by
  obtain ⟨ns', rt', r', vis', w', h1, h2, h3, h4, h5, h6, h7⟩ := x
  exact ⟨ns', rt', r', vis', w', h1, h2, h3, k.trans h4, by omega, by omega, h7⟩
set_option maxHeartbeats 8000000 in
theorem unify_loop {rt0 : Nat → Nat} {a c : Nat} (hMS : M ≠ S) (hTS : T ≠ S) (hMT : M ≠ T) (hBM : B ≤ M) (hBT : B ≤ T) (hsz : wt sh (fun _ => false) 0 < 90000) :
    ∀ (N : Nat) (todo rest : List (Nat × Nat)) (h : AHeap) (g : Nat) (P : NMap) (rt r : Nat → Nat) (vis : Nat → Bool) (w : Int) (ns : List Nd) (a6 : AV), wt sh (keys (prs P)) 0 + todo.length ≤ N → N ≤ 90000 → 0 ≤ w → w + 2 * N ≤ 900000000 → Ok sh rt r → UI sh rt0 a c rt (prs P) todo → B ≤ h.length → SP h S ns b fl w → NR h S B sh rt r vis w ns → MN h M P → TP h T g (todo ++ rest) →
    ∃ H res a6' a8, lrun Tryd.prog md fg (fg 29) (loopOf Tryd.f29 0) (fg 29 1) (((.ptr S 0) :: .unk :: .unk :: .unk :: .unk :: .unk :: (a6) :: (.mp M) :: (.arr T 0 todo.length g 2) :: .unk :: .unk :: .unk :: .unk :: .unk :: .unk :: .unk :: .unk :: .unk :: .unk :: .unk :: .unk :: .unk :: .unk :: .unk :: .unk :: .unk :: .unk :: .unk :: .unk :: .unk :: .unk :: .unk :: .unk :: .unk :: .unk :: .unk :: .unk :: .unk :: .unk :: .unk :: .unk :: .unk :: .unk :: .unk :: .unk :: .unk :: .unk :: .unk :: .unk :: .unk :: .unk :: .unk :: .unk :: .unk :: .unk :: .unk :: .unk :: .unk :: .unk :: .unk :: .unk :: .unk :: .unk :: .unk :: .unk :: .unk :: .unk :: .unk :: .unk :: .unk :: .unk :: .unk :: .unk :: .unk :: .unk :: .unk :: .unk :: .unk :: .unk :: .unk :: .unk :: .unk :: .unk :: .unk :: .unk :: .unk :: .unk :: .unk :: .unk :: .unk :: .unk :: .unk :: .unk :: .unk :: .unk :: .unk :: .unk :: .unk :: .unk :: .unk :: .unk :: .unk :: .unk :: .unk :: .unk :: .unk :: .unk :: .unk :: .unk :: .unk :: .unk :: .unk :: .unk :: .unk :: .unk :: .unk :: .unk :: .unk :: .unk :: .unk :: .unk :: .unk :: .unk :: .unk :: .unk :: .unk :: [] : List AV)) h = some (if res then .exit 0 else .ret, ((.ptr S 0) :: .unk :: .unk :: .unk :: .unk :: .unk :: (a6') :: (.mp M) :: (a8) :: .unk :: .unk :: .unk :: .unk :: .unk :: .unk :: .unk :: .unk :: .unk :: .unk :: .unk :: .unk :: .unk :: .unk :: .unk :: .unk :: .unk :: .unk :: .unk :: .unk :: .unk :: .unk :: .unk :: .unk :: .unk :: .unk :: .unk :: .unk :: .unk :: .unk :: .unk :: .unk :: .unk :: .unk :: .unk :: .unk :: .unk :: .unk :: .unk :: .unk :: .unk :: .unk :: .unk :: .unk :: .unk :: .unk :: .unk :: .unk :: .unk :: .unk :: .unk :: .unk :: .unk :: .unk :: .unk :: .unk :: .unk :: .unk :: .unk :: .unk :: .unk :: .unk :: .unk :: .unk :: .unk :: .unk :: .unk :: .unk :: .unk :: .unk :: .unk :: .unk :: .unk :: .unk :: .unk :: .unk :: .unk :: .unk :: .unk :: .unk :: .unk :: .unk :: .unk :: .unk :: .unk :: .unk :: .unk :: .unk :: .unk :: .unk :: .unk :: .unk :: .unk :: .unk :: .unk :: .unk :: .unk :: .unk :: .unk :: .unk :: .unk :: .unk :: .unk :: .unk :: .unk :: .unk :: .unk :: .unk :: .unk :: .unk :: .unk :: .unk :: .unk :: .unk :: .unk :: .unk :: .unk :: [] : List AV), H) ∧ (res = false → a6' = .val (.bool false)) ∧ UEnd S B M T b fl sh rt0 a c h w N res H := by
  intro N
  induction N with
  | zero =>
    intro todo rest h g P rt r vis w ns a6 hN _ _ _ ok u hB hs hn hm hT
    have : todo = [] := List.eq_nil_of_length_eq_zero (by omega)
    subst this
    exact ⟨h, true, a6, _, un_end2 h a6 S M T g, by simp, ns, rt, r, vis, w, hs, ok, hn, Ku.refl _ _ _ _, by omega, by omega, by rw [if_pos rfl]; exact ⟨_, u⟩⟩
  | succ N ih =>
    intro todo rest h g P rt r vis w ns a6 hN hN2 hw hw2 ok u hB hs hn hm hT
    rcases List.eq_nil_or_concat todo with rfl | ⟨todo, ⟨p, q⟩, rfl⟩
    · exact ⟨h, true, a6, _, un_end2 h a6 S M T g, by simp, ns, rt, r, vis, w, hs, ok, hn, Ku.refl _ _ _ _, by omega, by omega, by rw [if_pos rfl]; exact ⟨_, u⟩⟩
    rw [List.concat_eq_append] at *
    rw [List.length_append, List.length_singleton] at hN
    obtain ⟨hpl, hql⟩ := ui_pq u
    have hpr : ∀ z ∈ prs P, z.2 < sh.length ∧ rt z.2 = z.2 := fun z hz => by
      obtain ⟨s, s', h1, h2, h3, h4⟩ := u.sig z hz
      exact ⟨lt_of_at h2, ok.con _ s' h2 (h4.1 ▸ h3)⟩
    obtain ⟨H1, H2, ns2, c1, c2, c3, c4, s2, n2, m2, t2, k2⟩ := two_tops ok u.ord hpr hMS hTS hpl hql hs hn hm hT
    have htl : todo.length ≤ 100000 := by omega
    have kk2 := k2.ku M T
    have hB2 : B ≤ H2.length := by have := k2.1; omega
    obtain ⟨xl, xr⟩ := top_root' ok u hpl
    obtain ⟨yl, yr⟩ := top_root' ok u hql
    have hTT : TP H2 T g (todo ++ ([(p, q)] ++ rest)) := by rw [← List.append_assoc]; exact t2
    by_cases hxy : topO (prs P) (rt p) = topO (prs P) (rt q)
    · rw [r_same htl hT c1 c2 c3 c4 hxy]
      obtain ⟨H, res, a6', a8, e1, e2, e3⟩ := ih todo _ H2 g P rt r vis w ns2 a6 (by omega) (by omega) hw (by omega) ok (ui_same u hxy) hB2 s2 n2 m2 hTT
      exact ⟨H, res, a6', a8, e1, e2, e3.mono kk2 (Int.le_refl _) (by omega)⟩
    obtain ⟨n, sx, hx, hsx, qx⟩ := n2.at xl
    obtain ⟨m, sy, hy, hsy, qy⟩ := n2.at yl
    by_cases hkx : sx.kind = 1
    · obtain ⟨H3, ns3, vis3, res, w3, d1, d2, d3, d4, d5, d6⟩ := become_c2 ok s2 n2 hB2 (by omega) (by omega) xl xr yl yr
      have e := r_var (a6 := a6) htl hT c1 c2 c3 c4 s2 hx (by rw [qx.kind]; exact hkx) hxy d1
      rw [e]
      cases res with
      | false =>
        obtain ⟨d6, d7⟩ := d6
        exact ⟨H3, false, _, _, rfl, fun _ => rfl, ns3, rt, r, vis3, w3, d2, ok, d7, kk2.trans (d5.ku M T), by omega, by omega, ui_no_var ok u (fun z => hxy z.symm) (.inl ⟨rfl, rfl⟩) d6⟩
      | true =>
        obtain ⟨d6, d7⟩ := d6
        have ok3 := bnd_ok ok hsx hkx xr yl yr d6
        obtain ⟨H, res, a6', a8, e1, e2, e3⟩ := ih todo _ H3 g P _ _ vis3 w3 ns3 a6 (by omega) (by omega) (by omega) (by omega) ok3 (ui_bnd u xl xr (.inl ⟨rfl, rfl⟩)) (by have := d5.1; omega) d2 d7 (d5.2 M _ m2 (by simp) hMS (by simp)) (d5.2 T _ hTT (by simp) hTS (by simp))
        exact ⟨H, res, a6', a8, e1, e2, e3.mono (kk2.trans (d5.ku M T)) d3 (by omega)⟩
    by_cases hky : sy.kind = 1
    · obtain ⟨H3, ns3, vis3, res, w3, d1, d2, d3, d4, d5, d6⟩ := become_c2 ok s2 n2 hB2 (by omega) (by omega) yl yr xl xr
      have e := r_var2 (a6 := a6) htl hT c1 c2 c3 c4 s2 hx (by rw [qx.kind]; exact hkx) hy (by rw [qy.kind]; exact hky) hxy d1
      rw [e]
      cases res with
      | false =>
        obtain ⟨d6, d7⟩ := d6
        exact ⟨H3, false, _, _, rfl, fun _ => rfl, ns3, rt, r, vis3, w3, d2, ok, d7, kk2.trans (d5.ku M T), by omega, by omega, ui_no_var ok u hxy (.inr ⟨rfl, rfl⟩) d6⟩
      | true =>
        obtain ⟨d6, d7⟩ := d6
        have ok3 := bnd_ok ok hsy hky yr xl xr d6
        obtain ⟨H, res, a6', a8, e1, e2, e3⟩ := ih todo _ H3 g P _ _ vis3 w3 ns3 a6 (by omega) (by omega) (by omega) (by omega) ok3 (ui_bnd u yl yr (.inr ⟨rfl, rfl⟩)) (by have := d5.1; omega) d2 d7 (d5.2 M _ m2 (by simp) hMS (by simp)) (d5.2 T _ hTT (by simp) hTS (by simp))
        exact ⟨H, res, a6', a8, e1, e2, e3.mono (kk2.trans (d5.ku M T)) d3 (by omega)⟩
    have cs := same_c2 ok s2 n2 hsx hsy
    by_cases hsg : sigEq sx sy
    · rw [decide_eq_true hsg] at cs
      have hkeys := keys_no (one := prs P) (x := topO (prs P) (rt p)) (fun z hz => ord_topO _ _ u.ord z hz)
      have hwt := wt_upd sh (keys (prs P)) 0 _ sx hsx (by rw [Nat.zero_add]; exact hkeys)
      rw [Nat.zero_add] at hwt
      obtain ⟨H4, g', rest', e, t4, m4, s4, k4⟩ := r_push (a6 := a6) htl hT c1 c2 c3 c4 s2 n2 hsx hsy hkx hky hxy hsg.2.2.2 (by omega) hTS hMT hMS hBT m2 t2 cs
      rw [e]
      have hprs := (prs_mset (P := P) (x := topO (prs P) (rt p)) (y := topO (prs P) (rt q)) (fun z hz => ord_topO _ _ u.ord z hz)).1
      have hu := ui_one u rfl rfl hxy hsx hsy hkx hsg (fun k hk => (ok.kid _ sx k hsx hk).1) (fun k hk => (ok.kid _ sy k hsy hk).1)
      obtain ⟨H, res, a6', a8, e1, e2, e3⟩ := ih _ rest' H4 g' (mset P (topO (prs P) (rt p)) (topO (prs P) (rt q))) rt r vis w ns2 .unk (by
          rw [hprs, keys_add, List.length_append, List.length_reverse, List.length_zip, ← hsg.2.2.2, Nat.min_self]; omega) (by omega) hw (by omega) ok (by rw [hprs]; exact hu) (by have := k4.1; omega) s4 (n2.ku hBM hBT k4) m4 t4
      exact ⟨H, res, a6', a8, e1, e2, e3.mono (kk2.trans k4) (Int.le_refl _) (by omega)⟩
    · rw [decide_eq_false hsg] at cs
      have e := r_no (a6 := a6) htl hT c1 c2 c3 c4 s2 hx (by rw [qx.kind]; exact hkx) hy (by rw [qy.kind]; exact hky) hxy cs
      rw [e]
      exact ⟨H2, false, _, _, rfl, fun _ => rfl, ns2, rt, r, vis, w, s2, ok, n2, kk2, by omega, by omega, ui_no_sig u hsx hsy hkx hky hsg⟩
end
end Go.Proofs.YtncjbccjpneoiaaDoor
namespace Go.Proofs.YtncjbccjpneoiaaDoor
open Go Go.Ab Go.Proofs
set_option maxRecDepth 100000
set_option linter.unusedSimpArgs false
set_option linter.unusedVariables false
set_option maxHeartbeats 8000000 in
theorem unify_c {h : AHeap} {S B : Nat} {ns : List Nd} {b w : Int} {sh : List Sh} {rt r : Nat → Nat} {vis : Nat → Bool} (ok : Ok sh rt r) (hs : SP h S ns b false w) (hn : NR h S B sh rt r vis w ns) (hB : B ≤ h.length) (hsz : wt sh (fun _ => false) 0 < 80000) (hw : 0 ≤ w) (hw2 : w ≤ 800000000) (hl : sh.length ≤ 200000) {i j : Nat} (hi : i < sh.length) (hj : j < sh.length) :
    ∃ H res ns' rt' r' vis' w', doCall md (aval Tryd.prog md fg) 29 [.ptr S 0, .int i, .int j] h = some (.val (.bool res), H) ∧ SP H S ns' b false w' ∧ Ok sh rt' r' ∧ NR H S B sh rt' r' vis' w' ns' ∧ Kf S h H ∧ w ≤ w' ∧ w' ≤ w + 200000 ∧ (if res then (∀ M, Mod sh rt' M → Mod sh rt M ∧ M i = M j) ∧ (∀ M, Mod sh rt M → M i = M j → Mod sh rt' M) else ∀ M, Mod sh rt M → M i ≠ M j) := by
  have hs0 := hs
  have hSl : S < h.length := by obtain ⟨_, h1, _⟩ := hs; exact hlt_of h1 (by simp)
  have s1 := sp_app hs [.arr 1 [.int (i : Int), .int (j : Int)] 0]
  have ct := there_c s1 h.length 0 [(i : Int), (j : Int)] hget_last (by simp)
  have ho : [(i : Int), (j : Int)].any (out ns.length) = false := by
    rw [hn.1]
    simp [out]; omega
  rw [ho] at ct
  simp only [List.length_cons, List.length_nil] at ct
  have s2 := sp_app hs [.arr 1 [.int (i : Int), .int (j : Int)] 0, .map [] 0, .arr 2 [.agg [.int (i : Int), .int (j : Int)]] 0]
  have hu := ui_start (rt := rt) hi hj
  have kf0 := kf_app S h [.arr 1 [.int (i : Int), .int (j : Int)] 0, .map [] 0, .arr 2 [.agg [.int (i : Int), .int (j : Int)]] 0]
  have hwl := wt_le sh (keys (prs (([], 0) : NMap))) 0
  obtain ⟨H, res, a6', a8, c1, c0, ns', rt', r', vis', w', d1, d2, d3, d4, d5, d6, d7⟩ := unify_loop (S := S) (B := B) (M := h.length + 1) (T := h.length + 2) (b := b) (fl := false) (sh := sh) (rt0 := rt) (a := i) (c := j) (by omega) (by omega) (by omega) (by omega) (by omega) (by omega) 80001 [(i, j)] [] _ 0 ([], 0) rt r vis w ns (.val (.bool false)) (by rw [List.length_singleton]; omega) (by omega) hw (by omega) ok hu (by simp; omega) s2 (hn.kf kf0) (sb_get1 _ _ _ rfl) (sb_get2 _ _ _ _ rfl)
  have kf : Kf S h H := by
    have k := d4
    refine ⟨Nat.le_trans kf0.1 k.1, fun x o e y1 y2 y3 => ?_⟩
    have := hlt_of e y1
    exact k.2 x o (kf0.2 x o e y1 y2 y3) y1 y2 (by omega) (by omega) y3
  rw [List.length_singleton] at c1
  have e : aval Tryd.prog md fg 29 [.ptr S 0, .int i, .int j] h = some (.val (.bool res), H) := by
    cases res
    · have := c0 rfl
      subst this
      simp only [Bool.false_eq_true, if_false] at c1
      rw [aval_of Tryd.func29 body29 Tryd.results29 Tryd.ntmps29 ok29]
      simp (implicitDefEqProofs := false) (disch := omega) only [go_sem, seval, rgn Tryd.f29 0 rfl, rgn Tryd.f29 1 rfl, rgn Tryd.f29 3 rfl, rgn Tryd.f29 4 rfl, ct, List.append_assoc, List.cons_append, List.nil_append, aop_makeMap0, isMapT_90, abuild_91, c1, List.length_append, List.length_cons, List.length_nil]
    · simp only [if_true] at c1
      rw [aval_of Tryd.func29 body29 Tryd.results29 Tryd.ntmps29 ok29]
      simp (implicitDefEqProofs := false) (disch := omega) only [go_sem, seval, rgn Tryd.f29 0 rfl, rgn Tryd.f29 1 rfl, rgn Tryd.f29 3 rfl, rgn Tryd.f29 4 rfl, rgn Tryd.f29 24 rfl, ct, List.append_assoc, List.cons_append, List.nil_append, aop_makeMap0, isMapT_90, abuild_91, c1, List.length_append, List.length_cons, List.length_nil]
  obtain ⟨H', z1, z2, z3, z4⟩ := doCall_sp5 md29 e hs0 d1 kf.1
  refine ⟨H', res, ns', rt', r', vis', w', z1, z2, d2, d3.agree hB z4, kf.agree z3 z4, d5, by omega, ?_⟩
  cases res
  · simp only [Bool.false_eq_true, if_false] at d7 ⊢
    exact d7
  · simp only [if_true] at d7 ⊢
    obtain ⟨one', u⟩ := d7
    exact ⟨fun M hm => ⟨u.back M hm, ui_end u hm⟩, fun M hm e => (u.gen M hm e).1⟩
end Go.Proofs.YtncjbccjpneoiaaDoor
namespace Go.Proofs.YtncjbccjpneoiaaDoor
open Go Go.Ab Go.Proofs
set_option maxRecDepth 100000
set_option linter.unusedSimpArgs false
set_option linter.unusedVariables false
def AR (S : Nat) (h H : AHeap) : Prop := ∀ A n g c, hget H S = .vars (.arr A 0 n g 7 :: c) → h.length ≤ A ∨ ∃ n0 g0 c0, hget h S = .vars (.arr A 0 n0 g0 7 :: c0)
theorem AR.refl (S : Nat) (h : AHeap) : AR S h h := fun A n g c e => .inr ⟨n, g, c, e⟩
theorem AR.trans {S : Nat} {a b c : AHeap} (x : AR S a b) (y : AR S b c) (hl : a.length ≤ b.length) : AR S a c := fun A n g e he => by
  rcases y A n g e he with h | ⟨n0, g0, c0, h⟩
  · exact .inl (by omega)
  · exact x A n0 g0 c0 h
theorem AR.same {S : Nat} {h H H' : AHeap} (x : AR S h H) (e : hget H' S = hget H S) : AR S h H' := fun A n g c he => x A n g c (by rw [← e]; exact he)
theorem AR.app {S : Nat} {h : AHeap} (hS : S < h.length) (l : AHeap) : AR S h (h ++ l) := (AR.refl S h).same (hget_app l hS)
theorem nn_add2 {h : AHeap} {nv : AV} {ns : List Nd} (hn : NN h nv ns) (hl : ns.length ≤ 200000) (n : Nd) : ∃ v H, (∀ z, appT (some (7, 88, z)) h nv (some [ndV n]) = some (v, H)) ∧ NN H v (ns ++ [n]) ∧ (h.length ≤ H.length ∧ ∀ j o, hget h j = o → o ≠ .dead → (∀ b c, o ≠ .arr 7 b c) → hget H j = o) ∧ fits 1 v = true ∧ v.cells = [v] ∧ ∃ A g, v = .arr A 0 (ns.length + 1) g 7 ∧ (h.length ≤ A ∨ ∃ g0, nv = .arr A 0 ns.length g0 7) := by
  rcases hn with ⟨rfl, rfl⟩ | ⟨A, g, rfl, h2⟩
  · refine ⟨_, _, fun z => appT_slc _ _ _ _ _ rfl rfl (by simp) (by simp), .inr ⟨h.length, 0, by simp, by rw [hget_last]; rfl⟩, ⟨by simp, fun j o e h1 _ => by rw [hget_app _ (hlt_of e h1)]; exact e⟩, rfl, rfl, _, _, rfl, .inl (Nat.le_refl _)⟩
  · refine ⟨_, _, fun z => appT_arr _ _ _ _ _ _ _ _ h2 (by simp) rfl (by simp; omega), .inr ⟨A, g + 1, by simp, by rw [hget_set_eq (hlt_of h2 (by simp))]; simp⟩, ⟨by simp, fun j o e h1 h3 => ?_⟩, rfl, rfl, _, _, rfl, .inr ⟨g, rfl⟩⟩
    rw [hget_set_ne (by rintro rfl; rw [h2] at e; exact h3 _ _ e.symm)]; exact e
set_option maxHeartbeats 4000000 in
theorem put_c6 {h : AHeap} {S : Nat} {ns : List Nd} {b w : Int} (hs : SP h S ns b false w) (hlt : (ns.length : Int) < b) (hb : b ≤ 200000) (k : Int) (p m : List UInt8) (ks : AV) (hks : ks.cells = [ks] ∧ okVal ks = true) (l t mk : Int) :
    ∃ H, doCall md (aval Tryd.prog md fg) 43 [.ptr S 0, ndV ⟨k, p, m, ks, l, t, mk⟩] h = some (.int ns.length, H) ∧ SP H S (ns ++ [⟨k, p, m, ks, l, ns.length, mk⟩]) b false w ∧ Kf S h H ∧ AR S h H := by
  have hs0 := hs
  have cf := full_c (sp_app hs [.vars [.int k, .str (txt p), .str (txt m), ks, .int l, .int t, .int mk]])
  obtain ⟨nv, h1, h2⟩ := hs
  have hS := hlt_of h1 (by simp)
  have g1 : ∀ l, hget (h ++ l) S = .vars [nv, .int b, .val (.bool false), .int w] := fun l => by rw [hget_app l hS]; exact h1
  have hlen := nn_len h2
  have hge : ¬ (b ≤ (ns.length : Int)) := by omega
  have hn2 : NN (h ++ [.vars [.int k, .str (txt p), .str (txt m), ks, .int l, .int (ns.length : Int), .int mk]]) nv ns := by
    rcases h2 with h2 | ⟨A, g, e1, e2⟩
    · exact .inl h2
    · exact .inr ⟨A, g, e1, by rw [hget_app _ (hlt_of e2 (by simp))]; exact e2⟩
  obtain ⟨v, H1, x1, x2, x3, x4, x5, A, g, hv, hA⟩ := nn_add2 hn2 (by omega) ⟨k, p, m, ks, l, ns.length, mk⟩
  have y1 : hget H1 S = .vars [nv, .int b, .val (.bool false), .int w] := x3.2 S _ (g1 _) (by simp) (by simp)
  have yb : hget H1 h.length = .vars [.int k, .str (txt p), .str (txt m), ks, .int l, .int (ns.length : Int), .int mk] := x3.2 _ _ hget_last (by simp) (by simp)
  have yb2 : hget (H1.set S (.vars [v, .int b, .val (.bool false), .int w])) h.length = .vars [.int k, .str (txt p), .str (txt m), ks, .int l, .int (ns.length : Int), .int mk] := by rw [hget_set_ne (by omega)]; exact yb
  have hS1 := hlt_of y1 (by simp)
  rw [ndV_mk] at x1
  have e : aval Tryd.prog md fg 43 [.ptr S 0, ndV ⟨k, p, m, ks, l, t, mk⟩] h = some (.int ns.length, H1.set S (.vars [v, .int b, .val (.bool false), .int w])) := by
    rw [ndV_mk]
    rw [aval_of Tryd.func43 body43 Tryd.results43 Tryd.ntmps43 ok43]
    simp (implicitDefEqProofs := false) (disch := first | omega | exact List.length_set) only [go_sem, seval, rgn Tryd.f43 0 rfl, rgn Tryd.f43 1 rfl, rgn Tryd.f43 3 rfl, rgn Tryd.f43 6 rfl, rgn Tryd.f43 7 rfl, rgn Tryd.f43 8 rfl, cf, g1, hlen, hge, hget_last, set_last, hks.1, hks.2, x1, x4, x5, y1, yb2, thenDraw_append, thenDraw_store]
  have hlen1 := x3.1
  simp only [List.length_append, List.length_cons, List.length_nil] at hlen1
  have kf : Kf S h (H1.set S (.vars [v, .int b, .val (.bool false), .int w])) := ⟨by simp; omega, fun j o ej h1 h2 h3 => by
    rw [hget_set_ne (by omega)]
    exact x3.2 j o (by rw [hget_app _ (hlt_of ej h1)]; exact ej) h1 h3⟩
  obtain ⟨H', z1, z2, z3, z4⟩ := doCall_sp5 md43 e hs0 ⟨v, hget_set_eq hS1, nn_set x2 y1⟩ kf.1
  refine ⟨H', z1, z2, kf.agree z3 z4, fun A' n g' c he => ?_⟩
  rw [z4 S hS, hget_set_eq hS1, hv] at he
  simp only [AObj.vars.injEq, List.cons.injEq, AV.arr.injEq] at he
  obtain ⟨⟨rfl, _⟩, _⟩ := he
  rcases hA with hA | ⟨g0, hA⟩
  · simp only [List.length_append, List.length_cons, List.length_nil] at hA; exact .inl (by omega)
  · exact .inr ⟨_, g0, _, by rw [h1, hA]⟩
theorem belowL_mem : ∀ {n : Nat} {l : List AV}, belowL n l = true → ∀ x ∈ l, below n x = true
  | n, [], _, x, hx => by cases hx
  | n, a :: r, h, x, hx => by
    simp only [belowL, Bool.and_eq_true] at h
    rcases List.mem_cons.1 hx with rfl | hx
    · exact h.1
    · exact belowL_mem h.2 x hx
theorem hget_of_at {h H : AHeap} {i : Nat} (e : H[i]? = h[i]?) : hget H i = hget h i := by unfold hget; rw [List.getD_eq_getElem?_getD, e, ← List.getD_eq_getElem?_getD]
theorem gc_keep {h H : AHeap} {S : Nat} {ns ns' : List Nd} {b b' : Int} {f f' : Bool} {w w' : Int} (h0 : SP h S ns b f w) (h1 : SP H S ns' b' f' w') (hne : ns'.length ≠ ns.length) (hgt : ns.length ≤ ns'.length) (har : AR S h H) (hg : GcOk h.length h H) : ∀ n ∈ ns', below h.length n.kids = true := by
  have hne' : ns' ≠ [] := by rintro rfl; simp at hne hgt; simp [hgt] at hne
  obtain ⟨A, g, e1, e2⟩ := sp_arr h1 hne'
  obtain ⟨nv, a1, a2⟩ := h0
  have hS := hlt_of a1 (by simp)
  have hA : A < h.length := by
    rcases hg S hS with q | q
    · exfalso
      have := hget_of_at q
      rw [e1, a1] at this
      simp only [AObj.vars.injEq, List.cons.injEq] at this
      rcases a2 with ⟨_, a2⟩ | ⟨A', g', a2, _⟩
      · rw [a2] at this; cases this.1
      · rw [a2] at this
        have h5 := this.1
        simp only [AV.arr.injEq] at h5
        omega
    · rw [e1] at q
      simp only [belowO, belowL, below, Bool.and_eq_true, decide_eq_true_eq] at q
      exact q.1
  rcases har A _ g _ e1 with q | ⟨n0, g0, c0, q⟩
  · omega
  · rw [a1] at q
    simp only [AObj.vars.injEq, List.cons.injEq] at q
    rcases a2 with ⟨_, a2⟩ | ⟨A', g', a2, a3⟩
    · rw [a2] at q; cases q.1
    · rw [a2] at q
      have h5 := q.1
      simp only [AV.arr.injEq] at h5
      obtain ⟨rfl, _⟩ := h5
      rcases hg A' hA with z | z
      · exfalso
        have := hget_of_at z
        rw [e2, a3] at this
        simp only [AObj.arr.injEq] at this
        have := congrArg List.length this.2.1
        simp at this
        exact hne this
      · rw [e2] at z
        intro n hn
        have := belowL_mem z (ndV n) (List.mem_map.2 ⟨n, hn, rfl⟩)
        have := belowL_mem (l := [.int n.kind, .str (txt n.pkg), .str (txt n.name), n.kids, .int n.level, .int n.to, .int n.mark]) (by unfold ndV at this; simpa only [below] using this) n.kids (by simp)
        exact this
theorem doCall_imp {f : FuncId} {vs : List AV} {h H : AHeap} {res : AV} {S B' : Nat} {ns ns' : List Nd} {b b' : Int} {f0 f1 : Bool} {w w' : Int} {sh' : List Sh} {rt r : Nat → Nat} {vis : Nat → Bool} (hm : md f = 1) (e : aval Tryd.prog md fg f vs h = some (res, H)) (h0 : SP h S ns b f0 w) (h1 : SP H S ns' b' f1 w') (hn : NR H S B' sh' rt r vis w' ns') (hB : B' ≤ H.length) (hl : h.length ≤ H.length) (hgt : ns.length ≤ ns'.length) (hnew : ns'.length ≠ ns.length ∨ B' ≤ h.length) (har : AR S h H) :
    ∃ H' B'', doCall md (aval Tryd.prog md fg) f vs h = some (res, H') ∧ SP H' S ns' b' f1 w' ∧ NR H' S B'' sh' rt r vis w' ns' ∧ B'' ≤ H'.length ∧ (B'' ≤ B' ∨ B'' ≤ h.length) ∧ h.length ≤ H'.length ∧ (∀ j, j < h.length → hget H' j = hget H j) ∧ AR S h H' := by
  have hS : S < h.length := by obtain ⟨_, q, _⟩ := h0; exact hlt_of q (by simp)
  obtain ⟨H', z1, z2, z3, z4⟩ := doCall_sp5 hm e h0 h1 hl
  rw [doCall_0 (by omega)] at z1
  unfold doCall0 at z1
  rw [if_neg (by omega), rated_id (by omega), e] at z1
  dsimp only at z1
  split at z1
  · rename_i hg
    cases z1
    have hz : doCall md (aval Tryd.prog md fg) f vs h = some (res, H.take h.length) := by
      rw [doCall_0 (by omega)]; unfold doCall0
      rw [if_neg (by omega), rated_id (by omega), e]
      dsimp only
      rw [if_pos hg]
    rcases hnew with hnew | hnew
    · have hk := gc_keep h0 h1 hnew hgt har hg.2
      refine ⟨_, h.length, hz, z2, ⟨hn.1, fun i n s q1 q2 => ?_⟩, z3, .inr (Nat.le_refl _), z3, z4, har.same (z4 S hS)⟩
      have y := hn.2 i n s q1 q2
      refine ⟨y.kind, y.pkg, y.name, ?_, y.to, y.mark, y.le⟩
      have hb := hk n (List.mem_of_getElem? q1)
      rcases y.kids with y | ⟨K, g, y1, y2, y3, y4⟩
      · exact .inl y
      · rw [y1] at hb
        have hK : K < h.length := by simpa [below] using hb
        exact .inr ⟨K, g, y1, by rw [z4 K hK]; exact y2, y3, hK⟩
    · exact ⟨_, B', hz, z2, hn.agree hnew z4, by omega, .inl (Nat.le_refl _), z3, z4, har.same (z4 S hS)⟩
  · rename_i hg
    cases z1
    have hz : doCall md (aval Tryd.prog md fg) f vs h = some (res, H) := by
      rw [doCall_0 (by omega)]; unfold doCall0
      rw [if_neg (by omega), rated_id (by omega), e]
      dsimp only
      rw [if_neg hg]
    exact ⟨H, B', hz, h1, hn, hB, .inl (Nat.le_refl _), hl, fun _ _ => rfl, har⟩
def idf : Nat → Nat := fun i => i
def yes : Nat → Bool := fun _ => true
theorem NR.add {h H : AHeap} {S B B' : Nat} {sh : List Sh} {ns : List Nd} (x : NR h S B sh idf idf yes 0 ns) (hB : B ≤ B') (ha : ∀ v kl, KB h S B v kl → KB H S B' v kl) {n : Nd} {s : Sh} (hk : n.kind = s.kind) (hp : n.pkg = s.pkg) (hm : n.name = s.name) (hkb : KB H S B' n.kids (ints s.kids)) (hto : n.to = (sh.length : Int)) (hmk : n.mark = 0) : NR H S B' (sh ++ [s]) idf idf yes 0 (ns ++ [n]) := by
  refine ⟨by simp [x.1], fun i m t h1 h2 => ?_⟩
  by_cases hi : i < sh.length
  · rw [List.getElem?_append_left (by rw [x.1]; exact hi)] at h1
    rw [List.getElem?_append_left hi] at h2
    have y := x.2 i m t h1 h2
    obtain ⟨j, j1, j2, j3⟩ := y.to
    exact ⟨y.kind, y.pkg, y.name, ha _ _ y.kids, ⟨j, j1, by simp; omega, j3⟩, y.mark, y.le⟩
  · have hl := lt_of_at h1
    have : i = sh.length := by simp [x.1] at hl; omega
    subst this
    rw [List.getElem?_append_right (by rw [x.1]; exact Nat.le_refl _), x.1, Nat.sub_self] at h1
    rw [List.getElem?_append_right (Nat.le_refl _), Nat.sub_self] at h2
    cases h1; cases h2
    exact ⟨hk, hp, hm, hkb, ⟨sh.length, hto, by simp, rfl, .inl rfl, fun _ => rfl, fun _ => rfl⟩, by rw [hmk]; simp [yes], by rw [hmk]; exact Int.le_refl _⟩
theorem var_c2 {h : AHeap} {S : Nat} {ns : List Nd} {w : Int} (hs : SP h S ns 200000 false w) (hlt : ns.length < 200000) (l : Int) : ∃ H, doCall md (aval Tryd.prog md fg) 27 [.ptr S 0, .int l] h = some (.int ns.length, H) ∧ SP H S (ns ++ [vNd l ns.length]) 200000 false w ∧ Kf S h H ∧ AR S h H := by
  have hS : S < h.length := by obtain ⟨_, q, _⟩ := hs; exact hlt_of q (by simp)
  obtain ⟨H, c, h1, h2, h3⟩ := put_c6 hs (by omega) (by omega) 1 [] [] (.slc true []) slcOk l 0 0
  rw [nd0] at c
  have e : aval Tryd.prog md fg 27 [.ptr S 0, .int l] h = some (.int ns.length, H) := by
    rw [aval_of Tryd.func27 body27 Tryd.results27 Tryd.ntmps27 ok27]
    simp (implicitDefEqProofs := false) (disch := omega) only [go_sem, seval, rgn Tryd.f27 0 rfl, rgn Tryd.f27 1 rfl, c]
  obtain ⟨H', z1, z2, z3, z4⟩ := doCall_sp5 md27 e hs h1 h2.1
  exact ⟨H', z1, z2, h2.agree z3 z4, h3.same (z4 S hS)⟩
def SO (h : AHeap) (Z S V : Nat) (nv : AV) : Prop := hget h Z = .vars [.ptr S 0, .mp V, nv]
theorem fresh_c {h : AHeap} {S V Z q : Nat} {nv : AV} {ns : List Nd} {w : Int} (hs : SP h S ns 200000 false w) (hlt : ns.length < 200000) (hq : hget h q = .vars [.ptr Z 0]) (hz : SO h Z S V nv) : ∃ H, doCall md (aval Tryd.prog md fg) 55 [.ptr q 0] h = some (.int ns.length, H) ∧ SP H S (ns ++ [vNd 0 ns.length]) 200000 false w ∧ Kf S h H ∧ AR S h H := by
  have hS : S < h.length := by obtain ⟨_, q, _⟩ := hs; exact hlt_of q (by simp)
  obtain ⟨H, c, h1, h2, h3⟩ := var_c2 hs hlt 0
  unfold SO at hz
  have e : aval Tryd.prog md fg 55 [.ptr q 0] h = some (.int ns.length, H) := by
    rw [aval_of Tryd.func55 body55 Tryd.results55 Tryd.ntmps55 ok55]
    simp (implicitDefEqProofs := false) (disch := omega) only [go_sem, seval, rgn Tryd.f55 0 rfl, rgn Tryd.f55 1 rfl, hq, hz, c]
  obtain ⟨H', z1, z2, z3, z4⟩ := doCall_sp5 md55 e hs h1 h2.1
  exact ⟨H', z1, z2, h2.agree z3 z4, h3.same (z4 S hS)⟩
theorem cloneI_0 {h : AHeap} {k g : Nat} (hk : hget h k = .arr 1 [] g) : doCall md (aval Tryd.prog md fg) 45 [.arr k 0 0 g 1] h = some (.slc true [], h) := by
  have hv : sview h (.arr k 0 0 g 1) = some [] := sview_arr _ _ _ _ _ hk rfl
  have ha : ∀ z, appT (some (1, 8, z)) h (.slc true []) (some []) = some (.slc true [], h) := fun z => appT_slc0 _ _ _ _ rfl
  have e : aval Tryd.prog md fg 45 [.arr k 0 0 g 1] h = some (.slc true [], h) := by
    rw [aval_of Tryd.func45 body45 Tryd.results45 Tryd.ntmps45 ok45]
    simp (implicitDefEqProofs := false) (disch := omega) only [go_sem, seval, rgn Tryd.f45 0 rfl, rgn Tryd.f45 1 rfl, rgn Tryd.f45 3 rfl, nilA85, hv, ha]
  have hs : splitNil md 45 [.arr k 0 0 g 1] = none := rfl
  unfold doCall
  rw [hs]
  dsimp only
  unfold doCall0
  rw [if_neg (by decide)]
  have : rated (md 45) (aval Tryd.prog md fg 45 [.arr k 0 0 g 1] h) = aval Tryd.prog md fg 45 [.arr k 0 0 g 1] h := rfl
  rw [this, e]
  dsimp only
  rw [List.take_length, ite_self]
theorem make_c2 {h : AHeap} {S B : Nat} {sh : List Sh} {ns : List Nd} (hs : SP h S ns 200000 false 0) (hn : NR h S B sh idf idf yes 0 ns) (hB : B ≤ h.length) (hlt : sh.length < 200000) (kd : Int) (p m : List UInt8) {k g : Nat} {kl : List Nat} (hk : hget h k = .arr 1 ((ints kl).map AV.int) g) (hl : kl.length ≤ 100000) (hin : ∀ x ∈ kl, x < sh.length) :
    ∃ H B' n, doCall md (aval Tryd.prog md fg) 28 [.ptr S 0, .int kd, .str (txt p), .str (txt m), .arr k 0 kl.length g 1] h = some (.int sh.length, H) ∧ SP H S (ns ++ [n]) 200000 false 0 ∧ NR H S B' (sh ++ [⟨kd, p, m, kl⟩]) idf idf yes 0 (ns ++ [n]) ∧ B' ≤ H.length ∧ Kf S h H ∧ AR S h H ∧ (∀ K g l, n.kids = .arr K 0 l g 1 → h.length ≤ K) := by
  have hS : S < h.length := by obtain ⟨_, q, _⟩ := hs; exact hlt_of q (by simp)
  have hnl := hn.1
  have ct := there_c hs k g (ints kl) hk (by rw [ints_len]; omega)
  have hany : (ints kl).any (out ns.length) = false := by
    rw [List.any_eq_false]
    intro x hx
    obtain ⟨y, hy, rfl⟩ := List.mem_map.1 hx
    have := hin y hy
    rw [hnl]
    simp [out]; omega
  rw [hany, ints_len] at ct
  by_cases hne : kl = []
  · subst hne
    have cc := cloneI_0 hk
    obtain ⟨H, cp, p1, p2, p3⟩ := put_c6 hs (by omega) (by omega) kd p m (.slc true []) ⟨rfl, rfl⟩ 0 0 0
    rw [ndV_mk] at cp
    have e : aval Tryd.prog md fg 28 [.ptr S 0, .int kd, .str (txt p), .str (txt m), .arr k 0 ([] : List Nat).length g 1] h = some (.int ns.length, H) := by
      simp only [List.length_nil] at ct ⊢
      rw [aval_of Tryd.func28 body28 Tryd.results28 Tryd.ntmps28 ok28]
      simp (implicitDefEqProofs := false) (disch := omega) only [go_sem, seval, rgn Tryd.f28 0 rfl, rgn Tryd.f28 1 rfl, rgn Tryd.f28 3 rfl, ct, cc, cp]
    have hNR : NR H S B (sh ++ [⟨kd, p, m, []⟩]) idf idf yes 0 (ns ++ [⟨kd, p, m, .slc true [], 0, ns.length, 0⟩]) := hn.add (Nat.le_refl _) (fun _ _ x => x.kf p2) rfl rfl rfl (.inl ⟨rfl, rfl⟩) (by rw [hnl]) rfl
    obtain ⟨H', B'', z1, z2, z3, z4, _, z5, z6, z7⟩ := doCall_imp md28 e hs p1 hNR (Nat.le_trans hB p2.1) p2.1 (by simp) (.inl (by simp)) p3
    rw [hnl] at z1
    exact ⟨H', B'', _, z1, z2, z3, z4, p2.agree z5 z6, z7, fun K g l e => by cases e⟩
  · have cc := cloneI_c (l := ints kl) hk (by rw [ints_len]; omega) (by intro e; exact hne (by simpa [ints] using e))
    rw [ints_len] at cc
    obtain ⟨H, cp, p1, p2, p3⟩ := put_c6 (sp_app hs [.arr 1 ((ints kl).map AV.int) 0]) (by omega) (by omega) kd p m (.arr h.length 0 kl.length 0 1) ⟨rfl, rfl⟩ 0 0 0
    rw [ndV_mk] at cp
    have e : aval Tryd.prog md fg 28 [.ptr S 0, .int kd, .str (txt p), .str (txt m), .arr k 0 kl.length g 1] h = some (.int ns.length, H) := by
      rw [aval_of Tryd.func28 body28 Tryd.results28 Tryd.ntmps28 ok28]
      simp (implicitDefEqProofs := false) (disch := omega) only [go_sem, seval, rgn Tryd.f28 0 rfl, rgn Tryd.f28 1 rfl, rgn Tryd.f28 3 rfl, ct, cc, cp]
    have k0 := kf_app S h [.arr 1 ((ints kl).map AV.int) 0]
    have kf := k0.trans p2
    have hK : hget H h.length = .arr 1 ((ints kl).map AV.int) 0 := p2.2 _ _ hget_last (by simp) (by omega) (by simp)
    have hNR : NR H S (h.length + 1) (sh ++ [⟨kd, p, m, kl⟩]) idf idf yes 0 (ns ++ [⟨kd, p, m, .arr h.length 0 kl.length 0 1, 0, ns.length, 0⟩]) := hn.add (by omega) (fun _ _ x => (x.kf kf).mono (by omega)) rfl rfl rfl (.inr ⟨h.length, 0, by rw [ints_len], hK, by omega, by omega⟩) (by rw [hnl]) rfl
    have hHl : h.length + 1 ≤ H.length := by have := p2.1; simp at this; omega
    have har : AR S h H := (AR.app hS _).trans p3 (by simp)
    obtain ⟨H', B'', z1, z2, z3, z4, _, z5, z6, z7⟩ := doCall_imp md28 e hs p1 hNR hHl kf.1 (by simp) (.inl (by simp)) har
    rw [hnl] at z1
    exact ⟨H', B'', _, z1, z2, z3, z4, kf.agree z5 z6, z7, fun K g l e => by simp only [AV.arr.injEq] at e; omega⟩
mutual
def Tm.ty : Tm → Prop | .mk k p m n l => (1 ≤ k ∧ k ≤ 4 ∧ n = 0 ∧ (k = 1 → l = [] ∧ p = [])) ∧ Tm.tys l
def Tm.tys : List Tm → Prop | [] => True | t :: r => t.ty ∧ Tm.tys r
end
theorem tys_mem : ∀ {l : List Tm}, Tm.tys l → ∀ t ∈ l, t.ty
  | [], _, t, h => by cases h
  | a :: r, h, t, ht => by
    rw [Tm.tys] at h
    rcases List.mem_cons.1 ht with rfl | ht
    · exact h.1
    · exact tys_mem h.2 t ht
mutual
def inst (th : List UInt8 → Tm) : Tm → Tm | .mk k p m n l => if k = 1 then th m else .mk k p m 0 (insts th l)
def insts (th : List UInt8 → Tm) : List Tm → List Tm | [] => [] | t :: r => inst th t :: insts th r
end
theorem insts_eq (th : List UInt8 → Tm) : ∀ l, insts th l = l.map (inst th)
  | [] => by simp [insts]
  | t :: r => by rw [insts, insts_eq th r]; rfl
theorem inst_mk (th : List UInt8 → Tm) (k : Int) (p m : List UInt8) (n : Int) (l : List Tm) : inst th (.mk k p m n l) = if k = 1 then th m else .mk k p m 0 (l.map (inst th)) := by rw [inst, insts_eq]
mutual
def tvars : Tm → List (List UInt8) | .mk k p m n l => if k = 1 then [m] else tvarss l
def tvarss : List Tm → List (List UInt8) | [] => [] | t :: r => tvars t ++ tvarss r
end
theorem tvarss_mem : ∀ {l : List Tm} {n : List UInt8}, n ∈ tvarss l ↔ ∃ t ∈ l, n ∈ tvars t
  | [], n => by simp [tvarss]
  | t :: r, n => by rw [tvarss, List.mem_append, tvarss_mem]; simp
mutual
theorem inst_congr {th th' : List UInt8 → Tm} : ∀ (t : Tm), (∀ n ∈ tvars t, th n = th' n) → inst th t = inst th' t
  | .mk k p m n l, h => by
    rw [inst, inst]
    rw [tvars] at h
    by_cases hk : k = 1
    · rw [if_pos hk, if_pos hk]; rw [if_pos hk] at h; exact h m (by simp)
    · rw [if_neg hk, if_neg hk]; rw [if_neg hk] at h; rw [insts_congr l h]
theorem insts_congr {th th' : List UInt8 → Tm} : ∀ (l : List Tm), (∀ n ∈ tvarss l, th n = th' n) → insts th l = insts th' l
  | [], _ => by simp [insts]
  | t :: r, h => by
    rw [insts, insts, inst_congr t fun n hn => h n (by rw [tvarss]; simp [hn]), insts_congr r fun n hn => h n (by rw [tvarss]; simp [hn])]
end
def kc (sh : List Sh) : Nat := (sh.map fun s => s.kids.length).sum
theorem wt_none : ∀ (sh : List Sh) (i : Nat), wt sh (fun _ => false) i = kc sh
  | [], i => rfl
  | s :: r, i => by unfold wt; rw [wt_none r (i + 1)]; simp [kc]
theorem kc_add (sh : List Sh) (s : Sh) : kc (sh ++ [s]) = kc sh + s.kids.length := by simp [kc]
def vmap (P : SMap) (n : List UInt8) : Nat := (mg P n).getD 0
abbrev vSh : Sh := ⟨1, [], [], []⟩
structure IP (sh : List Sh) (P : SMap) : Prop where
  ok : Ok sh idf idf
  var : ∀ n (i : Nat), mg P n = some i → sh[i]? = some vSh
  inj : ∀ n m (i : Nat), mg P n = some i → mg P m = some i → n = m
  sur : ∀ (i : Nat) (s : Sh), sh[i]? = some s → s.kind = 1 → ∃ n, mg P n = some i
  fit : ∀ (i : Nat) (s : Sh), sh[i]? = some s → s.pkg.length ≤ 9223372036854775807 ∧ s.name.length ≤ 9223372036854775807 ∧ 1 ≤ s.kind ∧ s.kind ≤ 4
structure IE (sh : List Sh) (P : SMap) (vs : List (List UInt8)) (sh' : List Sh) (P' : SMap) : Prop where
  ext : ∃ e, sh' = sh ++ e
  keep : ∀ n (i : Nat), mg P n = some i → mg P' n = some i
  has : ∀ n ∈ vs, ∃ i, mg P' n = some i
  only : ∀ n (i : Nat), mg P' n = some i → mg P n = some i ∨ n ∈ vs
theorem IE.refl (sh : List Sh) (P : SMap) : IE sh P [] sh P := ⟨⟨[], by simp⟩, fun _ _ h => h, by simp, fun _ _ h => .inl h⟩
theorem IE.trans {a b c : List Sh} {P Q R : SMap} {u v : List (List UInt8)} (x : IE a P u b Q) (y : IE b Q v c R) : IE a P (u ++ v) c R := by
  obtain ⟨e, rfl⟩ := x.ext
  obtain ⟨e', rfl⟩ := y.ext
  refine ⟨⟨e ++ e', by simp⟩, fun n i h => y.keep n i (x.keep n i h), fun n hn => ?_, fun n i h => ?_⟩
  · rcases List.mem_append.1 hn with hn | hn
    · obtain ⟨i, hi⟩ := x.has n hn
      exact ⟨i, y.keep n i hi⟩
    · exact y.has n hn
  · rcases y.only n i h with h | h
    · rcases x.only n i h with h | h
      · exact .inl h
      · exact .inr (by simp [h])
    · exact .inr (by simp [h])
theorem IE.mem {a b : List Sh} {P Q : SMap} {u v : List (List UInt8)} (x : IE a P u b Q) (h : ∀ n, n ∈ u ↔ n ∈ v) : IE a P v b Q :=
  ⟨x.ext, x.keep, fun n hn => x.has n ((h n).2 hn), fun n i hi => (x.only n i hi).imp id (h n).1⟩
theorem con_pre {sh e : List Sh} {M : Nat → Tm} (h : Con (sh ++ e) M) : Con sh M := fun i s hi hk => h i s (by rw [List.getElem?_append_left (lt_of_at hi)]; exact hi) hk
theorem IE.con {a b : List Sh} {P Q : SMap} {u : List (List UInt8)} (x : IE a P u b Q) {M : Nat → Tm} (h : Con b M) : Con a M := by
  obtain ⟨e, rfl⟩ := x.ext; exact con_pre h
theorem IE.len {a b : List Sh} {P Q : SMap} {u : List (List UInt8)} (x : IE a P u b Q) : a.length ≤ b.length := by
  obtain ⟨e, rfl⟩ := x.ext; simp
def Val (sh : List Sh) (P : SMap) (id : Nat) (t : Tm) : Prop := id < sh.length ∧ (∀ n ∈ tvars t, ∃ i, mg P n = some i) ∧ ∀ M, Con sh M → M id = inst (fun n => M (vmap P n)) t
theorem Val.ext {a b : List Sh} {P Q : SMap} {u : List (List UInt8)} (x : IE a P u b Q) {id : Nat} {t : Tm} (v : Val a P id t) : Val b Q id t := by
  obtain ⟨h1, h2, h3⟩ := v
  refine ⟨Nat.lt_of_lt_of_le h1 x.len, fun n hn => ?_, fun M hm => ?_⟩
  · obtain ⟨i, hi⟩ := h2 n hn
    exact ⟨i, x.keep n i hi⟩
  · rw [h3 M (x.con hm)]
    refine inst_congr t fun n hn => ?_
    obtain ⟨i, hi⟩ := h2 n hn
    show M ((mg P n).getD 0) = M ((mg Q n).getD 0)
    rw [hi, x.keep n i hi]
theorem ok_add {sh : List Sh} (ok : Ok sh idf idf) (s : Sh) (hk : ∀ k ∈ s.kids, k < sh.length) (h1 : s.kind = 1 → s.kids = []) (h5 : s.kind ≠ 5) : Ok (sh ++ [s]) idf idf := by
  refine ⟨fun i hi => hi, fun _ _ => rfl, fun _ _ _ _ => rfl, fun i t k hi hkk => ?_, fun _ _ => Nat.le_refl _, fun i t hi ht => ?_, fun i t hi => ?_⟩
  all_goals
    by_cases hl : i < sh.length
    · rw [List.getElem?_append_left hl] at hi
      first
        | exact ⟨by have := (ok.kid i t k hi hkk).1; simp; omega, (ok.kid i t k hi hkk).2⟩
        | exact ok.var i t hi ht
        | exact ok.rig i t hi
    · have hl2 := lt_of_at hi
      have : i = sh.length := by simp at hl2; omega
      subst this
      rw [List.getElem?_append_right (Nat.le_refl _), Nat.sub_self] at hi
      cases hi
      first
        | exact ⟨by have := hk k hkk; simp; omega, hk k hkk⟩
        | exact h1 ht
        | exact h5
theorem fit_add {sh : List Sh} {P : SMap} (ip : IP sh P) {t : Sh} (ht : t.pkg.length ≤ 9223372036854775807 ∧ t.name.length ≤ 9223372036854775807 ∧ 1 ≤ t.kind ∧ t.kind ≤ 4) : ∀ (i : Nat) (s : Sh), (sh ++ [t])[i]? = some s → s.pkg.length ≤ 9223372036854775807 ∧ s.name.length ≤ 9223372036854775807 ∧ 1 ≤ s.kind ∧ s.kind ≤ 4 := fun i s h => by
  by_cases hl : i < sh.length
  · rw [List.getElem?_append_left hl] at h
    exact ip.fit i s h
  · have hl2 := lt_of_at h
    have : i = sh.length := by simp at hl2; omega
    subst this
    rw [List.getElem?_append_right (Nat.le_refl _), Nat.sub_self] at h
    cases h
    exact ht
theorem ip_var {sh : List Sh} {P : SMap} (ip : IP sh P) {n : List UInt8} (hn : mg P n = none) : IP (sh ++ [vSh]) (mset P n sh.length) ∧ IE sh P [n] (sh ++ [vSh]) (mset P n sh.length) := by
  have hlt : ∀ m (i : Nat), mg P m = some i → i < sh.length := fun m i h => lt_of_at (ip.var m i h)
  refine ⟨⟨ok_add ip.ok vSh (by simp) (fun _ => rfl) (by simp), fun m i h => ?_, fun m m' i h h' => ?_, fun i s h hk => ?_, fit_add ip (by simp)⟩, ⟨⟨_, rfl⟩, fun m i h => ?_, fun m hm => ?_, fun m i h => ?_⟩⟩
  · rw [mg_mset] at h
    split at h
    · cases h; rw [List.getElem?_append_right (Nat.le_refl _), Nat.sub_self]; rfl
    · rw [List.getElem?_append_left (hlt m i h)]; exact ip.var m i h
  · rw [mg_mset] at h h'
    split at h
    · cases h
      split at h'
      · rename_i e1 e2; rw [e1, e2]
      · have := hlt m' _ h'; omega
    · split at h'
      · cases h'; have := hlt m _ h; omega
      · exact ip.inj m m' i h h'
  · by_cases hl : i < sh.length
    · rw [List.getElem?_append_left hl] at h
      obtain ⟨m, hm⟩ := ip.sur i s h hk
      refine ⟨m, ?_⟩
      rw [mg_mset, if_neg (by rintro rfl; rw [hn] at hm; cases hm)]; exact hm
    · have hl2 := lt_of_at h
      have : i = sh.length := by simp at hl2; omega
      subst this
      exact ⟨n, by rw [mg_mset, if_pos rfl]⟩
  · rw [mg_mset, if_neg (by rintro rfl; rw [hn] at h; cases h)]; exact h
  · rw [List.mem_singleton.1 hm]; exact ⟨_, by rw [mg_mset, if_pos rfl]⟩
  · rw [mg_mset] at h
    split at h
    · rename_i e; exact .inr (by simp [e])
    · exact .inl h
theorem ip_node {sh : List Sh} {P : SMap} (ip : IP sh P) {s : Sh} (hk : ∀ k ∈ s.kids, k < sh.length) (h1 : s.kind ≠ 1) (h5 : s.kind ≠ 5) (hf : s.pkg.length ≤ 9223372036854775807 ∧ s.name.length ≤ 9223372036854775807 ∧ 1 ≤ s.kind ∧ s.kind ≤ 4) : IP (sh ++ [s]) P ∧ IE sh P [] (sh ++ [s]) P := by
  refine ⟨⟨ok_add ip.ok s hk (fun e => absurd e h1) h5, fun m i h => ?_, ip.inj, fun i t h hkk => ?_, fit_add ip hf⟩, ⟨_, rfl⟩, fun _ _ h => h, by simp, fun _ _ h => .inl h⟩
  · have := ip.var m i h
    rw [List.getElem?_append_left (lt_of_at this)]; exact this
  · by_cases hl : i < sh.length
    · rw [List.getElem?_append_left hl] at h
      exact ip.sur i t h hkk
    · have hl2 := lt_of_at h
      have : i = sh.length := by simp at hl2; omega
      subst this
      rw [List.getElem?_append_right (Nat.le_refl _), Nat.sub_self] at h
      cases h
      exact absurd hkk h1
theorem tszs_app (a : List Tm) (k : Tm) : tszs (a ++ [k]) = tszs a + tsz k := by
  induction a with
  | nil => simp [tszs]
  | cons x r ih => rw [List.cons_append, tszs, tszs, ih]; omega
theorem tvarss_app (a : List Tm) (k : Tm) : tvarss (a ++ [k]) = tvarss a ++ tvars k := by
  induction a with
  | nil => simp [tvarss]
  | cons x r ih => rw [List.cons_append, tvarss, tvarss, ih, List.append_assoc]
theorem tsz_pos : ∀ t : Tm, 1 ≤ tsz t | .mk _ _ _ _ _ => by rw [tsz]; omega
mutual
def sameT : Tm → Tm → Bool
  | .mk k p m n l, .mk k' p' m' n' l' => (k == k') && (decide (p = p') && (decide (m = m') && ((n == n') && (decide (l.length = l'.length) && sameTs l l'))))
def sameTs : List Tm → List Tm → Bool
  | [], _ => true
  | _ :: _, [] => true
  | t :: r, u :: s => sameT t u && sameTs r s
end
theorem solid2 (a b : Tm) : solidL [tmV a, tmV b] = true := by simp only [solidL, solid_tm, Bool.and_self]
theorem solid1 (a : Tm) : solidL [tmV a] = true := by simp only [solidL, solid_tm, Bool.and_self]
abbrev Vl := List UInt8 × Tm
def fv (k : List UInt8) : List Vl → Nat → Option (Nat × Tm)
  | [], _ => none
  | e :: r, i => if e.1 = k then some (i, e.2) else fv k r (i + 1)
theorem fv_at (k : List UInt8) : ∀ (l : List Vl) (i : Nat) (j : Nat) (t : Tm), fv k l i = some (j, t) → i ≤ j ∧ l[j - i]? = some (k, t)
  | [], i, j, t, h => by cases h
  | e :: r, i, j, t, h => by
    unfold fv at h
    split at h
    · rename_i hk
      cases h
      exact ⟨Nat.le_refl _, by rw [Nat.sub_self, ← hk]; rfl⟩
    · obtain ⟨h1, h2⟩ := fv_at k r (i + 1) j t h
      exact ⟨by omega, by rw [show j - i = (j - (i + 1)) + 1 by omega, List.getElem?_cons_succ]; exact h2⟩
def Z (t : Tm) : Prop := pcall Tryd.prog md fg 15 [tmV t] = some (.int (tsz t : Int))
theorem z_loop (k : Int) (p m : List UInt8) (n : Int) (l : List Tm) (hl : tszs l ≤ 100000) (hZ : ∀ t ∈ l, Z t) (hlen : l.length ≤ 100000) : ∀ (r : List Tm) (i : Nat) (c : Nat), l.drop i = r → i ≤ l.length → c + tszs r ≤ 200000 →
    lrun Tryd.prog md fg (fg 15) (loopOf Tryd.f15 0) (fg 15 1) ([.unk, .ptr 0 0, .unk, .int c, .int i, .unk, .unk, .unk, .unk, .unk, .unk, .unk, .unk, .unk, .unk, .unk, .unk, .unk, .unk, .unk, .unk]) [.vars [.int k, .str (txt p), .str (txt m), .int n, .slc false (l.map tmV)]] = some (.exit 0, [.unk, .ptr 0 0, .unk, .int (c + tszs r : Nat), .int l.length, .unk, .unk, .unk, .unk, .unk, .unk, .unk, .unk, .unk, .unk, .unk, .unk, .unk, .unk, .unk, .unk], [.vars [.int k, .str (txt p), .str (txt m), .int n, .slc false (l.map tmV)]])
  | [], i, c, hdr, hi, hc => by
    have : i = l.length := by have := congrArg List.length hdr; simp at this; omega
    subst this
    rw [tszs, Nat.add_zero]
    rw [lrun_atC loop15_0]
    simp (implicitDefEqProofs := false) (disch := omega) only [go_sem, seval, rgn Tryd.f15 3 rfl, List.length_map]
  | ⟨k2, p2, m2, n2, l2⟩ :: r, i, c, hdr, hi, hc => by
    have hx : l[i]? = some ⟨k2, p2, m2, n2, l2⟩ := by have := congrArg (·[0]?) hdr; simpa using this
    have hlt : i < l.length := (List.getElem?_eq_some_iff.1 hx).1
    have hd' : l.drop (i + 1) = r := by rw [← List.tail_drop, hdr]; rfl
    have ht : ((i : Int)).toNat = i := by omega
    rw [tszs] at hc ⊢
    have cz : ∀ h : AHeap, doCall md (aval Tryd.prog md fg) 15 [tmV ⟨k2, p2, m2, n2, l2⟩] h = some (.int (tsz ⟨k2, p2, m2, n2, l2⟩ : Nat), h) := fun h => doCall_pure md15 (solid1 _) (hZ _ (List.mem_of_getElem? hx))
    generalize tsz ⟨k2, p2, m2, n2, l2⟩ = w at *
    have ih := z_loop k p m n l hl hZ hlen r (i + 1) (c + w) hd' (by omega) (by omega)
    rw [tmV_mk] at cz
    rw [← Nat.add_assoc, ← ih]
    rw [lrun_atC loop15_0]
    simp (implicitDefEqProofs := false) (disch := omega) only [go_sem, seval, rgn Tryd.f15 3 rfl, rgn Tryd.f15 4 rfl, rgn Tryd.f15 5 rfl, List.length_map, List.getElem?_map, ht, hx, Option.map_some, tmV_mk, cz]
    all_goals (congr 1 <;> simp only [List.cons.injEq, AV.val.injEq, Value.int.injEq, Value.bool.injEq, true_and, and_true] <;> omega)
mutual
theorem Z_all : ∀ t : Tm, tsz t ≤ 100000 → Z t
  | ⟨k, p, m, n, l⟩, h => by
    have h0 := h
    rw [tsz] at h
    have hl : ∀ l : List Tm, l.length ≤ tszs l := by
      intro l
      induction l with
      | nil => simp
      | cons a b ih => have := tsz_pos a; simp only [tszs, List.length_cons]; omega
    have hll := hl l
    have ih := z_loop k p m n l (by omega) (Z_alls l (by omega)) (by omega) l 0 1 (by simp) (by omega) (by omega)
    have e : ∃ h, aval Tryd.prog md fg 15 [tmV ⟨k, p, m, n, l⟩] [] = some (.int (tsz ⟨k, p, m, n, l⟩ : Nat), h) := by
      rw [tmV_mk, tsz]
      simp only [Int.natCast_zero, Int.natCast_one] at ih
      rw [aval_of Tryd.func15 body15 Tryd.results15 Tryd.ntmps15 ok15]
      simp (implicitDefEqProofs := false) (disch := omega) only [go_sem, seval, rgn Tryd.f15 0 rfl, rgn Tryd.f15 1 rfl, rgn Tryd.f15 2 rfl, rgn Tryd.f15 6 rfl, ih]
      exact ⟨_, rfl⟩
    obtain ⟨h, e⟩ := e
    unfold Z
    rw [pcall_eq, e, pureRes_solid rfl]
theorem Z_alls : ∀ l : List Tm, tszs l ≤ 100000 → ∀ t ∈ l, Z t
  | [], _, t, h => by cases h
  | a :: r, hs, t, h => by
    rw [tszs] at hs
    rcases List.mem_cons.1 h with h | h
    · rw [h]; exact Z_all a (by omega)
    · exact Z_alls r (by omega) t h
end
def Q2 (t : Tm) : Prop := ∀ u : Tm, u.fit → pcall Tryd.prog md fg 16 [tmV t, tmV u] = some (.val (.bool (sameT t u)))
theorem r14_loop (k : Int) (p m : List UInt8) (n : Int) (l : List Tm) (k' : Int) (p' m' : List UInt8) (n' : Int) (l' : List Tm) (hl : l.length ≤ 9223372036854775807) (hll : l.length = l'.length) (hQ : ∀ t ∈ l, Q2 t) (hf : ∀ u ∈ l', u.fit) : ∀ (r : List Tm) (i : Nat), l.drop i = r → i ≤ l.length → ∃ (i' : Int),
    lrun Tryd.prog md fg (fg 16) (loopOf Tryd.f16 0) (fg 16 1) ((.unk :: .unk :: (.ptr 0 0) :: (.ptr 1 0) :: (.val (.bool false)) :: (.int i) :: .unk :: .unk :: .unk :: .unk :: .unk :: .unk :: .unk :: .unk :: .unk :: .unk :: .unk :: .unk :: .unk :: .unk :: .unk :: .unk :: .unk :: .unk :: .unk :: .unk :: .unk :: .unk :: .unk :: .unk :: .unk :: .unk :: .unk :: .unk :: .unk :: .unk :: .unk :: .unk :: .unk :: .unk :: .unk :: .unk :: .unk :: .unk :: .unk :: .unk :: .unk :: .unk :: .unk :: .unk :: .unk :: .unk :: .unk :: .unk :: .unk :: .unk :: .unk :: .unk :: .unk :: .unk :: [] : List AV)) [.vars [.int k, .str (txt p), .str (txt m), .int n, .slc false (l.map tmV)], .vars [.int k', .str (txt p'), .str (txt m'), .int n', .slc false (l'.map tmV)]] = some (if sameTs r (l'.drop i) then .exit 0 else .ret, (.unk :: .unk :: (.ptr 0 0) :: (.ptr 1 0) :: (.val (.bool false)) :: (.int i') :: .unk :: .unk :: .unk :: .unk :: .unk :: .unk :: .unk :: .unk :: .unk :: .unk :: .unk :: .unk :: .unk :: .unk :: .unk :: .unk :: .unk :: .unk :: .unk :: .unk :: .unk :: .unk :: .unk :: .unk :: .unk :: .unk :: .unk :: .unk :: .unk :: .unk :: .unk :: .unk :: .unk :: .unk :: .unk :: .unk :: .unk :: .unk :: .unk :: .unk :: .unk :: .unk :: .unk :: .unk :: .unk :: .unk :: .unk :: .unk :: .unk :: .unk :: .unk :: .unk :: .unk :: .unk :: [] : List AV), [.vars [.int k, .str (txt p), .str (txt m), .int n, .slc false (l.map tmV)], .vars [.int k', .str (txt p'), .str (txt m'), .int n', .slc false (l'.map tmV)]])
  | [], i, hdr, hi => by
    have : i = l.length := by have := congrArg List.length hdr; simp at this; omega
    subst this
    refine ⟨(l.length : Int), ?_⟩
    simp only [sameTs, if_true]
    rw [lrun_atC loop16_0]
    simp (implicitDefEqProofs := false) (disch := omega) only [go_sem, seval, rgn Tryd.f16 4 rfl, List.length_map]
  | ⟨k2, p2, m2, n2, l2⟩ :: r, i, hdr, hi => by
    have hx : l[i]? = some ⟨k2, p2, m2, n2, l2⟩ := by have := congrArg (·[0]?) hdr; simpa using this
    have hlt : i < l.length := (List.getElem?_eq_some_iff.1 hx).1
    have hd' : l.drop (i + 1) = r := by rw [← List.tail_drop, hdr]; rfl
    have ht : ((i : Int)).toNat = i := by omega
    obtain ⟨u, hu⟩ : ∃ u, l'[i]? = some u := ⟨l'[i], List.getElem?_eq_getElem (by omega)⟩
    have hud : l'.drop i = u :: l'.drop (i + 1) := by
      rw [List.drop_eq_getElem_cons (by omega)]
      have := (List.getElem?_eq_some_iff.1 hu).2
      rw [this]
    have hq := hQ _ (List.mem_of_getElem? hx) u (hf u (List.mem_of_getElem? hu))
    have cy : ∀ h : AHeap, doCall md (aval Tryd.prog md fg) 16 [tmV ⟨k2, p2, m2, n2, l2⟩, tmV u] h = some (.val (.bool (sameT ⟨k2, p2, m2, n2, l2⟩ u)), h) := fun h => doCall_pure md16 (solid2 _ _) hq
    rw [hud]
    rw [sameTs]
    obtain ⟨k3, p3, m3, n3, l3⟩ := u
    rw [tmV_mk, tmV_mk] at cy
    generalize sameT ⟨k2, p2, m2, n2, l2⟩ ⟨k3, p3, m3, n3, l3⟩ = b at *
    cases b with
    | true =>
      obtain ⟨i', e2⟩ := r14_loop k p m n l k' p' m' n' l' hl hll hQ hf r (i + 1) hd' (by omega)
      refine ⟨i', ?_⟩
      rw [Bool.true_and, ← e2]
      rw [lrun_atC loop16_0]
      simp (implicitDefEqProofs := false) (disch := omega) only [go_sem, seval, rgn Tryd.f16 4 rfl, rgn Tryd.f16 5 rfl, rgn Tryd.f16 6 rfl, rgn Tryd.f16 7 rfl, List.length_map, List.getElem?_map, ht, hx, hu, Option.map_some, tmV_mk, cy]
      all_goals (congr 1 <;> simp only [List.cons.injEq, AV.val.injEq, Value.int.injEq, Value.bool.injEq, true_and, and_true] <;> omega)
    | false =>
      refine ⟨(i : Int), ?_⟩
      simp only [Bool.false_and, Bool.false_eq_true, if_false]
      rw [lrun_atC loop16_0]
      simp (implicitDefEqProofs := false) (disch := omega) only [go_sem, seval, rgn Tryd.f16 4 rfl, rgn Tryd.f16 5 rfl, rgn Tryd.f16 6 rfl, rgn Tryd.f16 7 rfl, List.length_map, List.getElem?_map, ht, hx, hu, Option.map_some, tmV_mk, cy]
mutual
theorem Q2_all : ∀ t : Tm, t.fit → Q2 t
  | ⟨k, p, m, n, l⟩, hf => by
    rw [Tm.fit] at hf
    obtain ⟨f1, f2, f3, f4⟩ := hf
    have ih := Q2_alls l f4
    intro u hu
    obtain ⟨k', p', m', n', l'⟩ := u
    rw [Tm.fit] at hu
    obtain ⟨g1, g2, g3, g4⟩ := hu
    have e : ∃ h, aval Tryd.prog md fg 16 [tmV ⟨k, p, m, n, l⟩, tmV ⟨k', p', m', n', l'⟩] [] = some (.val (.bool (sameT ⟨k, p, m, n, l⟩ ⟨k', p', m', n', l'⟩)), h) := by
      rw [tmV_mk, tmV_mk, sameT]
      have hp := str_eq p p'
      have hm := str_eq m m'
      have ek : (k == k') = decide (k = k') := rfl
      have en : (n == n') = decide (n = n') := rfl
      rw [ek, en]
      by_cases h1 : k = k'
      · by_cases h2 : p = p'
        · by_cases h3 : m = m'
          · by_cases h4 : n = n'
            · by_cases h5 : l.length = l'.length
              · subst h1; subst h2; subst h3; subst h4
                obtain ⟨i', e2⟩ := r14_loop k p m n l k p m n l' f3 h5 ih (fits_mem g4) l 0 (by simp) (by omega)
                simp only [Int.natCast_zero, List.drop_zero] at e2
                have h6 : ((l.length : Int) = (l'.length : Int)) = True := by simp [h5]
                generalize sameTs l l' = b at *
                rw [aval_of Tryd.func16 body16 Tryd.results16 Tryd.ntmps16 ok16]
                cases b <;> simp only [Bool.false_eq_true, if_false, if_true] at e2 <;>
                · simp (implicitDefEqProofs := false) (disch := omega) only [go_sem, seval, rgn Tryd.f16 0 rfl, rgn Tryd.f16 1 rfl, rgn Tryd.f16 3 rfl, rgn Tryd.f16 8 rfl, List.length_map, h6, e2, decide_eq_true h5]
                  exact ⟨_, rfl⟩
              · have h6 : ¬ (l.length : Int) = (l'.length : Int) := by omega
                rw [aval_of Tryd.func16 body16 Tryd.results16 Tryd.ntmps16 ok16]
                simp (implicitDefEqProofs := false) (disch := omega) only [go_sem, seval, rgn Tryd.f16 0 rfl, rgn Tryd.f16 1 rfl, rgn Tryd.f16 2 rfl, List.length_map, h1, h2, h3, h4, h6, hp, hm, decide_eq_false h5]
                exact ⟨_, rfl⟩
            · rw [aval_of Tryd.func16 body16 Tryd.results16 Tryd.ntmps16 ok16]
              simp (implicitDefEqProofs := false) (disch := omega) only [go_sem, seval, rgn Tryd.f16 0 rfl, rgn Tryd.f16 1 rfl, rgn Tryd.f16 2 rfl, h1, h2, h3, h4, hp, hm]
              exact ⟨_, rfl⟩
          · rw [aval_of Tryd.func16 body16 Tryd.results16 Tryd.ntmps16 ok16]
            simp (implicitDefEqProofs := false) (disch := omega) only [go_sem, seval, rgn Tryd.f16 0 rfl, rgn Tryd.f16 1 rfl, rgn Tryd.f16 2 rfl, h1, h2, h3, hp, hm]
            exact ⟨_, rfl⟩
        · rw [aval_of Tryd.func16 body16 Tryd.results16 Tryd.ntmps16 ok16]
          simp (implicitDefEqProofs := false) (disch := omega) only [go_sem, seval, rgn Tryd.f16 0 rfl, rgn Tryd.f16 1 rfl, rgn Tryd.f16 2 rfl, h1, h2, hp, hm]
          exact ⟨_, rfl⟩
      · rw [aval_of Tryd.func16 body16 Tryd.results16 Tryd.ntmps16 ok16]
        simp (implicitDefEqProofs := false) (disch := omega) only [go_sem, seval, rgn Tryd.f16 0 rfl, rgn Tryd.f16 1 rfl, rgn Tryd.f16 2 rfl, h1, hp, hm]
        exact ⟨_, rfl⟩
    obtain ⟨h, e⟩ := e
    rw [pcall_eq, e, pureRes_solid rfl]
theorem Q2_alls : ∀ l : List Tm, Tm.fits l → ∀ t ∈ l, Q2 t
  | [], _, t, h => by cases h
  | a :: r, hf, t, h => by
    rw [Tm.fits] at hf
    rcases List.mem_cons.1 h with h | h
    · rw [h]; exact Q2_all a hf.1
    · exact Q2_alls r hf.2 t h
end
end Go.Proofs.YtncjbccjpneoiaaDoor
