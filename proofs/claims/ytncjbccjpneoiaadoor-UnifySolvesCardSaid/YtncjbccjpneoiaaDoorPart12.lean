/- Parts of the proof, each with its own heading: Making nodes: what a call by reference keeps. Making nodes: variables, types of others. Import: what it makes, in plain words. Same, Size (turned from chapter 11). The document's Subst (turned from chapter 14). Import: the walk. Import: a type of others. size: how many terms a type has. A name for a variable; a call whose result is told as a value. -/
import Derived.Test.YtncjbccjpneoiaaDoorPart11
set_option linter.unusedSimpArgs false
set_option linter.unusedVariables false
namespace Go.Proofs.YtncjbccjpneoiaaDoor
open Go Go.Ab Go.Proofs
open AV renaming unk → U
open Bool renaming false → J, true → O
set_option maxRecDepth 100000
set_option linter.unusedSimpArgs false
set_option linter.unusedVariables false
def AR (S : Nat) (h H : AHeap) : Prop := ∀ A n g c, hget H S = .vars (.arr A 0 n g 7 :: c) → h.length ≤ A ∨ ∃ n0 g0 c0, hget h S = .vars (.arr A 0 n0 g0 7 :: c0)
theorem AR.refl (S : Nat) (h : AHeap) : AR S h h := fun A n g c e => .inr ⟨n, g, c, e⟩
theorem AR.trans {S : Nat} {a b c : AHeap} (x : AR S a b) (y : AR S b c) (hl : a.length ≤ b.length) : AR S a c := fun A n g e he => by
  rcases y A n g e he with h | ⟨n0, g0, c0, h⟩
  · exact .inl (by omega)
  · exact x A n0 g0 c0 h
theorem AR.same {S : Nat} {h H H' : AHeap} (x : AR S h H) (e : hget H' S = hget H S) : AR S h H' := fun A n g c he => x A n g c (by rw [← e]; exact he)
theorem AR.app {S : Nat} {h : AHeap} (hS : S < h.length) (l : AHeap) : AR S h (h ++ l) := (AR.refl S h).same (hget_app l hS)
theorem nn_add2 {h : AHeap} {nv : AV} {ns : List Nd} (hn : NN h nv ns) (hl : ns.length ≤ 200000) (n : Nd) : ∃ v H, (∀ z, appT (some (7, 88, z)) h nv (some [ndV n]) = some (v, H)) ∧ NN H v (ns ++ [n]) ∧ (h.length ≤ H.length ∧ ∀ j o, hget h j = o → o ≠ .dead → (∀ b c, o ≠ .arr 7 b c) → hget H j = o) ∧ fits 1 v = true ∧ v.cells = [v] ∧ ∃ A g, v = .arr A 0 (ns.length + 1) g 7 ∧ (h.length ≤ A ∨ ∃ g0, nv = .arr A 0 ns.length g0 7) := by
  rcases hn with ⟨rfl, rfl⟩ | ⟨A, g, rfl, h2⟩
  · refine ⟨_, _, fun z => appT_slc _ _ _ _ _ rfl rfl (by simp) (by simp), .inr ⟨h.length, 0, by simp, by rw [hget_last]; rfl⟩, ⟨by simp, fun j o e h1 _ => by rw [hget_app _ (hlt_of e h1)]; exact e⟩, rfl, rfl, _, _, rfl, .inl (Nat.le_refl _)⟩
  · refine ⟨_, _, fun z => appT_arr _ _ _ _ _ _ _ _ h2 (by simp) rfl (by simp; omega), .inr ⟨A, g + 1, by simp, by rw [hget_set_eq (hlt_of h2 (by simp))]; simp⟩, ⟨by simp, fun j o e h1 h3 => ?_⟩, rfl, rfl, _, _, rfl, .inr ⟨g, rfl⟩⟩
    rw [hget_set_ne (by rintro rfl; rw [h2] at e; exact h3 _ _ e.symm)]; exact e
set_option maxHeartbeats 4000000 in
theorem put_c6 {h : AHeap} {S : Nat} {ns : List Nd} {b w : Int} (hs : SP h S ns b false w) (hlt : (ns.length : Int) < b) (hb : b ≤ 200000) (k : Int) (p m : List UInt8) (ks : AV) (hks : ks.cells = [ks] ∧ okVal ks = true) (l t mk : Int) :
    ∃ H, doCall md (aval Tryd.prog md fg) 43 [.ptr S 0, ndV ⟨k, p, m, ks, l, t, mk⟩] h = some (.int ns.length, H) ∧ SP H S (ns ++ [⟨k, p, m, ks, l, ns.length, mk⟩]) b false w ∧ Kf S h H ∧ AR S h H := by
  have hs0 := hs
  have cf := full_c (sp_app hs [.vars [.int k, .str (txt p), .str (txt m), ks, .int l, .int t, .int mk]])
  obtain ⟨nv, h1, h2⟩ := hs
  have hS := hlt_of h1 (by simp)
  have g1 : ∀ l, hget (h ++ l) S = .vars [nv, .int b, .val (.bool false), .int w] := fun l => by rw [hget_app l hS]; exact h1
  have hlen := nn_len h2
  have hge : ¬ (b ≤ (ns.length : Int)) := by omega
  have hn2 : NN (h ++ [.vars [.int k, .str (txt p), .str (txt m), ks, .int l, .int (ns.length : Int), .int mk]]) nv ns := by
    rcases h2 with h2 | ⟨A, g, e1, e2⟩
    · exact .inl h2
    · exact .inr ⟨A, g, e1, by rw [hget_app _ (hlt_of e2 (by simp))]; exact e2⟩
  obtain ⟨v, H1, x1, x2, x3, x4, x5, A, g, hv, hA⟩ := nn_add2 hn2 (by omega) ⟨k, p, m, ks, l, ns.length, mk⟩
  have y1 : hget H1 S = .vars [nv, .int b, .val (.bool false), .int w] := x3.2 S _ (g1 _) (by simp) (by simp)
  have yb : hget H1 h.length = .vars [.int k, .str (txt p), .str (txt m), ks, .int l, .int (ns.length : Int), .int mk] := x3.2 _ _ hget_last (by simp) (by simp)
  have yb2 : hget (H1.set S (.vars [v, .int b, .val (.bool false), .int w])) h.length = .vars [.int k, .str (txt p), .str (txt m), ks, .int l, .int (ns.length : Int), .int mk] := by rw [hget_set_ne (by omega)]; exact yb
  have hS1 := hlt_of y1 (by simp)
  rw [ndV_mk] at x1
  have e : aval Tryd.prog md fg 43 [.ptr S 0, ndV ⟨k, p, m, ks, l, t, mk⟩] h = some (.int ns.length, H1.set S (.vars [v, .int b, .val (.bool false), .int w])) := by
    rw [ndV_mk]
    rw [aval_of Tryd.func43 body43 Tryd.results43 Tryd.ntmps43 ok43]
    simp (implicitDefEqProofs := false) (disch := first | omega | exact List.length_set) only [go_sem, seval, rgn Tryd.f43 0 rfl, rgn Tryd.f43 1 rfl, rgn Tryd.f43 3 rfl, rgn Tryd.f43 6 rfl, rgn Tryd.f43 7 rfl, rgn Tryd.f43 8 rfl, cf, g1, hlen, hge, hget_last, set_last, hks.1, hks.2, x1, x4, x5, y1, yb2, thenDraw_append, thenDraw_store]
  have hlen1 := x3.1
  simp only [List.length_append, List.length_cons, List.length_nil] at hlen1
  have kf : Kf S h (H1.set S (.vars [v, .int b, .val (.bool false), .int w])) := ⟨by simp; omega, fun j o ej h1 h2 h3 => by
    rw [hget_set_ne (by omega)]
    exact x3.2 j o (by rw [hget_app _ (hlt_of ej h1)]; exact ej) h1 h3⟩
  obtain ⟨H', z1, z2, z3, z4⟩ := doCall_sp5 md43 e hs0 ⟨v, hget_set_eq hS1, nn_set x2 y1⟩ kf.1
  refine ⟨H', z1, z2, kf.agree z3 z4, fun A' n g' c he => ?_⟩
  rw [z4 S hS, hget_set_eq hS1, hv] at he
  simp only [AObj.vars.injEq, List.cons.injEq, AV.arr.injEq] at he
  obtain ⟨⟨rfl, _⟩, _⟩ := he
  rcases hA with hA | ⟨g0, hA⟩
  · simp only [List.length_append, List.length_cons, List.length_nil] at hA; exact .inl (by omega)
  · exact .inr ⟨_, g0, _, by rw [h1, hA]⟩
theorem belowL_mem : ∀ {n : Nat} {l : List AV}, belowL n l = true → ∀ x ∈ l, below n x = true
  | n, [], _, x, hx => by cases hx
  | n, a :: r, h, x, hx => by
    simp only [belowL, Bool.and_eq_true] at h
    rcases List.mem_cons.1 hx with rfl | hx
    · exact h.1
    · exact belowL_mem h.2 x hx
theorem hget_of_at {h H : AHeap} {i : Nat} (e : H[i]? = h[i]?) : hget H i = hget h i := by unfold hget; rw [List.getD_eq_getElem?_getD, e, ← List.getD_eq_getElem?_getD]
theorem gc_keep {h H : AHeap} {S : Nat} {ns ns' : List Nd} {b b' : Int} {f f' : Bool} {w w' : Int} (h0 : SP h S ns b f w) (h1 : SP H S ns' b' f' w') (hne : ns'.length ≠ ns.length) (hgt : ns.length ≤ ns'.length) (har : AR S h H) (hg : GcOk h.length h H) : ∀ n ∈ ns', below h.length n.kids = true := by
  have hne' : ns' ≠ [] := by rintro rfl; simp at hne hgt; simp [hgt] at hne
  obtain ⟨A, g, e1, e2⟩ := sp_arr h1 hne'
  obtain ⟨nv, a1, a2⟩ := h0
  have hS := hlt_of a1 (by simp)
  have hA : A < h.length := by
    rcases hg S hS with q | q
    · exfalso
      have := hget_of_at q
      rw [e1, a1] at this
      simp only [AObj.vars.injEq, List.cons.injEq] at this
      rcases a2 with ⟨_, a2⟩ | ⟨A', g', a2, _⟩
      · rw [a2] at this; cases this.1
      · rw [a2] at this
        have h5 := this.1
        simp only [AV.arr.injEq] at h5
        omega
    · rw [e1] at q
      simp only [belowO, belowL, below, Bool.and_eq_true, decide_eq_true_eq] at q
      exact q.1
  rcases har A _ g _ e1 with q | ⟨n0, g0, c0, q⟩
  · omega
  · rw [a1] at q
    simp only [AObj.vars.injEq, List.cons.injEq] at q
    rcases a2 with ⟨_, a2⟩ | ⟨A', g', a2, a3⟩
    · rw [a2] at q; cases q.1
    · rw [a2] at q
      have h5 := q.1
      simp only [AV.arr.injEq] at h5
      obtain ⟨rfl, _⟩ := h5
      rcases hg A' hA with z | z
      · exfalso
        have := hget_of_at z
        rw [e2, a3] at this
        simp only [AObj.arr.injEq] at this
        have := congrArg List.length this.2.1
        simp at this
        exact hne this
      · rw [e2] at z
        intro n hn
        have := belowL_mem z (ndV n) (List.mem_map.2 ⟨n, hn, rfl⟩)
        have := belowL_mem (l := [.int n.kind, .str (txt n.pkg), .str (txt n.name), n.kids, .int n.level, .int n.to, .int n.mark]) (by unfold ndV at this; simpa only [below] using this) n.kids (by simp)
        exact this
theorem doCall_imp {f : FuncId} {vs : List AV} {h H : AHeap} {res : AV} {S B' : Nat} {ns ns' : List Nd} {b b' : Int} {f0 f1 : Bool} {w w' : Int} {sh' : List Sh} {rt r : Nat → Nat} {vis : Nat → Bool} (hm : md f = 1) (e : aval Tryd.prog md fg f vs h = some (res, H)) (h0 : SP h S ns b f0 w) (h1 : SP H S ns' b' f1 w') (hn : NR H S B' sh' rt r vis w' ns') (hB : B' ≤ H.length) (hl : h.length ≤ H.length) (hgt : ns.length ≤ ns'.length) (hnew : ns'.length ≠ ns.length ∨ B' ≤ h.length) (har : AR S h H) :
    ∃ H' B'', doCall md (aval Tryd.prog md fg) f vs h = some (res, H') ∧ SP H' S ns' b' f1 w' ∧ NR H' S B'' sh' rt r vis w' ns' ∧ B'' ≤ H'.length ∧ (B'' ≤ B' ∨ B'' ≤ h.length) ∧ h.length ≤ H'.length ∧ (∀ j, j < h.length → hget H' j = hget H j) ∧ AR S h H' := by
  have hS : S < h.length := by obtain ⟨_, q, _⟩ := h0; exact hlt_of q (by simp)
  obtain ⟨H', z1, z2, z3, z4⟩ := doCall_sp5 hm e h0 h1 hl
  rw [doCall_0 (by omega)] at z1
  unfold doCall0 at z1
  rw [if_neg (by omega), rated_id (by omega), e] at z1
  dsimp only at z1
  split at z1
  · rename_i hg
    cases z1
    have hz : doCall md (aval Tryd.prog md fg) f vs h = some (res, H.take h.length) := by
      rw [doCall_0 (by omega)]; unfold doCall0
      rw [if_neg (by omega), rated_id (by omega), e]
      dsimp only
      rw [if_pos hg]
    rcases hnew with hnew | hnew
    · have hk := gc_keep h0 h1 hnew hgt har hg.2
      refine ⟨_, h.length, hz, z2, ⟨hn.1, fun i n s q1 q2 => ?_⟩, z3, .inr (Nat.le_refl _), z3, z4, har.same (z4 S hS)⟩
      have y := hn.2 i n s q1 q2
      refine ⟨y.kind, y.pkg, y.name, ?_, y.to, y.mark, y.le⟩
      have hb := hk n (List.mem_of_getElem? q1)
      rcases y.kids with y | ⟨K, g, y1, y2, y3, y4⟩
      · exact .inl y
      · rw [y1] at hb
        have hK : K < h.length := by simpa [below] using hb
        exact .inr ⟨K, g, y1, by rw [z4 K hK]; exact y2, y3, hK⟩
    · exact ⟨_, B', hz, z2, hn.agree hnew z4, by omega, .inl (Nat.le_refl _), z3, z4, har.same (z4 S hS)⟩
  · rename_i hg
    cases z1
    have hz : doCall md (aval Tryd.prog md fg) f vs h = some (res, H) := by
      rw [doCall_0 (by omega)]; unfold doCall0
      rw [if_neg (by omega), rated_id (by omega), e]
      dsimp only
      rw [if_neg hg]
    exact ⟨H, B', hz, h1, hn, hB, .inl (Nat.le_refl _), hl, fun _ _ => rfl, har⟩
def idf : Nat → Nat := fun i => i
def yes : Nat → Bool := fun _ => true
theorem NR.add {h H : AHeap} {S B B' : Nat} {sh : List Sh} {ns : List Nd} (x : NR h S B sh idf idf yes 0 ns) (hB : B ≤ B') (ha : ∀ v kl, KB h S B v kl → KB H S B' v kl) {n : Nd} {s : Sh} (hk : n.kind = s.kind) (hp : n.pkg = s.pkg) (hm : n.name = s.name) (hkb : KB H S B' n.kids (ints s.kids)) (hto : n.to = (sh.length : Int)) (hmk : n.mark = 0) : NR H S B' (sh ++ [s]) idf idf yes 0 (ns ++ [n]) := by
  refine ⟨by simp [x.1], fun i m t h1 h2 => ?_⟩
  by_cases hi : i < sh.length
  · rw [List.getElem?_append_left (by rw [x.1]; exact hi)] at h1
    rw [List.getElem?_append_left hi] at h2
    have y := x.2 i m t h1 h2
    obtain ⟨j, j1, j2, j3⟩ := y.to
    exact ⟨y.kind, y.pkg, y.name, ha _ _ y.kids, ⟨j, j1, by simp; omega, j3⟩, y.mark, y.le⟩
  · have hl := lt_of_at h1
    have : i = sh.length := by simp [x.1] at hl; omega
    subst this
    rw [List.getElem?_append_right (by rw [x.1]; exact Nat.le_refl _), x.1, Nat.sub_self] at h1
    rw [List.getElem?_append_right (Nat.le_refl _), Nat.sub_self] at h2
    cases h1; cases h2
    exact ⟨hk, hp, hm, hkb, ⟨sh.length, hto, by simp, rfl, .inl rfl, fun _ => rfl, fun _ => rfl⟩, by rw [hmk]; simp [yes], by rw [hmk]; exact Int.le_refl _⟩
theorem var_c2 {h : AHeap} {S : Nat} {ns : List Nd} {w : Int} (hs : SP h S ns 200000 false w) (hlt : ns.length < 200000) (l : Int) : ∃ H, doCall md (aval Tryd.prog md fg) 27 [.ptr S 0, .int l] h = some (.int ns.length, H) ∧ SP H S (ns ++ [vNd l ns.length]) 200000 false w ∧ Kf S h H ∧ AR S h H := by
  have hS : S < h.length := by obtain ⟨_, q, _⟩ := hs; exact hlt_of q (by simp)
  obtain ⟨H, c, h1, h2, h3⟩ := put_c6 hs (by omega) (by omega) 1 [] [] (.slc true []) slcOk l 0 0
  rw [nd0] at c
  have e : aval Tryd.prog md fg 27 [.ptr S 0, .int l] h = some (.int ns.length, H) := by
    rw [aval_of Tryd.func27 body27 Tryd.results27 Tryd.ntmps27 ok27]
    simp (implicitDefEqProofs := false) (disch := omega) only [go_sem, seval, rgn Tryd.f27 0 rfl, rgn Tryd.f27 1 rfl, c]
  obtain ⟨H', z1, z2, z3, z4⟩ := doCall_sp5 md27 e hs h1 h2.1
  exact ⟨H', z1, z2, h2.agree z3 z4, h3.same (z4 S hS)⟩
def SO (h : AHeap) (Z S V : Nat) (nv : AV) : Prop := hget h Z = .vars [.ptr S 0, .mp V, nv]
theorem fresh_c {h : AHeap} {S V Z q : Nat} {nv : AV} {ns : List Nd} {w : Int} (hs : SP h S ns 200000 false w) (hlt : ns.length < 200000) (hq : hget h q = .vars [.ptr Z 0]) (hz : SO h Z S V nv) : ∃ H, doCall md (aval Tryd.prog md fg) 55 [.ptr q 0] h = some (.int ns.length, H) ∧ SP H S (ns ++ [vNd 0 ns.length]) 200000 false w ∧ Kf S h H ∧ AR S h H := by
  have hS : S < h.length := by obtain ⟨_, q, _⟩ := hs; exact hlt_of q (by simp)
  obtain ⟨H, c, h1, h2, h3⟩ := var_c2 hs hlt 0
  unfold SO at hz
  have e : aval Tryd.prog md fg 55 [.ptr q 0] h = some (.int ns.length, H) := by
    rw [aval_of Tryd.func55 body55 Tryd.results55 Tryd.ntmps55 ok55]
    simp (implicitDefEqProofs := false) (disch := omega) only [go_sem, seval, rgn Tryd.f55 0 rfl, rgn Tryd.f55 1 rfl, hq, hz, c]
  obtain ⟨H', z1, z2, z3, z4⟩ := doCall_sp5 md55 e hs h1 h2.1
  exact ⟨H', z1, z2, h2.agree z3 z4, h3.same (z4 S hS)⟩
theorem cloneI_0 {h : AHeap} {k g : Nat} (hk : hget h k = .arr 1 [] g) : doCall md (aval Tryd.prog md fg) 45 [.arr k 0 0 g 1] h = some (.slc true [], h) := by
  have hv : sview h (.arr k 0 0 g 1) = some [] := sview_arr _ _ _ _ _ hk rfl
  have ha : ∀ z, appT (some (1, 8, z)) h (.slc true []) (some []) = some (.slc true [], h) := fun z => appT_slc0 _ _ _ _ rfl
  have e : aval Tryd.prog md fg 45 [.arr k 0 0 g 1] h = some (.slc true [], h) := by
    rw [aval_of Tryd.func45 body45 Tryd.results45 Tryd.ntmps45 ok45]
    simp (implicitDefEqProofs := false) (disch := omega) only [go_sem, seval, rgn Tryd.f45 0 rfl, rgn Tryd.f45 1 rfl, rgn Tryd.f45 3 rfl, nilA85, hv, ha]
  have hs : splitNil md 45 [.arr k 0 0 g 1] = none := rfl
  unfold doCall
  rw [hs]
  dsimp only
  unfold doCall0
  rw [if_neg (by decide)]
  have : rated (md 45) (aval Tryd.prog md fg 45 [.arr k 0 0 g 1] h) = aval Tryd.prog md fg 45 [.arr k 0 0 g 1] h := rfl
  rw [this, e]
  dsimp only
  rw [List.take_length, ite_self]
theorem make_c2 {h : AHeap} {S B : Nat} {sh : List Sh} {ns : List Nd} (hs : SP h S ns 200000 false 0) (hn : NR h S B sh idf idf yes 0 ns) (hB : B ≤ h.length) (hlt : sh.length < 200000) (kd : Int) (p m : List UInt8) {k g : Nat} {kl : List Nat} (hk : hget h k = .arr 1 ((ints kl).map AV.int) g) (hl : kl.length ≤ 100000) (hin : ∀ x ∈ kl, x < sh.length) :
    ∃ H B' n, doCall md (aval Tryd.prog md fg) 28 [.ptr S 0, .int kd, .str (txt p), .str (txt m), .arr k 0 kl.length g 1] h = some (.int sh.length, H) ∧ SP H S (ns ++ [n]) 200000 false 0 ∧ NR H S B' (sh ++ [⟨kd, p, m, kl⟩]) idf idf yes 0 (ns ++ [n]) ∧ B' ≤ H.length ∧ Kf S h H ∧ AR S h H ∧ (∀ K g l, n.kids = .arr K 0 l g 1 → h.length ≤ K) := by
  have hS : S < h.length := by obtain ⟨_, q, _⟩ := hs; exact hlt_of q (by simp)
  have hnl := hn.1
  have ct := there_c hs k g (ints kl) hk (by rw [ints_len]; omega)
  have hany : (ints kl).any (out ns.length) = false := by
    rw [List.any_eq_false]
    intro x hx
    obtain ⟨y, hy, rfl⟩ := List.mem_map.1 hx
    have := hin y hy
    rw [hnl]
    simp [out]; omega
  rw [hany, ints_len] at ct
  by_cases hne : kl = []
  · subst hne
    have cc := cloneI_0 hk
    obtain ⟨H, cp, p1, p2, p3⟩ := put_c6 hs (by omega) (by omega) kd p m (.slc true []) ⟨rfl, rfl⟩ 0 0 0
    rw [ndV_mk] at cp
    have e : aval Tryd.prog md fg 28 [.ptr S 0, .int kd, .str (txt p), .str (txt m), .arr k 0 ([] : List Nat).length g 1] h = some (.int ns.length, H) := by
      simp only [List.length_nil] at ct ⊢
      rw [aval_of Tryd.func28 body28 Tryd.results28 Tryd.ntmps28 ok28]
      simp (implicitDefEqProofs := false) (disch := omega) only [go_sem, seval, rgn Tryd.f28 0 rfl, rgn Tryd.f28 1 rfl, rgn Tryd.f28 3 rfl, ct, cc, cp]
    have hNR : NR H S B (sh ++ [⟨kd, p, m, []⟩]) idf idf yes 0 (ns ++ [⟨kd, p, m, .slc true [], 0, ns.length, 0⟩]) := hn.add (Nat.le_refl _) (fun _ _ x => x.kf p2) rfl rfl rfl (.inl ⟨rfl, rfl⟩) (by rw [hnl]) rfl
    obtain ⟨H', B'', z1, z2, z3, z4, _, z5, z6, z7⟩ := doCall_imp md28 e hs p1 hNR (Nat.le_trans hB p2.1) p2.1 (by simp) (.inl (by simp)) p3
    rw [hnl] at z1
    exact ⟨H', B'', _, z1, z2, z3, z4, p2.agree z5 z6, z7, fun K g l e => by cases e⟩
  · have cc := cloneI_c (l := ints kl) hk (by rw [ints_len]; omega) (by intro e; exact hne (by simpa [ints] using e))
    rw [ints_len] at cc
    obtain ⟨H, cp, p1, p2, p3⟩ := put_c6 (sp_app hs [.arr 1 ((ints kl).map AV.int) 0]) (by omega) (by omega) kd p m (.arr h.length 0 kl.length 0 1) ⟨rfl, rfl⟩ 0 0 0
    rw [ndV_mk] at cp
    have e : aval Tryd.prog md fg 28 [.ptr S 0, .int kd, .str (txt p), .str (txt m), .arr k 0 kl.length g 1] h = some (.int ns.length, H) := by
      rw [aval_of Tryd.func28 body28 Tryd.results28 Tryd.ntmps28 ok28]
      simp (implicitDefEqProofs := false) (disch := omega) only [go_sem, seval, rgn Tryd.f28 0 rfl, rgn Tryd.f28 1 rfl, rgn Tryd.f28 3 rfl, ct, cc, cp]
    have k0 := kf_app S h [.arr 1 ((ints kl).map AV.int) 0]
    have kf := k0.trans p2
    have hK : hget H h.length = .arr 1 ((ints kl).map AV.int) 0 := p2.2 _ _ hget_last (by simp) (by omega) (by simp)
    have hNR : NR H S (h.length + 1) (sh ++ [⟨kd, p, m, kl⟩]) idf idf yes 0 (ns ++ [⟨kd, p, m, .arr h.length 0 kl.length 0 1, 0, ns.length, 0⟩]) := hn.add (by omega) (fun _ _ x => (x.kf kf).mono (by omega)) rfl rfl rfl (.inr ⟨h.length, 0, by rw [ints_len], hK, by omega, by omega⟩) (by rw [hnl]) rfl
    have hHl : h.length + 1 ≤ H.length := by have := p2.1; simp at this; omega
    have har : AR S h H := (AR.app hS _).trans p3 (by simp)
    obtain ⟨H', B'', z1, z2, z3, z4, _, z5, z6, z7⟩ := doCall_imp md28 e hs p1 hNR hHl kf.1 (by simp) (.inl (by simp)) har
    rw [hnl] at z1
    exact ⟨H', B'', _, z1, z2, z3, z4, kf.agree z5 z6, z7, fun K g l e => by simp only [AV.arr.injEq] at e; omega⟩
mutual
def Tm.ty : Tm → Prop | .mk k p m n l => (1 ≤ k ∧ k ≤ 4 ∧ n = 0 ∧ (k = 1 → l = [] ∧ p = [])) ∧ Tm.tys l
def Tm.tys : List Tm → Prop | [] => True | t :: r => t.ty ∧ Tm.tys r
end
theorem tys_mem : ∀ {l : List Tm}, Tm.tys l → ∀ t ∈ l, t.ty
  | [], _, t, h => by cases h
  | a :: r, h, t, ht => by
    rw [Tm.tys] at h
    rcases List.mem_cons.1 ht with rfl | ht
    · exact h.1
    · exact tys_mem h.2 t ht
mutual
def inst (th : List UInt8 → Tm) : Tm → Tm | .mk k p m n l => if k = 1 then th m else .mk k p m 0 (insts th l)
def insts (th : List UInt8 → Tm) : List Tm → List Tm | [] => [] | t :: r => inst th t :: insts th r
end
theorem insts_eq (th : List UInt8 → Tm) : ∀ l, insts th l = l.map (inst th)
  | [] => by simp [insts]
  | t :: r => by rw [insts, insts_eq th r]; rfl
theorem inst_mk (th : List UInt8 → Tm) (k : Int) (p m : List UInt8) (n : Int) (l : List Tm) : inst th (.mk k p m n l) = if k = 1 then th m else .mk k p m 0 (l.map (inst th)) := by rw [inst, insts_eq]
mutual
def tvars : Tm → List (List UInt8) | .mk k p m n l => if k = 1 then [m] else tvarss l
def tvarss : List Tm → List (List UInt8) | [] => [] | t :: r => tvars t ++ tvarss r
end
theorem tvarss_mem : ∀ {l : List Tm} {n : List UInt8}, n ∈ tvarss l ↔ ∃ t ∈ l, n ∈ tvars t
  | [], n => by simp [tvarss]
  | t :: r, n => by rw [tvarss, List.mem_append, tvarss_mem]; simp
mutual
theorem inst_congr {th th' : List UInt8 → Tm} : ∀ (t : Tm), (∀ n ∈ tvars t, th n = th' n) → inst th t = inst th' t
  | .mk k p m n l, h => by
    rw [inst, inst]
    rw [tvars] at h
    by_cases hk : k = 1
    · rw [if_pos hk, if_pos hk]; rw [if_pos hk] at h; exact h m (by simp)
    · rw [if_neg hk, if_neg hk]; rw [if_neg hk] at h; rw [insts_congr l h]
theorem insts_congr {th th' : List UInt8 → Tm} : ∀ (l : List Tm), (∀ n ∈ tvarss l, th n = th' n) → insts th l = insts th' l
  | [], _ => by simp [insts]
  | t :: r, h => by
    rw [insts, insts, inst_congr t fun n hn => h n (by rw [tvarss]; simp [hn]), insts_congr r fun n hn => h n (by rw [tvarss]; simp [hn])]
end
def kc (sh : List Sh) : Nat := (sh.map fun s => s.kids.length).sum
theorem wt_none : ∀ (sh : List Sh) (i : Nat), wt sh (fun _ => false) i = kc sh
  | [], i => rfl
  | s :: r, i => by unfold wt; rw [wt_none r (i + 1)]; simp [kc]
theorem kc_add (sh : List Sh) (s : Sh) : kc (sh ++ [s]) = kc sh + s.kids.length := by simp [kc]
def vmap (P : SMap) (n : List UInt8) : Nat := (mg P n).getD 0
abbrev vSh : Sh := ⟨1, [], [], []⟩
structure IP (sh : List Sh) (P : SMap) : Prop where
  ok : Ok sh idf idf
  var : ∀ n (i : Nat), mg P n = some i → sh[i]? = some vSh
  inj : ∀ n m (i : Nat), mg P n = some i → mg P m = some i → n = m
  sur : ∀ (i : Nat) (s : Sh), sh[i]? = some s → s.kind = 1 → ∃ n, mg P n = some i
  fit : ∀ (i : Nat) (s : Sh), sh[i]? = some s → s.pkg.length ≤ 9223372036854775807 ∧ s.name.length ≤ 9223372036854775807 ∧ 1 ≤ s.kind ∧ s.kind ≤ 4
structure IE (sh : List Sh) (P : SMap) (vs : List (List UInt8)) (sh' : List Sh) (P' : SMap) : Prop where
  ext : ∃ e, sh' = sh ++ e
  keep : ∀ n (i : Nat), mg P n = some i → mg P' n = some i
  has : ∀ n ∈ vs, ∃ i, mg P' n = some i
  only : ∀ n (i : Nat), mg P' n = some i → mg P n = some i ∨ n ∈ vs
theorem IE.refl (sh : List Sh) (P : SMap) : IE sh P [] sh P := ⟨⟨[], by simp⟩, fun _ _ h => h, by simp, fun _ _ h => .inl h⟩
theorem IE.trans {a b c : List Sh} {P Q R : SMap} {u v : List (List UInt8)} (x : IE a P u b Q) (y : IE b Q v c R) : IE a P (u ++ v) c R := by
  obtain ⟨e, rfl⟩ := x.ext
  obtain ⟨e', rfl⟩ := y.ext
  refine ⟨⟨e ++ e', by simp⟩, fun n i h => y.keep n i (x.keep n i h), fun n hn => ?_, fun n i h => ?_⟩
  · rcases List.mem_append.1 hn with hn | hn
    · obtain ⟨i, hi⟩ := x.has n hn
      exact ⟨i, y.keep n i hi⟩
    · exact y.has n hn
  · rcases y.only n i h with h | h
    · rcases x.only n i h with h | h
      · exact .inl h
      · exact .inr (by simp [h])
    · exact .inr (by simp [h])
theorem IE.mem {a b : List Sh} {P Q : SMap} {u v : List (List UInt8)} (x : IE a P u b Q) (h : ∀ n, n ∈ u ↔ n ∈ v) : IE a P v b Q :=
  ⟨x.ext, x.keep, fun n hn => x.has n ((h n).2 hn), fun n i hi => (x.only n i hi).imp id (h n).1⟩
theorem con_pre {sh e : List Sh} {M : Nat → Tm} (h : Con (sh ++ e) M) : Con sh M := fun i s hi hk => h i s (by rw [List.getElem?_append_left (lt_of_at hi)]; exact hi) hk
theorem IE.con {a b : List Sh} {P Q : SMap} {u : List (List UInt8)} (x : IE a P u b Q) {M : Nat → Tm} (h : Con b M) : Con a M := by
  obtain ⟨e, rfl⟩ := x.ext; exact con_pre h
theorem IE.len {a b : List Sh} {P Q : SMap} {u : List (List UInt8)} (x : IE a P u b Q) : a.length ≤ b.length := by
  obtain ⟨e, rfl⟩ := x.ext; simp
def Val (sh : List Sh) (P : SMap) (id : Nat) (t : Tm) : Prop := id < sh.length ∧ (∀ n ∈ tvars t, ∃ i, mg P n = some i) ∧ ∀ M, Con sh M → M id = inst (fun n => M (vmap P n)) t
theorem Val.ext {a b : List Sh} {P Q : SMap} {u : List (List UInt8)} (x : IE a P u b Q) {id : Nat} {t : Tm} (v : Val a P id t) : Val b Q id t := by
  obtain ⟨h1, h2, h3⟩ := v
  refine ⟨Nat.lt_of_lt_of_le h1 x.len, fun n hn => ?_, fun M hm => ?_⟩
  · obtain ⟨i, hi⟩ := h2 n hn
    exact ⟨i, x.keep n i hi⟩
  · rw [h3 M (x.con hm)]
    refine inst_congr t fun n hn => ?_
    obtain ⟨i, hi⟩ := h2 n hn
    show M ((mg P n).getD 0) = M ((mg Q n).getD 0)
    rw [hi, x.keep n i hi]
theorem ok_add {sh : List Sh} (ok : Ok sh idf idf) (s : Sh) (hk : ∀ k ∈ s.kids, k < sh.length) (h1 : s.kind = 1 → s.kids = []) (h5 : s.kind ≠ 5) : Ok (sh ++ [s]) idf idf := by
  refine ⟨fun i hi => hi, fun _ _ => rfl, fun _ _ _ _ => rfl, fun i t k hi hkk => ?_, fun _ _ => Nat.le_refl _, fun i t hi ht => ?_, fun i t hi => ?_⟩
  all_goals
    by_cases hl : i < sh.length
    · rw [List.getElem?_append_left hl] at hi
      first
        | exact ⟨by have := (ok.kid i t k hi hkk).1; simp; omega, (ok.kid i t k hi hkk).2⟩
        | exact ok.var i t hi ht
        | exact ok.rig i t hi
    · have hl2 := lt_of_at hi
      have : i = sh.length := by simp at hl2; omega
      subst this
      rw [List.getElem?_append_right (Nat.le_refl _), Nat.sub_self] at hi
      cases hi
      first
        | exact ⟨by have := hk k hkk; simp; omega, hk k hkk⟩
        | exact h1 ht
        | exact h5
theorem fit_add {sh : List Sh} {P : SMap} (ip : IP sh P) {t : Sh} (ht : t.pkg.length ≤ 9223372036854775807 ∧ t.name.length ≤ 9223372036854775807 ∧ 1 ≤ t.kind ∧ t.kind ≤ 4) : ∀ (i : Nat) (s : Sh), (sh ++ [t])[i]? = some s → s.pkg.length ≤ 9223372036854775807 ∧ s.name.length ≤ 9223372036854775807 ∧ 1 ≤ s.kind ∧ s.kind ≤ 4 := fun i s h => by
  by_cases hl : i < sh.length
  · rw [List.getElem?_append_left hl] at h
    exact ip.fit i s h
  · have hl2 := lt_of_at h
    have : i = sh.length := by simp at hl2; omega
    subst this
    rw [List.getElem?_append_right (Nat.le_refl _), Nat.sub_self] at h
    cases h
    exact ht
theorem ip_var {sh : List Sh} {P : SMap} (ip : IP sh P) {n : List UInt8} (hn : mg P n = none) : IP (sh ++ [vSh]) (mset P n sh.length) ∧ IE sh P [n] (sh ++ [vSh]) (mset P n sh.length) := by
  have hlt : ∀ m (i : Nat), mg P m = some i → i < sh.length := fun m i h => lt_of_at (ip.var m i h)
  refine ⟨⟨ok_add ip.ok vSh (by simp) (fun _ => rfl) (by simp), fun m i h => ?_, fun m m' i h h' => ?_, fun i s h hk => ?_, fit_add ip (by simp)⟩, ⟨⟨_, rfl⟩, fun m i h => ?_, fun m hm => ?_, fun m i h => ?_⟩⟩
  · rw [mg_mset] at h
    split at h
    · cases h; rw [List.getElem?_append_right (Nat.le_refl _), Nat.sub_self]; rfl
    · rw [List.getElem?_append_left (hlt m i h)]; exact ip.var m i h
  · rw [mg_mset] at h h'
    split at h
    · cases h
      split at h'
      · rename_i e1 e2; rw [e1, e2]
      · have := hlt m' _ h'; omega
    · split at h'
      · cases h'; have := hlt m _ h; omega
      · exact ip.inj m m' i h h'
  · by_cases hl : i < sh.length
    · rw [List.getElem?_append_left hl] at h
      obtain ⟨m, hm⟩ := ip.sur i s h hk
      refine ⟨m, ?_⟩
      rw [mg_mset, if_neg (by rintro rfl; rw [hn] at hm; cases hm)]; exact hm
    · have hl2 := lt_of_at h
      have : i = sh.length := by simp at hl2; omega
      subst this
      exact ⟨n, by rw [mg_mset, if_pos rfl]⟩
  · rw [mg_mset, if_neg (by rintro rfl; rw [hn] at h; cases h)]; exact h
  · rw [List.mem_singleton.1 hm]; exact ⟨_, by rw [mg_mset, if_pos rfl]⟩
  · rw [mg_mset] at h
    split at h
    · rename_i e; exact .inr (by simp [e])
    · exact .inl h
theorem ip_node {sh : List Sh} {P : SMap} (ip : IP sh P) {s : Sh} (hk : ∀ k ∈ s.kids, k < sh.length) (h1 : s.kind ≠ 1) (h5 : s.kind ≠ 5) (hf : s.pkg.length ≤ 9223372036854775807 ∧ s.name.length ≤ 9223372036854775807 ∧ 1 ≤ s.kind ∧ s.kind ≤ 4) : IP (sh ++ [s]) P ∧ IE sh P [] (sh ++ [s]) P := by
  refine ⟨⟨ok_add ip.ok s hk (fun e => absurd e h1) h5, fun m i h => ?_, ip.inj, fun i t h hkk => ?_, fit_add ip hf⟩, ⟨_, rfl⟩, fun _ _ h => h, by simp, fun _ _ h => .inl h⟩
  · have := ip.var m i h
    rw [List.getElem?_append_left (lt_of_at this)]; exact this
  · by_cases hl : i < sh.length
    · rw [List.getElem?_append_left hl] at h
      exact ip.sur i t h hkk
    · have hl2 := lt_of_at h
      have : i = sh.length := by simp at hl2; omega
      subst this
      rw [List.getElem?_append_right (Nat.le_refl _), Nat.sub_self] at h
      cases h
      exact absurd hkk h1
theorem tsz_pos : ∀ t : Tm, 1 ≤ tsz t | .mk _ _ _ _ _ => by rw [tsz]; omega
mutual
def sameT : Tm → Tm → Bool
  | .mk k p m n l, .mk k' p' m' n' l' => (k == k') && (decide (p = p') && (decide (m = m') && ((n == n') && (decide (l.length = l'.length) && sameTs l l'))))
def sameTs : List Tm → List Tm → Bool
  | [], _ => true
  | _ :: _, [] => true
  | t :: r, u :: s => sameT t u && sameTs r s
end
theorem solid2 (a b : Tm) : solidL [tmV a, tmV b] = true := by simp only [solidL, solid_tm, Bool.and_self]
theorem solid1 (a : Tm) : solidL [tmV a] = true := by simp only [solidL, solid_tm, Bool.and_self]
abbrev Vl := List UInt8 × Tm
def fv (k : List UInt8) : List Vl → Nat → Option (Nat × Tm)
  | [], _ => none
  | e :: r, i => if e.1 = k then some (i, e.2) else fv k r (i + 1)
def Z (t : Tm) : Prop := pcall Tryd.prog md fg 15 [tmV t] = some (.int (tsz t : Int))
theorem z_loop (k : Int) (p m : List UInt8) (n : Int) (l : List Tm) (hl : tszs l ≤ 100000) (hZ : ∀ t ∈ l, Z t) (hlen : l.length ≤ 100000) : ∀ (r : List Tm) (i : Nat) (c : Nat), l.drop i = r → i ≤ l.length → c + tszs r ≤ 200000 →
    lrun Tryd.prog md fg (fg 15) (loopOf Tryd.f15 0) (fg 15 1) ([.unk, .ptr 0 0, .unk, .int c, .int i, .unk, .unk, .unk, .unk, .unk, .unk, .unk, .unk, .unk, .unk, .unk, .unk, .unk, .unk, .unk, .unk]) [.vars [.int k, .str (txt p), .str (txt m), .int n, .slc false (l.map tmV)]] = some (.exit 0, [.unk, .ptr 0 0, .unk, .int (c + tszs r : Nat), .int l.length, .unk, .unk, .unk, .unk, .unk, .unk, .unk, .unk, .unk, .unk, .unk, .unk, .unk, .unk, .unk, .unk], [.vars [.int k, .str (txt p), .str (txt m), .int n, .slc false (l.map tmV)]])
  | [], i, c, hdr, hi, hc => by
    have : i = l.length := by have := congrArg List.length hdr; simp at this; omega
    subst this
    rw [tszs, Nat.add_zero]
    rw [lrun_atC loop15_0]
    simp (implicitDefEqProofs := false) (disch := omega) only [go_sem, seval, rgn Tryd.f15 3 rfl, List.length_map]
  | ⟨k2, p2, m2, n2, l2⟩ :: r, i, c, hdr, hi, hc => by
    have hx : l[i]? = some ⟨k2, p2, m2, n2, l2⟩ := by have := congrArg (·[0]?) hdr; simpa using this
    have hlt : i < l.length := (List.getElem?_eq_some_iff.1 hx).1
    have hd' : l.drop (i + 1) = r := by rw [← List.tail_drop, hdr]; rfl
    have ht : ((i : Int)).toNat = i := by omega
    rw [tszs] at hc ⊢
    have cz : ∀ h : AHeap, doCall md (aval Tryd.prog md fg) 15 [tmV ⟨k2, p2, m2, n2, l2⟩] h = some (.int (tsz ⟨k2, p2, m2, n2, l2⟩ : Nat), h) := fun h => doCall_pure md15 (solid1 _) (hZ _ (List.mem_of_getElem? hx))
    generalize tsz ⟨k2, p2, m2, n2, l2⟩ = w at *
    have ih := z_loop k p m n l hl hZ hlen r (i + 1) (c + w) hd' (by omega) (by omega)
    rw [tmV_mk] at cz
    rw [← Nat.add_assoc, ← ih]
    rw [lrun_atC loop15_0]
    simp (implicitDefEqProofs := false) (disch := omega) only [go_sem, seval, rgn Tryd.f15 3 rfl, rgn Tryd.f15 4 rfl, rgn Tryd.f15 5 rfl, List.length_map, List.getElem?_map, ht, hx, Option.map_some, tmV_mk, cz]
    all_goals (congr 1 <;> simp only [List.cons.injEq, AV.val.injEq, Value.int.injEq, Value.bool.injEq, true_and, and_true] <;> omega)
mutual
theorem Z_all : ∀ t : Tm, tsz t ≤ 100000 → Z t
  | ⟨k, p, m, n, l⟩, h => by
    have h0 := h
    rw [tsz] at h
    have hl : ∀ l : List Tm, l.length ≤ tszs l := by
      intro l
      induction l with
      | nil => simp
      | cons a b ih => have := tsz_pos a; simp only [tszs, List.length_cons]; omega
    have hll := hl l
    have ih := z_loop k p m n l (by omega) (Z_alls l (by omega)) (by omega) l 0 1 (by simp) (by omega) (by omega)
    have e : ∃ h, aval Tryd.prog md fg 15 [tmV ⟨k, p, m, n, l⟩] [] = some (.int (tsz ⟨k, p, m, n, l⟩ : Nat), h) := by
      rw [tmV_mk, tsz]
      simp only [Int.natCast_zero, Int.natCast_one] at ih
      rw [aval_of Tryd.func15 body15 Tryd.results15 Tryd.ntmps15 ok15]
      simp (implicitDefEqProofs := false) (disch := omega) only [go_sem, seval, rgn Tryd.f15 0 rfl, rgn Tryd.f15 1 rfl, rgn Tryd.f15 2 rfl, rgn Tryd.f15 6 rfl, ih]
      exact ⟨_, rfl⟩
    obtain ⟨h, e⟩ := e
    unfold Z
    rw [pcall_eq, e, pureRes_solid rfl]
theorem Z_alls : ∀ l : List Tm, tszs l ≤ 100000 → ∀ t ∈ l, Z t
  | [], _, t, h => by cases h
  | a :: r, hs, t, h => by
    rw [tszs] at hs
    rcases List.mem_cons.1 h with h | h
    · rw [h]; exact Z_all a (by omega)
    · exact Z_alls r (by omega) t h
end
def Q2 (t : Tm) : Prop := ∀ u : Tm, u.fit → pcall Tryd.prog md fg 16 [tmV t, tmV u] = some (.val (.bool (sameT t u)))
theorem r14_loop (k : Int) (p m : List UInt8) (n : Int) (l : List Tm) (k' : Int) (p' m' : List UInt8) (n' : Int) (l' : List Tm) (hl : l.length ≤ 9223372036854775807) (hll : l.length = l'.length) (hQ : ∀ t ∈ l, Q2 t) (hf : ∀ u ∈ l', u.fit) : ∀ (r : List Tm) (i : Nat), l.drop i = r → i ≤ l.length → ∃ (i' : Int),
    lrun Tryd.prog md fg (fg 16) (loopOf Tryd.f16 0) (fg 16 1) ((.unk :: .unk :: (.ptr 0 0) :: (.ptr 1 0) :: (.val (.bool false)) :: (.int i) :: U::U::U::U::U::U::U::U::U::U::U::U::U::U::U::U::U::U::U::U::U::U::U::U::U::U::U::U::U::U::U::U::U::U::U::U::U::U::U::U::U::U::U::U::U::U::U::U::U::U::U::U::U::U::[] : List AV)) [.vars [.int k, .str (txt p), .str (txt m), .int n, .slc false (l.map tmV)], .vars [.int k', .str (txt p'), .str (txt m'), .int n', .slc false (l'.map tmV)]] = some (if sameTs r (l'.drop i) then .exit 0 else .ret, (.unk :: .unk :: (.ptr 0 0) :: (.ptr 1 0) :: (.val (.bool false)) :: (.int i') :: U::U::U::U::U::U::U::U::U::U::U::U::U::U::U::U::U::U::U::U::U::U::U::U::U::U::U::U::U::U::U::U::U::U::U::U::U::U::U::U::U::U::U::U::U::U::U::U::U::U::U::U::U::U::[] : List AV), [.vars [.int k, .str (txt p), .str (txt m), .int n, .slc false (l.map tmV)], .vars [.int k', .str (txt p'), .str (txt m'), .int n', .slc false (l'.map tmV)]])
  | [], i, hdr, hi => by
    have : i = l.length := by have := congrArg List.length hdr; simp at this; omega
    subst this
    refine ⟨(l.length : Int), ?_⟩
    simp only [sameTs, if_true]
    rw [lrun_atC loop16_0]
    simp (implicitDefEqProofs := false) (disch := omega) only [go_sem, seval, rgn Tryd.f16 4 rfl, List.length_map]
  | ⟨k2, p2, m2, n2, l2⟩ :: r, i, hdr, hi => by
    have hx : l[i]? = some ⟨k2, p2, m2, n2, l2⟩ := by have := congrArg (·[0]?) hdr; simpa using this
    have hlt : i < l.length := (List.getElem?_eq_some_iff.1 hx).1
    have hd' : l.drop (i + 1) = r := by rw [← List.tail_drop, hdr]; rfl
    have ht : ((i : Int)).toNat = i := by omega
    obtain ⟨u, hu⟩ : ∃ u, l'[i]? = some u := ⟨l'[i], List.getElem?_eq_getElem (by omega)⟩
    have hud : l'.drop i = u :: l'.drop (i + 1) := by
      rw [List.drop_eq_getElem_cons (by omega)]
      have := (List.getElem?_eq_some_iff.1 hu).2
      rw [this]
    have hq := hQ _ (List.mem_of_getElem? hx) u (hf u (List.mem_of_getElem? hu))
    have cy : ∀ h : AHeap, doCall md (aval Tryd.prog md fg) 16 [tmV ⟨k2, p2, m2, n2, l2⟩, tmV u] h = some (.val (.bool (sameT ⟨k2, p2, m2, n2, l2⟩ u)), h) := fun h => doCall_pure md16 (solid2 _ _) hq
    rw [hud]
    rw [sameTs]
    obtain ⟨k3, p3, m3, n3, l3⟩ := u
    rw [tmV_mk, tmV_mk] at cy
    generalize sameT ⟨k2, p2, m2, n2, l2⟩ ⟨k3, p3, m3, n3, l3⟩ = b at *
    cases b with
    | true =>
      obtain ⟨i', e2⟩ := r14_loop k p m n l k' p' m' n' l' hl hll hQ hf r (i + 1) hd' (by omega)
      refine ⟨i', ?_⟩
      rw [Bool.true_and, ← e2]
      rw [lrun_atC loop16_0]
      simp (implicitDefEqProofs := false) (disch := omega) only [go_sem, seval, rgn Tryd.f16 4 rfl, rgn Tryd.f16 5 rfl, rgn Tryd.f16 6 rfl, rgn Tryd.f16 7 rfl, List.length_map, List.getElem?_map, ht, hx, hu, Option.map_some, tmV_mk, cy]
      all_goals (congr 1 <;> simp only [List.cons.injEq, AV.val.injEq, Value.int.injEq, Value.bool.injEq, true_and, and_true] <;> omega)
    | false =>
      refine ⟨(i : Int), ?_⟩
      simp only [Bool.false_and, Bool.false_eq_true, if_false]
      rw [lrun_atC loop16_0]
      simp (implicitDefEqProofs := false) (disch := omega) only [go_sem, seval, rgn Tryd.f16 4 rfl, rgn Tryd.f16 5 rfl, rgn Tryd.f16 6 rfl, rgn Tryd.f16 7 rfl, List.length_map, List.getElem?_map, ht, hx, hu, Option.map_some, tmV_mk, cy]
mutual
theorem Q2_all : ∀ t : Tm, t.fit → Q2 t
  | ⟨k, p, m, n, l⟩, hf => by
    rw [Tm.fit] at hf
    obtain ⟨f1, f2, f3, f4⟩ := hf
    have ih := Q2_alls l f4
    intro u hu
    obtain ⟨k', p', m', n', l'⟩ := u
    rw [Tm.fit] at hu
    obtain ⟨g1, g2, g3, g4⟩ := hu
    have e : ∃ h, aval Tryd.prog md fg 16 [tmV ⟨k, p, m, n, l⟩, tmV ⟨k', p', m', n', l'⟩] [] = some (.val (.bool (sameT ⟨k, p, m, n, l⟩ ⟨k', p', m', n', l'⟩)), h) := by
      rw [tmV_mk, tmV_mk, sameT]
      have hp := str_eq p p'
      have hm := str_eq m m'
      have ek : (k == k') = decide (k = k') := rfl
      have en : (n == n') = decide (n = n') := rfl
      rw [ek, en]
      by_cases h1 : k = k'
      · by_cases h2 : p = p'
        · by_cases h3 : m = m'
          · by_cases h4 : n = n'
            · by_cases h5 : l.length = l'.length
              · subst h1; subst h2; subst h3; subst h4
                obtain ⟨i', e2⟩ := r14_loop k p m n l k p m n l' f3 h5 ih (fits_mem g4) l 0 (by simp) (by omega)
                simp only [Int.natCast_zero, List.drop_zero] at e2
                have h6 : ((l.length : Int) = (l'.length : Int)) = True := by simp [h5]
                generalize sameTs l l' = b at *
                rw [aval_of Tryd.func16 body16 Tryd.results16 Tryd.ntmps16 ok16]
                cases b <;> simp only [Bool.false_eq_true, if_false, if_true] at e2 <;>
                · simp (implicitDefEqProofs := false) (disch := omega) only [go_sem, seval, rgn Tryd.f16 0 rfl, rgn Tryd.f16 1 rfl, rgn Tryd.f16 3 rfl, rgn Tryd.f16 8 rfl, List.length_map, h6, e2, decide_eq_true h5]
                  exact ⟨_, rfl⟩
              · have h6 : ¬ (l.length : Int) = (l'.length : Int) := by omega
                rw [aval_of Tryd.func16 body16 Tryd.results16 Tryd.ntmps16 ok16]
                simp (implicitDefEqProofs := false) (disch := omega) only [go_sem, seval, rgn Tryd.f16 0 rfl, rgn Tryd.f16 1 rfl, rgn Tryd.f16 2 rfl, List.length_map, h1, h2, h3, h4, h6, hp, hm, decide_eq_false h5]
                exact ⟨_, rfl⟩
            · rw [aval_of Tryd.func16 body16 Tryd.results16 Tryd.ntmps16 ok16]
              simp (implicitDefEqProofs := false) (disch := omega) only [go_sem, seval, rgn Tryd.f16 0 rfl, rgn Tryd.f16 1 rfl, rgn Tryd.f16 2 rfl, h1, h2, h3, h4, hp, hm]
              exact ⟨_, rfl⟩
          · rw [aval_of Tryd.func16 body16 Tryd.results16 Tryd.ntmps16 ok16]
            simp (implicitDefEqProofs := false) (disch := omega) only [go_sem, seval, rgn Tryd.f16 0 rfl, rgn Tryd.f16 1 rfl, rgn Tryd.f16 2 rfl, h1, h2, h3, hp, hm]
            exact ⟨_, rfl⟩
        · rw [aval_of Tryd.func16 body16 Tryd.results16 Tryd.ntmps16 ok16]
          simp (implicitDefEqProofs := false) (disch := omega) only [go_sem, seval, rgn Tryd.f16 0 rfl, rgn Tryd.f16 1 rfl, rgn Tryd.f16 2 rfl, h1, h2, hp, hm]
          exact ⟨_, rfl⟩
      · rw [aval_of Tryd.func16 body16 Tryd.results16 Tryd.ntmps16 ok16]
        simp (implicitDefEqProofs := false) (disch := omega) only [go_sem, seval, rgn Tryd.f16 0 rfl, rgn Tryd.f16 1 rfl, rgn Tryd.f16 2 rfl, h1, hp, hm]
        exact ⟨_, rfl⟩
    obtain ⟨h, e⟩ := e
    rw [pcall_eq, e, pureRes_solid rfl]
theorem Q2_alls : ∀ l : List Tm, Tm.fits l → ∀ t ∈ l, Q2 t
  | [], _, t, h => by cases h
  | a :: r, hf, t, h => by
    rw [Tm.fits] at hf
    rcases List.mem_cons.1 h with h | h
    · rw [h]; exact Q2_all a hf.1
    · exact Q2_alls r hf.2 t h
end
def KeepO (h h' : AHeap) : Prop := h.length ≤ h'.length ∧ ∀ j o, hget h j = o → (∀ a b c, o ≠ .arr a b c) → o ≠ .dead → hget h' j = o
theorem KeepO.refl (h : AHeap) : KeepO h h := ⟨Nat.le_refl _, fun _ _ e _ _ => e⟩
theorem KeepO.trans {a b c : AHeap} (x : KeepO a b) (y : KeepO b c) : KeepO a c := ⟨Nat.le_trans x.1 y.1, fun j o e h1 h2 => y.2 j o (x.2 j o e h1 h2) h1 h2⟩
mutual
def subT (L : List Vl) : Tm → Tm | .mk k p m n ks => if k = 1 then (match fv m L 0 with | some (_, t) => t | none => .mk k p m n (subL L ks)) else .mk k p m n (subL L ks)
def subL (L : List Vl) : List Tm → List Tm | [] => [] | t :: r => subT L t :: subL L r
end
abbrev nmV (L : List Vl) : AV := .slc false ((L.map Prod.fst).map sV)
abbrev byV (L : List Vl) : AV := .slc false ((L.map Prod.snd).map tmV)
def TL (h : AHeap) (v : AV) (L : List Tm) : Prop := (v = .slc true [] ∧ L = []) ∨ ∃ k g, v = .arr k 0 L.length g 5 ∧ hget h k = .arr 5 (L.map tmV) g
def ST (L : List Vl) (t : Tm) : Prop := pcall Tryd.prog md fg 17 [tmV t, nmV L, byV L] = some (tmV (subT L t))
theorem solid_byl : ∀ l : List Tm, solidL (l.map tmV) = true := fun l => by rw [← tmsV_eq]; exact solid_tms l
def NB (h : AHeap) (v : AV) (l : List (List UInt8)) : Prop := (v = .slc true [] ∧ l = []) ∨ ∃ k g, v = .arr k 0 l.length g 1 ∧ hget h k = .arr 1 (l.map sV) g
def KeepA (c : Nat) (h h' : AHeap) : Prop := ∀ j k es g, hget h j = .arr k es g → k ≠ c → hget h' j = .arr k es g
theorem frz_keep : ∀ (ids : List Nat) (h : AHeap) (j : Nat) (cs : List AV), hget h j = .vars cs → hget (frzAll h ids) j = .vars cs
  | [], h, j, cs, e => e
  | i :: r, h, j, cs, e => by
    rw [frzAll]
    refine frz_keep r _ j cs ?_
    unfold frz1
    split
    · rename_i k es g ho
      have hij : ¬ i = j := by rintro rfl; rw [ho] at e; cases e
      rw [hget_set_ne hij]; exact e
    · exact e
structure IS (h : AHeap) (S B V : Nat) (sh : List Sh) (P : SMap) (ns : List Nd) : Prop where
  sp : SP h S ns 200000 false 0
  nr : NR h S B sh idf idf yes 0 ns
  b : B ≤ h.length
  vs : V ≠ S
  ms : MS h V P
def NW (h : AHeap) (ns ns' : List Nd) : Prop := ∃ new, ns' = ns ++ new ∧ ∀ n ∈ new, ∀ K g l, n.kids = .arr K 0 l g 1 → h.length ≤ K
theorem NW.refl (h : AHeap) (ns : List Nd) : NW h ns ns := ⟨[], by simp, by simp⟩
theorem NW.trans {h H : AHeap} {a b c : List Nd} (x : NW h a b) (y : NW H b c) (hl : h.length ≤ H.length) : NW h a c := by
  obtain ⟨n1, rfl, h1⟩ := x
  obtain ⟨n2, rfl, h2⟩ := y
  refine ⟨n1 ++ n2, by simp, fun n hn K g l e => ?_⟩
  rcases List.mem_append.1 hn with hn | hn
  · exact h1 n hn K g l e
  · have := h2 n hn K g l e; omega
theorem NW.le {h : AHeap} {a b : List Nd} (x : NW h a b) : a.length ≤ b.length := by obtain ⟨n1, rfl, _⟩ := x; simp
theorem ku_app (S M T : Nat) (h l : AHeap) : Ku S M T h (h ++ l) := (kf_app S h l).ku M T
theorem IS.app {h : AHeap} {S B V : Nat} {sh : List Sh} {P : SMap} {ns : List Nd} (x : IS h S B V sh P ns) (l : AHeap) : IS (h ++ l) S B V sh P ns :=
  ⟨sp_app x.sp l, x.nr.kf (kf_app S h l), by have := x.b; simp; omega, x.vs, by have := x.ms; unfold MS at this ⊢; rw [hget_app l (hlt_of this (by simp))]; exact this⟩
theorem sp_map {h : AHeap} {S V : Nat} {ns : List Nd} {b : Int} {f : Bool} {w : Int} (hs : SP h S ns b f w) (hV : V ≠ S) {P : SMap} (hm : MS h V P) (o : AObj) : SP (h.set V o) S ns b f w := by
  obtain ⟨nv, z1, z2⟩ := hs
  refine ⟨nv, by rw [hget_set_ne hV]; exact z1, ?_⟩
  rcases z2 with z2 | ⟨A', g', z2, z3⟩
  · exact .inl z2
  · exact .inr ⟨A', g', z2, by rw [hget_set_ne (by rintro rfl; unfold MS at hm; rw [hm] at z3; simp at z3)]; exact z3⟩
theorem kb_map {h : AHeap} {S B V : Nat} {P : SMap} (hm : MS h V P) (o : AObj) {v : AV} {kl : List Int} (x : KB h S B v kl) : KB (h.set V o) S B v kl := by
  rcases x with x | ⟨K, g, e1, e2, e3, e4⟩
  · exact .inl x
  · exact .inr ⟨K, g, e1, by rw [hget_set_ne (by rintro rfl; unfold MS at hm; rw [hm] at e2; cases e2)]; exact e2, e3, e4⟩
theorem nr_map {h : AHeap} {S B V : Nat} {P : SMap} (hm : MS h V P) (o : AObj) {sh : List Sh} {rt r : Nat → Nat} {vis : Nat → Bool} {w : Int} {ns : List Nd} (x : NR h S B sh rt r vis w ns) : NR (h.set V o) S B sh rt r vis w ns :=
  ⟨x.1, fun i n s h1 h2 => by
    have y := x.2 i n s h1 h2
    exact ⟨y.kind, y.pkg, y.name, kb_map hm o y.kids, y.to, y.mark, y.le⟩⟩
theorem IS.end' {f : FuncId} {vs : List AV} {h H : AHeap} {res : AV} {S B B' V : Nat} {sh sh' : List Sh} {P P' : SMap} {ns ns' : List Nd} (hm : md f = 1) (e : aval Tryd.prog md fg f vs h = some (res, H)) (h0 : IS h S B V sh P ns) (h1 : IS H S B' V sh' P' ns') (hk : Ku S V V h H) (hw : NW h ns ns') (hnew : ns'.length ≠ ns.length ∨ B' ≤ h.length) (har : AR S h H) :
    ∃ H' B'', doCall md (aval Tryd.prog md fg) f vs h = some (res, H') ∧ IS H' S B'' V sh' P' ns' ∧ Ku S V V h H' ∧ AR S h H' := by
  obtain ⟨H', B'', z1, z2, z3, z4, z8, z5, z6, z7⟩ := doCall_imp hm e h0.sp h1.sp h1.nr h1.b hk.1 hw.le hnew har
  have hV : V < h.length := hlt_of h0.ms (by simp)
  exact ⟨H', B'', z1, ⟨z2, z3, z4, h0.vs, by have := h1.ms; unfold MS at this ⊢; rw [z6 V hV]; exact this⟩, ⟨z5, fun j o e h1 h2 h3 h4 h5 => by rw [z6 j (hlt_of e h1)]; exact hk.2 j o e h1 h2 h3 h4 h5⟩, z7⟩
section
variable {S V : Nat} {f : FuncId} {caps : List AV} {h0 : AHeap}
def ImpOk (S V : Nat) (f : FuncId) (caps : List AV) (h0 : AHeap) (t : Tm) : Prop := ∀ (h : AHeap) (B : Nat) (sh : List Sh) (P : SMap) (ns : List Nd), Ku S V V h0 h → IS h S B V sh P ns → IP sh P → sh.length + tsz t ≤ 90000 →
  ∃ H id B' sh' P' ns', doCall md (aval Tryd.prog md fg) 39 [.ptr S 0, tmV t, .mp V, .clo f [] caps] h = some (.int (id : Nat), H) ∧ IS H S B' V sh' P' ns' ∧ IP sh' P' ∧ IE sh P (tvars t) sh' P' ∧ Val sh' P' id t ∧ sh'.length ≤ sh.length + tsz t ∧ kc sh' + 1 ≤ kc sh + tsz t ∧ Ku S V V h H ∧ AR S h H ∧ NW h ns ns'
def Fr (S V : Nat) (f : FuncId) (caps : List AV) (h0 : AHeap) : Prop := ∀ (h1 : AHeap) (ns1 : List Nd), Ku S V V h0 h1 → SP h1 S ns1 200000 false 0 → ns1.length < 200000 → ∃ H, doCall md (aval Tryd.prog md fg) f caps h1 = some (.int ns1.length, H) ∧ SP H S (ns1 ++ [vNd 0 ns1.length]) 200000 false 0 ∧ Kf S h1 H ∧ AR S h1 H
set_option maxHeartbeats 8000000 in
theorem imp_var (hc : callable Tryd.prog f = true) (hfr : Fr S V f caps h0) (p m : List UInt8) (n : Int) (l : List Tm) (ht : Tm.ty ⟨1, p, m, n, l⟩) : ImpOk S V f caps h0 ⟨1, p, m, n, l⟩ := by
  intro h B sh P ns hk hi ip hbud
  rw [Tm.ty] at ht
  obtain ⟨hl, hp⟩ := ht.1.2.2.2 rfl
  subst hl; subst hp
  have hS : S < h.length := by obtain ⟨_, q, _⟩ := hi.sp; exact hlt_of q (by simp)
  have hi1 := hi.app [.vars [.int 1, .str (txt []), .str (txt m), .int n, .slc false []]]
  have k1 := ku_app S V V h [.vars [.int 1, .str (txt []), .str (txt m), .int n, .slc false []]]
  have cf := full_c hi1.sp
  have lk := (ms_look hi1.ms m).1
  have htv : tvars ⟨1, [], m, n, []⟩ = [m] := by rw [tvars, if_pos rfl]
  have hts : tsz ⟨1, [], m, n, []⟩ = 1 := by rw [tsz, tszs]
  have hin : ∀ th : List UInt8 → Tm, inst th ⟨1, [], m, n, []⟩ = th m := fun th => by rw [inst, if_pos rfl]
  rw [htv, hts, tmV_mk, List.map_nil]
  rw [hts] at hbud
  cases hmg : mg P m with
  | some i =>
    rw [hmg] at lk
    simp only [Option.getD_some, Option.isSome_some] at lk
    have e : aval Tryd.prog md fg 39 [.ptr S 0, .agg [.int 1, .str (txt []), .str (txt m), .int n, .slc false []], .mp V, .clo f [] caps] h = some (.int (i : Int), h ++ [.vars [.int 1, .str (txt []), .str (txt m), .int n, .slc false []]]) := by
      rw [aval_of Tryd.func39 body39 Tryd.results39 Tryd.ntmps39 ok39]
      simp (implicitDefEqProofs := false) (disch := omega) only [go_sem, seval, rgn Tryd.f39 0 rfl, rgn Tryd.f39 1 rfl, rgn Tryd.f39 3 rfl, rgn Tryd.f39 4 rfl, rgn Tryd.f39 5 rfl, rgn Tryd.f39 8 rfl, cf, hget_last, aop_lookup, lk]
    obtain ⟨H', B'', z1, z2, z3, z4⟩ := IS.end' md39 e hi hi1 k1 (NW.refl h ns) (.inr hi.b) (AR.app hS _)
    refine ⟨H', i, B'', sh, P, ns, z1, z2, ip, ⟨⟨[], by simp⟩, fun _ _ h => h, fun x hx => ?_, fun _ _ h => .inl h⟩, ⟨lt_of_at (ip.var m i hmg), fun x hx => ?_, fun M _ => ?_⟩, by omega, by omega, z3, z4, NW.refl h ns⟩
    · rw [List.mem_singleton.1 hx]; exact ⟨i, hmg⟩
    · rw [htv] at hx; rw [List.mem_singleton.1 hx]; exact ⟨i, hmg⟩
    · rw [hin]; show M i = M ((mg P m).getD 0); rw [hmg]; rfl
  | none =>
    rw [hmg] at lk
    simp only [Option.getD_none, Option.isSome_none] at lk
    have hnl := hi.nr.1
    obtain ⟨H1, c1, c2, c3, c4⟩ := hfr _ ns (hk.trans k1) hi1.sp (by omega)
    have hm1 : MS H1 V P := c3.2 V _ hi1.ms (by simp) hi.vs (by simp)
    have hput := ms_put hm1 m ns.length
    have yb : hget H1 h.length = .vars [.int 1, .str (txt []), .str (txt m), .int n, .slc false []] := c3.2 _ _ hget_last (by simp) (by omega) (by simp)
    obtain ⟨ip2, ie2⟩ := ip_var ip hmg
    rw [hnl] at c1 c2 hput
    have hVl := hlt_of hm1 (by simp)
    have hNR : NR H1 S B (sh ++ [vSh]) idf idf yes 0 (ns ++ [vNd 0 sh.length]) := hi1.nr.add (Nat.le_refl _) (fun _ _ x => x.kf c3) rfl rfl rfl (.inl ⟨rfl, rfl⟩) rfl rfl
    have hI : IS (H1.set V (.map (encM sV nV (mset P m sh.length).1) (mset P m sh.length).2)) S B V (sh ++ [vSh]) (mset P m sh.length) (ns ++ [vNd 0 sh.length]) := ⟨sp_map c2 hi.vs hm1 _, nr_map hm1 _ hNR, by have := hi1.b; have := c3.1; rw [List.length_set]; omega, hi.vs, hget_set_eq hVl⟩
    have hK : Ku S V V h (H1.set V (.map (encM sV nV (mset P m sh.length).1) (mset P m sh.length).2)) := by
      have k := k1.trans (c3.ku V V)
      exact ⟨by rw [List.length_set]; exact k.1, fun j o e z1 z2 z3 z4 z5 => by rw [hget_set_ne (fun q => z3 q.symm)]; exact k.2 j o e z1 z2 z3 z4 z5⟩
    have hAR : AR S h (H1.set V (.map (encM sV nV (mset P m sh.length).1) (mset P m sh.length).2)) := ((AR.app hS _).trans c4 (by simp)).same (hget_set_ne hi.vs)
    have e : aval Tryd.prog md fg 39 [.ptr S 0, .agg [.int 1, .str (txt []), .str (txt m), .int n, .slc false []], .mp V, .clo f [] caps] h = some (.int (sh.length : Int), H1.set V (.map (encM sV nV (mset P m sh.length).1) (mset P m sh.length).2)) := by
      rw [aval_of Tryd.func39 body39 Tryd.results39 Tryd.ntmps39 ok39]
      simp (implicitDefEqProofs := false) (disch := omega) only [go_sem, seval, rgn Tryd.f39 0 rfl, rgn Tryd.f39 1 rfl, rgn Tryd.f39 3 rfl, rgn Tryd.f39 4 rfl, rgn Tryd.f39 5 rfl, rgn Tryd.f39 6 rfl, rgn Tryd.f39 7 rfl, rgn Tryd.f39 8 rfl, cf, hget_last, aop_lookup, lk, hc, List.nil_append, c1, yb, hput, aop_mapUpdate]
    have hNW : NW h ns (ns ++ [vNd 0 sh.length]) := ⟨_, rfl, fun n hn K g l e => by rw [List.mem_singleton.1 hn] at e; cases e⟩
    obtain ⟨H', B'', z1, z2, z3, z4⟩ := IS.end' md39 e hi hI hK hNW (.inl (by simp)) hAR
    refine ⟨H', sh.length, B'', _, _, _, z1, z2, ip2, ie2, ⟨by simp, fun x hx => ?_, fun M _ => ?_⟩, by simp, by rw [kc_add]; simp, z3, z4, hNW⟩
    · rw [htv] at hx; exact ie2.has x hx
    · rw [hin]; show M sh.length = M ((mg (mset P m sh.length) m).getD 0); rw [mg_mset, if_pos rfl]; rfl
end
theorem sp_setT {h : AHeap} {S T : Nat} {ns : List Nd} {b : Int} {f : Bool} {w : Int} (hs : SP h S ns b f w) (hTS : T ≠ S) {es : List AV} {g : Nat} (hT : hget h T = .arr 1 es g) (o : AObj) : SP (h.set T o) S ns b f w := by
  obtain ⟨nv, z1, z2⟩ := hs
  refine ⟨nv, by rw [hget_set_ne hTS]; exact z1, ?_⟩
  rcases z2 with z2 | ⟨A', g', z2, z3⟩
  · exact .inl z2
  · exact .inr ⟨A', g', z2, by rw [hget_set_ne (by rintro rfl; rw [hT] at z3; simp at z3)]; exact z3⟩
def NoT (T : Nat) (ns : List Nd) : Prop := ∀ n ∈ ns, ∀ K g l, n.kids = .arr K 0 l g 1 → K ≠ T
theorem nr_setT {h : AHeap} {S B T : Nat} (o : AObj) {sh : List Sh} {rt r : Nat → Nat} {vis : Nat → Bool} {w : Int} {ns : List Nd} (x : NR h S B sh rt r vis w ns) (hno : NoT T ns) : NR (h.set T o) S B sh rt r vis w ns :=
  ⟨x.1, fun i n s h1 h2 => by
    have y := x.2 i n s h1 h2
    refine ⟨y.kind, y.pkg, y.name, ?_, y.to, y.mark, y.le⟩
    rcases y.kids with z | ⟨K, g, e1, e2, e3, e4⟩
    · exact .inl z
    · exact .inr ⟨K, g, e1, by rw [hget_set_ne (fun q => hno n (List.mem_of_getElem? h1) K g _ e1 q.symm)]; exact e2, e3, e4⟩⟩
theorem IS.setT {h : AHeap} {S B V T : Nat} {sh : List Sh} {P : SMap} {ns : List Nd} (x : IS h S B V sh P ns) (hTS : T ≠ S) (hTV : T ≠ V) (hno : NoT T ns) {es : List AV} {g : Nat} (hT : hget h T = .arr 1 es g) (o : AObj) : IS (h.set T o) S B V sh P ns :=
  ⟨sp_setT x.sp hTS hT o, nr_setT o x.nr hno, by rw [List.length_set]; exact x.b, x.vs, by have := x.ms; unfold MS at this ⊢; rw [hget_set_ne hTV]; exact this⟩
theorem NoT.new {T : Nat} {h : AHeap} {ns ns' : List Nd} (x : NoT T ns) (y : NW h ns ns') (hT : T < h.length) : NoT T ns' := by
  obtain ⟨new, rfl, hn⟩ := y
  intro n hm K g l e
  rcases List.mem_append.1 hm with hm | hm
  · exact x n hm K g l e
  · have := hn n hm K g l e; omega
def Vals (sh : List Sh) (P : SMap) (kl : List Nat) (l : List Tm) : Prop := kl.length = l.length ∧ ∀ (j id : Nat) (t : Tm), kl[j]? = some id → l[j]? = some t → Val sh P id t
theorem Vals.ext {a b : List Sh} {P Q : SMap} {u : List (List UInt8)} (x : IE a P u b Q) {kl : List Nat} {l : List Tm} (v : Vals a P kl l) : Vals b Q kl l := ⟨v.1, fun j id t h1 h2 => (v.2 j id t h1 h2).ext x⟩
theorem Vals.snoc {sh : List Sh} {P : SMap} {kl : List Nat} {l : List Tm} (v : Vals sh P kl l) {id : Nat} {t : Tm} (hv : Val sh P id t) : Vals sh P (kl ++ [id]) (l ++ [t]) := by
  refine ⟨by simp [v.1], fun j i x h1 h2 => ?_⟩
  by_cases hj : j < kl.length
  · rw [List.getElem?_append_left hj] at h1
    rw [List.getElem?_append_left (by rw [← v.1]; exact hj)] at h2
    exact v.2 j i x h1 h2
  · have := lt_of_at h1
    have : j = kl.length := by simp at this; omega
    subst this
    rw [List.getElem?_append_right (Nat.le_refl _), Nat.sub_self] at h1
    rw [List.getElem?_append_right (by rw [v.1]; exact Nat.le_refl _), v.1, Nat.sub_self] at h2
    cases h1; cases h2; exact hv
theorem septr_int {i x : Nat} {y : Int} {H1 : AHeap} {T g : Nat} (L : List AV) (hL : L[i]? = some (.int y)) : septr true 1 (.int (x : Int)) g 1 i 0 H1 T (.arr 1 L g) = some (H1.set T (.arr 1 (L.set i (.int (x : Int))) g)) := by
  simp [septr, hL, AV.cells, patch, putAt]
theorem amake_85 (h : AHeap) (n : Nat) (hn : n ≤ 100000) : amake Tryd.prog 85 h (.int (n : Int)) (.int (n : Int)) = some (.arr h.length 0 n 0 1, h ++ [.arr 1 (List.replicate n (.int 0)) 0]) := by
  unfold amake
  have e : ((n : Int)).toNat = n := by omega
  have : tslice Tryd.prog 85 = some (1, 8, .int 0) := tslice_85
  rw [this]
  show (if 0 ≤ (n : Int) ∧ (n : Int) ≤ (n : Int) ∧ ((n : Int)).toNat * 8 ≤ 2 ^ 47 then some (AV.arr h.length 0 ((n : Int)).toNat 0 1, h ++ [AObj.arr 1 (List.replicate ((n : Int)).toNat (.int 0)) 0]) else none) = _
  rw [e, if_pos ⟨by omega, Int.le_refl _, by omega⟩]
section
variable {S V : Nat} {f : FuncId} {caps : List AV} {h0 : AHeap}
set_option maxHeartbeats 8000000 in
theorem imp_loop (hc : callable Tryd.prog f = true) {l : List Tm} (hl : l.length ≤ 100000) {T bx : Nat} (hTS : T ≠ S) (hTV : T ≠ V) (hT0 : h0.length ≤ T) : ∀ (r done : List Tm), (∀ k ∈ r, ImpOk S V f caps h0 k) → l = done ++ r → ∀ (h : AHeap) (B : Nat) (sh : List Sh) (P : SMap) (ns : List Nd) (kl : List Nat), Ku S V V h0 h → IS h S B V sh P ns → IP sh P → sh.length + tszs r ≤ 90000 → Vals sh P kl done → T < h.length → NoT T ns → TI h T 0 (ints kl ++ List.replicate r.length 0) →
    ∃ H kl' B' sh' P' ns', lrun Tryd.prog md fg (fg 39) (loopOf Tryd.f39 0) (fg 39 1) (((.ptr S 0) :: .unk :: (.mp V) :: (.clo f [] caps) :: .unk :: (.ptr bx 0) :: U::U::U::U::U::(.arr T 0 l.length 0 1) :: U::U::U::U::U::U::U::U::U::U::U::U::U::U::U::U::U::U::U::U::U::U::U::U::U::U::U::U::(.slc false (l.map tmV)) :: (.int l.length) :: (.int done.length) :: U::U::U::U::U::U::U::U::U::U::U::U::U::U::U::U::U::U::U::U::U::U::[] : List AV)) h = some (.exit 0, ((.ptr S 0) :: .unk :: (.mp V) :: (.clo f [] caps) :: .unk :: (.ptr bx 0) :: U::U::U::U::U::(.arr T 0 l.length 0 1) :: U::U::U::U::U::U::U::U::U::U::U::U::U::U::U::U::U::U::U::U::U::U::U::U::U::U::U::U::(.slc false (l.map tmV)) :: (.int l.length) :: (.int l.length) :: U::U::U::U::U::U::U::U::U::U::U::U::U::U::U::U::U::U::U::U::U::U::[] : List AV), H) ∧ IS H S B' V sh' P' ns' ∧ IP sh' P' ∧ Vals sh' P' kl' l ∧ IE sh P (tvarss r) sh' P' ∧ sh'.length ≤ sh.length + tszs r ∧ kc sh' + r.length ≤ kc sh + tszs r ∧ Ku S V T h H ∧ AR S h H ∧ NW h ns ns' ∧ NoT T ns' ∧ TI H T 0 (ints kl')
  | [], done, hih, he, h, B, sh, P, ns, kl, hk, hi, ip, hb, hv, hTl, hno, hT => by
    rw [List.append_nil] at he
    subst he
    refine ⟨h, kl, B, sh, P, ns, ?_, hi, ip, hv, by rw [tvarss]; exact IE.refl sh P, by rw [tszs]; omega, by rw [tszs]; simp, Ku.refl _ _ _ _, AR.refl S h, NW.refl h ns, hno, by simpa using hT⟩
    rw [lrun_atC loop39_0]
    simp (implicitDefEqProofs := false) (disch := omega) only [go_sem, seval, rgn Tryd.f39 11 rfl]
  | k :: r, done, hih, he, h, B, sh, P, ns, kl, hk, hi, ip, hb, hv, hTl, hno, hT => by
    obtain ⟨kd, kp, km, kn, kk⟩ := k
    rw [tszs] at hb
    have hpos := tsz_pos ⟨kd, kp, km, kn, kk⟩
    have hS : S < h.length := by obtain ⟨_, q, _⟩ := hi.sp; exact hlt_of q (by simp)
    have hi1 := hi.app [.vars [.int kd, .str (txt kp), .str (txt km), .int kn, .slc false (kk.map tmV)]]
    have k1 := ku_app S V V h [.vars [.int kd, .str (txt kp), .str (txt km), .int kn, .slc false (kk.map tmV)]]
    obtain ⟨H1, id, B1, sh1, P1, ns1, c1, i1, ip1, ie1, v1, le1, kc1, ku1, ar1, nw1⟩ := hih ⟨kd, kp, km, kn, kk⟩ (List.mem_cons_self ..) _ B sh P ns (hk.trans k1) hi1 ip (by omega)
    rw [tmV_mk] at c1
    have hT1 : TI H1 T 0 (ints kl ++ 0 :: List.replicate r.length 0) := (k1.trans ku1).2 T _ hT (by simp) hTS hTV hTV (by simp)
    have hno1 : NoT T ns1 := hno.new nw1 (by simp; omega)
    have hT1l := hlt_of hT1 (by simp)
    have hT2 : TI (H1.set T (.arr 1 ((ints (kl ++ [id]) ++ List.replicate r.length 0).map AV.int) 0)) T 0 (ints (kl ++ [id]) ++ List.replicate r.length 0) := hget_set_eq hT1l
    have i2 := i1.setT hTS hTV hno1 hT1 (.arr 1 ((ints (kl ++ [id]) ++ List.replicate r.length 0).map AV.int) 0)
    have kT : Ku S V T h (H1.set T (.arr 1 ((ints (kl ++ [id]) ++ List.replicate r.length 0).map AV.int) 0)) := by
      have k := k1.trans ku1
      exact ⟨by rw [List.length_set]; exact k.1, fun j o e z1 z2 z3 z4 z5 => by rw [hget_set_ne (fun q => z4 q.symm)]; exact k.2 j o e z1 z2 z3 z3 z5⟩
    have k02 : Ku S V V h0 (H1.set T (.arr 1 ((ints (kl ++ [id]) ++ List.replicate r.length 0).map AV.int) 0)) := ⟨Nat.le_trans hk.1 kT.1, fun j o e z1 z2 z3 z4 z5 => kT.2 j o (hk.2 j o e z1 z2 z3 z4 z5) z1 z2 z3 (by have := hlt_of e z1; omega) z5⟩
    have har2 : AR S h (H1.set T (.arr 1 ((ints (kl ++ [id]) ++ List.replicate r.length 0).map AV.int) 0)) := ((AR.app hS _).trans ar1 (by simp)).same (hget_set_ne hTS)
    have nwh : NW h ns ns1 := by
      obtain ⟨new, e1, e2⟩ := nw1
      exact ⟨new, e1, fun n hn K g l e => by have := e2 n hn K g l e; simp at this; omega⟩
    obtain ⟨H, kl', B', sh', P', ns', y1, y2, y3, y4, y5, y6, y7, y8, y9, y10, y11, y12⟩ := imp_loop hc hl hTS hTV hT0 r (done ++ [⟨kd, kp, km, kn, kk⟩]) (fun k hk => hih k (List.mem_cons_of_mem _ hk)) (by rw [he]; simp) _ B1 sh1 P1 ns1 (kl ++ [id]) k02 i2 ip1 (by omega) ((hv.ext ie1).snoc v1) (by rw [List.length_set]; exact hT1l) hno1 hT2
    refine ⟨H, kl', B', sh', P', ns', ?_, y2, y3, y4, by rw [tvarss]; exact ie1.trans y5, by rw [tszs]; omega, by rw [tszs, List.length_cons]; omega, kT.trans y8, har2.trans y9 kT.1, nwh.trans y10 kT.1, y11, y12⟩
    have hlen2 : (done ++ [Tm.mk kd kp km kn kk]).length = done.length + 1 := by simp
    rw [hlen2] at y1
    rw [← y1]
    have hll : l.length = done.length + (r.length + 1) := by rw [he]; simp
    have hlt : (done.length : Int) < (l.length : Int) := by omega
    have htn : ((done.length : Int)).toNat = done.length := by omega
    have hat : (l.map tmV)[done.length]? = some (.agg [.int kd, .str (txt kp), .str (txt km), .int kn, .slc false (kk.map tmV)]) := by
      rw [he]; simp [tmV_mk]
    have yb : hget H1 h.length = .vars [.int kd, .str (txt kp), .str (txt km), .int kn, .slc false (kk.map tmV)] := ku1.2 _ _ hget_last (by simp) (by omega) (by have := hlt_of hi.ms (by simp); omega) (by have := hlt_of hi.ms (by simp); omega) (by simp)
    have hgT : ((ints kl ++ 0 :: List.replicate r.length 0).map AV.int)[done.length]? = some (.int 0) := by
      have := hv.1
      rw [List.getElem?_map, List.getElem?_append_right (by rw [ints_len]; omega), ints_len, show done.length - kl.length = 0 by omega]
      rfl
    have hset : ((ints kl ++ 0 :: List.replicate r.length 0).map AV.int).set done.length (.int (id : Int)) = (ints (kl ++ [id]) ++ List.replicate r.length 0).map AV.int := by
      have := hv.1
      rw [List.map_append, List.map_cons, ints_append, List.append_assoc, List.map_append]
      rw [List.set_append_right _ _ (by simp [ints_len]; omega)]
      simp only [List.length_map, ints_len]
      rw [show done.length - kl.length = 0 by omega]
      rfl
    have hstp : septr true 1 (.int (id : Int)) 0 1 done.length 0 H1 T (.arr 1 ((ints kl ++ 0 :: List.replicate r.length 0).map AV.int) 0) = some (H1.set T (.arr 1 ((ints (kl ++ [id]) ++ List.replicate r.length 0).map AV.int) 0)) := by
      rw [← hset]
      exact septr_int _ hgT
    unfold TI at hT1
    rw [lrun_atC loop39_0]
    simp (implicitDefEqProofs := false) (disch := omega) only [go_sem, seval, rgn Tryd.f39 11 rfl, rgn Tryd.f39 12 rfl, rgn Tryd.f39 13 rfl, rgn Tryd.f39 14 rfl, hlt, htn, hat, hget_last, set_last, c1, hT1, hstp, yb, hgT]
    all_goals (congr 1 <;> simp only [List.cons.injEq, AV.val.injEq, Value.int.injEq, Value.bool.injEq, true_and, and_true] <;> omega)
set_option maxHeartbeats 8000000 in
theorem imp_node (hc : callable Tryd.prog f = true) (k : Int) (p m : List UInt8) (n : Int) (l : List Tm) (ht : Tm.ty ⟨k, p, m, n, l⟩) (hft : Tm.fit ⟨k, p, m, n, l⟩) (hk1 : k ≠ 1) (hih : ∀ x ∈ l, ImpOk S V f caps h0 x) : ImpOk S V f caps h0 ⟨k, p, m, n, l⟩ := by
  intro h B sh P ns hk hi ip hbud
  rw [Tm.ty] at ht
  have hS : S < h.length := by obtain ⟨_, q, _⟩ := hi.sp; exact hlt_of q (by simp)
  have hVl : V < h.length := hlt_of hi.ms (by simp)
  have hts : tsz ⟨k, p, m, n, l⟩ = 1 + tszs l := by rw [tsz]
  have htv : tvars ⟨k, p, m, n, l⟩ = tvarss l := by rw [tvars, if_neg hk1]
  rw [hts] at hbud
  have hlen : ∀ l : List Tm, l.length ≤ tszs l := fun l => by
    induction l with
    | nil => simp
    | cons a r ih => rw [tszs]; have := tsz_pos a; simp; omega
  have hll := hlen l
  rw [htv, hts, tmV_mk]
  have hi1 := hi.app [.vars [.int k, .str (txt p), .str (txt m), .int n, .slc false (l.map tmV)]]
  have cf := full_c hi1.sp
  have hi2 := hi.app [.vars [.int k, .str (txt p), .str (txt m), .int n, .slc false (l.map tmV)], .arr 1 ((List.replicate l.length (0 : Int)).map AV.int) 0]
  have k2 := ku_app S V V h [.vars [.int k, .str (txt p), .str (txt m), .int n, .slc false (l.map tmV)], .arr 1 ((List.replicate l.length (0 : Int)).map AV.int) 0]
  have hno : NoT (h.length + 1) ns := fun n hn K g l' e => by
    obtain ⟨j, hj⟩ := List.mem_iff_getElem?.1 hn
    obtain ⟨s, hs⟩ := at_of_lt (l := sh) (i := j) (by rw [← hi.nr.1]; exact lt_of_at hj)
    rcases (hi.nr.2 j n s hj hs).kids with ⟨z, _⟩ | ⟨K', g', z, _, _, z4⟩
    · rw [z] at e; cases e
    · rw [z] at e
      simp only [AV.arr.injEq] at e
      have := hi.b
      omega
  have h0l := hk.1
  obtain ⟨H, kl, B', sh', P', ns', y1, y2, y3, y4, y5, y6, y7, y8, y9, y10, y11, y12⟩ := imp_loop (bx := h.length) (l := l) hc (by omega) (T := h.length + 1) (by omega) (by omega) (by omega) l [] hih rfl _ B sh P ns [] (hk.trans k2) hi2 ip (by omega) ⟨rfl, by simp⟩ (by simp) hno (sb_get1 _ _ _ rfl)
  have hb : hget H h.length = .vars [.int k, .str (txt p), .str (txt m), .int n, .slc false (l.map tmV)] := y8.2 _ _ (sb_get0 _ _ rfl) (by simp) (by omega) (by omega) (by omega) (by simp)
  have hkl := y4.1
  have hids : ∀ x ∈ kl, x < sh'.length := fun x hx => by
    obtain ⟨j, hj⟩ := List.mem_iff_getElem?.1 hx
    obtain ⟨t, ht⟩ := at_of_lt (l := l) (i := j) (by rw [← hkl]; exact lt_of_at hj)
    exact (y4.2 j x t hj ht).1
  obtain ⟨H4, B4, n4, c1, c2, c3, c4, c5, c6, c7⟩ := make_c2 y2.sp y2.nr y2.b (by omega) k p m y12 (by omega) hids
  rw [hkl] at c1
  have har : AR S h H4 := ((AR.app hS _).trans (y9.trans c6 y8.1) (by simp))
  have hku : Ku S V V h H4 := by
    have q := (k2.trans ((Ku.trans (Ku.refl _ _ _ _) (Ku.refl _ _ _ _)) : Ku S V V _ _))
    refine ⟨Nat.le_trans k2.1 (Nat.le_trans y8.1 c5.1), fun j o e z1 z2 z3 z4 z5 => c5.2 j o (y8.2 j o (k2.2 j o e z1 z2 z3 z4 z5) z1 z2 z3 (by have := hlt_of e z1; omega) z5) z1 z2 z5⟩
  have hms : MS H4 V P' := by have := y2.ms; unfold MS at this ⊢; exact c5.2 V _ this (by simp) hi.vs (by simp)
  have hI4 : IS H4 S B4 V (sh' ++ [⟨k, p, m, kl⟩]) P' (ns' ++ [n4]) := ⟨c2, c3, c4, hi.vs, hms⟩
  have hlH : h.length + 2 ≤ H.length := by have := y8.1; simp at this; omega
  have hNW : NW h ns (ns' ++ [n4]) := by
    obtain ⟨new, e1, e2⟩ := y10
    refine ⟨new ++ [n4], by rw [e1, List.append_assoc], fun x hx K g l e => ?_⟩
    rcases List.mem_append.1 hx with hx | hx
    · have := e2 x hx K g l e; simp at this; omega
    · rw [List.mem_singleton.1 hx] at e
      have := c7 K g l e; omega
  have hnl' := y10.le
  have e : aval Tryd.prog md fg 39 [.ptr S 0, .agg [.int k, .str (txt p), .str (txt m), .int n, .slc false (l.map tmV)], .mp V, .clo f [] caps] h = some (.int (sh'.length : Int), H4) := by
    simp only [List.length_nil, Int.natCast_zero, List.map_replicate] at y1
    have hmk := fun h => amake_85 h l.length (by omega)
    rw [aval_of Tryd.func39 body39 Tryd.results39 Tryd.ntmps39 ok39]
    simp (implicitDefEqProofs := false) (disch := omega) only [go_sem, seval, rgn Tryd.f39 0 rfl, rgn Tryd.f39 1 rfl, rgn Tryd.f39 3 rfl, rgn Tryd.f39 9 rfl, rgn Tryd.f39 10 rfl, rgn Tryd.f39 15 rfl, cf, hget_last, hk1, List.append_assoc, List.cons_append, List.nil_append, sb_get0, List.length_append, List.length_cons, List.length_nil, List.length_map, Int.toNat_natCast, y1, hb, c1, hmk, ato2_some]
  obtain ⟨H', B'', z1, z2, z3, z4⟩ := IS.end' md39 e hi hI4 hku hNW (.inl (by simp; omega)) har
  obtain ⟨ip2, ie2⟩ := ip_node (s := ⟨k, p, m, kl⟩) y3 hids hk1 (by dsimp only; omega) (by rw [Tm.fit] at hft; exact ⟨hft.1, hft.2.1, ht.1.1, ht.1.2.1⟩)
  have ie3 := y5.trans ie2
  rw [List.append_nil] at ie3
  refine ⟨H', sh'.length, B'', _, P', _, z1, z2, ip2, ie3, ⟨by simp, fun x hx => ?_, fun M hM => ?_⟩, by simp; omega, by rw [kc_add]; dsimp only; omega, z3, z4, hNW⟩
  · rw [htv] at hx; exact ie3.has x hx
  · rw [inst_mk, if_neg hk1, hM sh'.length ⟨k, p, m, kl⟩ (by rw [List.getElem?_append_right (Nat.le_refl _), Nat.sub_self]; rfl) hk1]
    congr 1
    apply List.ext_getElem?
    intro j
    rw [List.getElem?_map, List.getElem?_map]
    cases hj : kl[j]? with
    | none =>
      rw [List.getElem?_eq_none (by rw [← hkl]; exact List.getElem?_eq_none_iff.1 hj)]; rfl
    | some id =>
      obtain ⟨t, ht⟩ := at_of_lt (l := l) (i := j) (by rw [← hkl]; exact lt_of_at hj)
      rw [ht, Option.map_some, Option.map_some]
      have := (y4.2 j id t hj ht).2.2 M (con_pre hM)
      rw [this]
mutual
theorem imp_all (hc : callable Tryd.prog f = true) (hfr : Fr S V f caps h0) : ∀ t : Tm, t.ty → t.fit → ImpOk S V f caps h0 t
  | .mk k p m n l, ht, hft => by
    by_cases hk : k = 1
    · subst hk; exact imp_var hc hfr p m n l ht
    · exact imp_node hc k p m n l ht hft hk (imp_alls hc hfr l (by rw [Tm.ty] at ht; exact ht.2) (by rw [Tm.fit] at hft; exact hft.2.2.2))
theorem imp_alls (hc : callable Tryd.prog f = true) (hfr : Fr S V f caps h0) : ∀ l : List Tm, Tm.tys l → Tm.fits l → ∀ x ∈ l, ImpOk S V f caps h0 x
  | [], _, _, x, hx => by cases hx
  | t :: r, ht, hft, x, hx => by
    rw [Tm.tys] at ht
    rw [Tm.fits] at hft
    rcases List.mem_cons.1 hx with e | hx
    · rw [e]; exact imp_all hc hfr t ht.1 hft.1
    · exact imp_alls hc hfr r ht.2 hft.2 x hx
end
end
def cap (n : Nat) : Nat := min n 1001
theorem cap_le (n : Nat) : cap n ≤ 1001 := by unfold cap; omega
theorem cap_add (a b : Nat) : cap (cap a + cap b) = cap (a + b) := by unfold cap; omega
theorem cap_big {n : Nat} : cap n ≤ 1000 ↔ n ≤ 1000 := by unfold cap; omega
section
variable {S B Z : Nat} {b w : Int} {fl : Bool} {sh : List Sh} {rt r : Nat → Nat} {vis : Nat → Bool} {T : Nat → Tm}
def SzV (T : Nat → Tm) (Q : NMap) : Prop := ∀ (k n : Nat), mg Q k = some n → n = cap (tsz (T k))
def SzOk (S B Z : Nat) (b w : Int) (fl : Bool) (sh : List Sh) (rt r : Nat → Nat) (vis : Nat → Bool) (T : Nat → Tm) (i : Nat) : Prop := ∀ (h : AHeap) (ns : List Nd) (Q : NMap), SP h S ns b fl w → NR h S B sh rt r vis w ns → MN h Z Q → SzV T Q →
  ∃ H ns' Q', doCall md (aval Tryd.prog md fg) 49 [.ptr S 0, .int (i : Nat), .mp Z] h = some (.int (cap (tsz (T i)) : Nat), H) ∧ SP H S ns' b fl w ∧ NR H S B sh rt r vis w ns' ∧ MN H Z Q' ∧ SzV T Q' ∧ Ku S Z Z h H ∧ H.length = h.length
def sumT (T : Nat → Tm) (l : List Nat) : Nat := (l.map fun k => tsz (T k)).sum
theorem tszs_map (T : Nat → Tm) : ∀ l : List Nat, tszs (l.map T) = sumT T l
  | [] => by simp [tszs, sumT]
  | a :: r => by rw [List.map_cons, tszs, tszs_map T r]; simp [sumT]
set_option maxHeartbeats 8000000 in
theorem size_loop (hZS : Z ≠ S) (hBZ : B ≤ Z) {kv : AV} {kl : List Nat} (hkl : kl.length ≤ 100000) {i : Nat} : ∀ (rem done : List Nat), (∀ k ∈ rem, SzOk S B Z b w fl sh rt r vis T k) → kl = done ++ rem → ∀ (h : AHeap) (ns : List Nd) (Q : NMap) (n : Nat), SP h S ns b fl w → NR h S B sh rt r vis w ns → MN h Z Q → SzV T Q → KB h S B kv (ints kl) → n ≤ 1001 →
    ∃ H ns' Q' n', lrun Tryd.prog md fg (fg 49) (loopOf Tryd.f49 0) (fg 49 1) (((.ptr S 0) :: (.int i) :: (.mp Z) :: U::U::U::U::U::U::(.int (n : Nat)) :: U::U::U::U::U::U::U::U::U::U::U::U::U::U::U::U::U::U::U::U::(kv) :: (.int kl.length) :: (.int done.length) :: U::U::U::U::U::U::U::U::U::U::U::U::U::U::U::[] : List AV)) h = some (.exit 0, ((.ptr S 0) :: (.int i) :: (.mp Z) :: U::U::U::U::U::U::(.int (n' : Nat)) :: U::U::U::U::U::U::U::U::U::U::U::U::U::U::U::U::U::U::U::U::(kv) :: (.int kl.length) :: (.int kl.length) :: U::U::U::U::U::U::U::U::U::U::U::U::U::U::U::[] : List AV), H) ∧ SP H S ns' b fl w ∧ NR H S B sh rt r vis w ns' ∧ MN H Z Q' ∧ SzV T Q' ∧ Ku S Z Z h H ∧ H.length = h.length ∧ n' = cap (n + sumT T rem)
  | [], done, hih, he, h, ns, Q, n, hs, hn, hm, hq, hkb, hn1 => by
    rw [List.append_nil] at he
    subst he
    refine ⟨h, ns, Q, n, ?_, hs, hn, hm, hq, Ku.refl _ _ _ _, rfl, by simp [sumT, cap]; omega⟩
    rw [lrun_atC loop49_0]
    simp (implicitDefEqProofs := false) (disch := omega) only [go_sem, seval, rgn Tryd.f49 7 rfl]
  | k :: rem, done, hih, he, h, ns, Q, n, hs, hn, hm, hq, hkb, hn1 => by
    obtain ⟨H1, ns1, Q1, c1, c2, c3, c4, c5, c6, c7⟩ := hih k (List.mem_cons_self ..) h ns Q hs hn hm hq
    have hcap := cap_le (tsz (T k))
    obtain ⟨H, ns', Q', n', d1, d2, d3, d4, d5, d6, d7, d8⟩ := size_loop hZS hBZ hkl (i := i) rem (done ++ [k]) (fun x hx => hih x (List.mem_cons_of_mem _ hx)) (by rw [he]; simp) H1 ns1 Q1 (cap (n + tsz (T k))) c2 c3 c4 c5 (hkb.ku hBZ hBZ c6) (cap_le _)
    refine ⟨H, ns', Q', n', ?_, d2, d3, d4, d5, c6.trans d6, by omega, ?_⟩
    · have hlen : (done ++ [k]).length = done.length + 1 := by simp
      rw [hlen] at d1
      rw [← d1]
      rcases hkb with ⟨_, hkb2⟩ | ⟨K, g, rfl, hK, hKS, hKB⟩
      · have := congrArg List.length hkb2; rw [he] at this; simp [ints] at this
      have hll : kl.length = done.length + (rem.length + 1) := by rw [he]; simp
      have hlt : (done.length : Int) < (kl.length : Int) := by omega
      have htn : ((done.length : Int)).toNat = done.length := by omega
      have hat : ((ints kl).map AV.int)[done.length]? = some (.int (k : Int)) := by rw [he]; simp [ints]
      have hmin : (if (1001 : Int) < (n : Int) + (cap (tsz (T k)) : Nat) then (1001 : Int) else (n : Int) + (cap (tsz (T k)) : Nat)) = ((cap (n + tsz (T k)) : Nat) : Int) := by
        unfold cap at hcap ⊢
        split <;> omega
      rw [lrun_atC loop49_0]
      simp (implicitDefEqProofs := false) (disch := omega) only [go_sem, seval, rgn Tryd.f49 7 rfl, rgn Tryd.f49 8 rfl, rgn Tryd.f49 9 rfl, rgn Tryd.f49 10 rfl, hlt, htn, hK, hat, c1, hmin, ints_len]
      all_goals (congr 1 <;> simp only [List.cons.injEq, AV.val.injEq, Value.int.injEq, Value.bool.injEq, true_and, and_true] <;> omega)
    · rw [d8]
      simp only [sumT, List.map_cons, List.sum_cons]
      have h1 := cap_add (n + tsz (T k)) ((rem.map fun k => tsz (T k)).sum)
      have h2 := cap_add (cap (n + tsz (T k))) ((rem.map fun k => tsz (T k)).sum)
      have h3 : cap (cap (n + tsz (T k))) = cap (n + tsz (T k)) := by unfold cap; omega
      rw [h3] at h2
      rw [← h2, h1, Nat.add_assoc]
theorem sp_mapN {h : AHeap} {S V : Nat} {ns : List Nd} {b : Int} {f : Bool} {w : Int} (hs : SP h S ns b f w) (hV : V ≠ S) {P : NMap} (hm : MN h V P) (o : AObj) : SP (h.set V o) S ns b f w := by
  obtain ⟨nv, z1, z2⟩ := hs
  refine ⟨nv, by rw [hget_set_ne hV]; exact z1, ?_⟩
  rcases z2 with z2 | ⟨A', g', z2, z3⟩
  · exact .inl z2
  · exact .inr ⟨A', g', z2, by rw [hget_set_ne (by rintro rfl; unfold MN at hm; rw [hm] at z3; simp at z3)]; exact z3⟩
set_option maxHeartbeats 8000000 in
theorem size_step (ok : Ok sh rt r) (hT : Mod sh rt T) (hv1 : ∀ (v : Nat) (s : Sh), sh[v]? = some s → s.kind = 1 → rt v = v → tsz (T v) = 1) (hkc : kc sh ≤ 100000) (hZS : Z ≠ S) (hBZ : B ≤ Z) {i : Nat} (hi : i < sh.length) (hih : ∀ (s : Sh), sh[rt i]? = some s → ∀ k ∈ s.kids, SzOk S B Z b w fl sh rt r vis T k) : SzOk S B Z b w fl sh rt r vis T i := by
  intro h ns Q hs hn hm hq
  obtain ⟨H1, ns1, c1, c2, c3, c4, c5⟩ := find_c hi hs hn
  have hm1 : MN H1 Z Q := c4.2 Z _ hm (by simp) hZS (by simp)
  have lk := mn_look hm1 (rt i)
  have hTi := hT.1 i hi
  cases hmg : mg Q (rt i) with
  | some n =>
    rw [hmg] at lk
    simp only [Option.getD_some, Option.isSome_some] at lk
    have hn' := hq _ _ hmg
    rw [hn', ← hTi] at lk
    refine ⟨H1, ns1, Q, doCall_same md49 ?_ c5, c2, c3, hm1, hq, c4.ku Z Z, c5⟩
    rw [aval_of Tryd.func49 body49 Tryd.results49 Tryd.ntmps49 ok49]
    simp (implicitDefEqProofs := false) (disch := omega) only [go_sem, seval, rgn Tryd.f49 0 rfl, rgn Tryd.f49 1 rfl, rgn Tryd.f49 2 rfl, rgn Tryd.f49 3 rfl, rgn Tryd.f49 4 rfl, c1, aop_lookup, lk]
  | none =>
    rw [hmg] at lk
    simp only [Option.getD_none, Option.isSome_none] at lk
    obtain ⟨n, s, hx, hsx, q⟩ := c3.at (ok.lt i hi)
    have hkl : s.kids.length ≤ 100000 := by
      have : s.kids.length ≤ kc sh := by
        have : ∀ (l : List Sh) (j : Nat) (s : Sh), l[j]? = some s → s.kids.length ≤ kc l := fun l => by
          induction l with
          | nil => intro j s h; simp at h
          | cons a r ih =>
            intro j s h
            have e : kc (a :: r) = a.kids.length + kc r := by simp [kc]
            rw [e]
            cases j with
            | zero => simp at h; subst h; omega
            | succ j => have := ih j s (by simpa using h); omega
        exact this sh _ s hsx
      omega
    have hlen := kb_len q.kids
    rw [ints_len] at hlen
    obtain ⟨H2, ns2, Q2, n', d1, d2, d3, d4, d5, d6, d7, d8⟩ := size_loop (b := b) (w := w) (fl := fl) (sh := sh) (rt := rt) (r := r) (vis := vis) (T := T) hZS hBZ hkl (i := rt i) s.kids [] (hih s hsx) rfl H1 ns1 Q 1 c2 c3 hm1 hq q.kids (by omega)
    have hsz : tsz (T (rt i)) = 1 + sumT T s.kids := by
      by_cases hk : s.kind = 1
      · rw [hv1 _ s hsx hk (ok.idem i hi), ok.var _ s hsx hk]; rfl
      · rw [hT.2 _ s hsx hk, tsz, tszs_map]
    rw [← hsz, ← hTi] at d8
    rw [d8] at d1
    have hput := mn_put d4 (rt i) (cap (tsz (T i)))
    have hZl := hlt_of d4 (by simp)
    refine ⟨H2.set Z (.map (encM nV nV (mset Q2 (rt i) (cap (tsz (T i)))).1) (mset Q2 (rt i) (cap (tsz (T i)))).2), ns2, mset Q2 (rt i) (cap (tsz (T i))), doCall_same md49 ?_ (by rw [List.length_set]; omega), sp_mapN d2 hZS d4 _, d3.ku hBZ hBZ ⟨by rw [List.length_set]; exact Nat.le_refl _, fun j o e z1 z2 z3 z4 z5 => by rw [hget_set_ne (fun q => z3 q.symm)]; exact e⟩, hget_set_eq hZl, fun k n hk => ?_, ?_, by rw [List.length_set]; omega⟩
    · obtain ⟨A, g, h1, h2⟩ := sp_arr c2 (ne_of_at hx)
      have hlt := lt_of_at hx
      have ht : (((rt i : Nat) : Int)).toNat = rt i := by omega
      obtain ⟨k, p, m, ks, l, t, mk⟩ := n
      dsimp only at hlen d1
      simp only [List.length_nil, Int.natCast_zero, show ((1 : Nat) : Int) = 1 from rfl] at d1
      rw [aval_of Tryd.func49 body49 Tryd.results49 Tryd.ntmps49 ok49]
      simp (implicitDefEqProofs := false) (disch := omega) only [go_sem, seval, rgn Tryd.f49 0 rfl, rgn Tryd.f49 1 rfl, rgn Tryd.f49 2 rfl, rgn Tryd.f49 3 rfl, rgn Tryd.f49 5 rfl, rgn Tryd.f49 6 rfl, rgn Tryd.f49 11 rfl, rgn Tryd.f49 12 rfl, c1, aop_lookup, lk, h1, h2, List.getElem?_map, ht, hx, Option.map_some, ndV_mk, hlen, d1, hput, aop_mapUpdate]
    · rw [mg_mset] at hk
      split at hk
      · rename_i e; cases hk; rw [e, hTi]
      · exact d5 k n hk
    · have k := (c4.ku Z Z).trans d6
      exact ⟨by rw [List.length_set]; exact k.1, fun j o e z1 z2 z3 z4 z5 => by rw [hget_set_ne (fun q => z3 q.symm)]; exact k.2 j o e z1 z2 z3 z4 z5⟩
theorem size_all (ok : Ok sh rt r) (hT : Mod sh rt T) (hv1 : ∀ (v : Nat) (s : Sh), sh[v]? = some s → s.kind = 1 → rt v = v → tsz (T v) = 1) (hkc : kc sh ≤ 100000) (hZS : Z ≠ S) (hBZ : B ≤ Z) : ∀ (N i : Nat), r i < N → i < sh.length → SzOk S B Z b w fl sh rt r vis T i
  | 0, i, h, _ => by omega
  | N + 1, i, h, hi => size_step ok hT hv1 hkc hZS hBZ hi fun s hs k hk => by
    obtain ⟨a, b⟩ := ok.kid _ s k hs hk
    have := ok.le i hi
    exact size_all ok hT hv1 hkc hZS hBZ N k (by omega) a
end
theorem fin_sp {h H : AHeap} {r : AV} {S : Nat} {ns0 ns : List Nd} {b0 b : Int} {f0 f1 : Bool} {w0 w : Int} (h0 : SP h S ns0 b0 f0 w0) (h1 : SP H S ns b f1 w) (hl : h.length ≤ H.length) :
    ∃ H', (H' = H.take h.length ∧ below h.length r = true ∧ GcOk h.length h H ∨ H' = H ∧ ¬ (below h.length r = true ∧ GcOk h.length h H)) ∧ SP H' S ns b f1 w ∧ h.length ≤ H'.length ∧ ∀ j, j < h.length → hget H' j = hget H j := by
  obtain ⟨nv0, a1, a2⟩ := h0
  have hS := hlt_of a1 (by simp)
  by_cases hg : below h.length r = true ∧ GcOk h.length h H
  · obtain ⟨nv, c1, c2⟩ := h1
    refine ⟨_, .inl ⟨rfl, hg⟩, ⟨nv, by rw [hget_take hS]; exact c1, ?_⟩, by rw [List.length_take]; omega, fun j hj => hget_take hj⟩
    rcases c2 with c2 | ⟨A, g, rfl, c2⟩
    · exact .inl c2
    · refine .inr ⟨A, g, rfl, ?_⟩
      have hA : A < h.length := by
        rcases hg.2 S hS with e1 | e1
        · have := hget_of_at e1
          rw [c1, a1] at this
          simp only [AObj.vars.injEq, List.cons.injEq] at this
          rcases a2 with ⟨_, a2⟩ | ⟨A', g', a2, a3⟩
          · rw [a2] at this; cases this.1
          · rw [a2] at this
            have h5 := this.1
            simp only [AV.arr.injEq] at h5
            rw [h5.1]; exact hlt_of a3 (by simp)
        · rw [c1] at e1
          simp only [belowO, belowL, below, Bool.and_eq_true, decide_eq_true_eq] at e1
          exact e1.1
      rw [hget_take hA]; exact c2
  · exact ⟨_, .inr ⟨rfl, hg⟩, h1, hl, fun _ _ => rfl⟩
theorem doCall_rate5 {f : FuncId} {vs : List AV} {h H : AHeap} {r r' : AV} {ids : List Nat} {S : Nat} {ns0 ns : List Nd} {b0 b : Int} {f0 f1 : Bool} {w0 w : Int} (hm : md f = 3) (e : aval Tryd.prog md fg f vs h = some (r, H)) (h0 : SP h S ns0 b0 f0 w0) (h1 : SP H S ns b f1 w) (hl : h.length ≤ H.length) (hx : exp1 H expDepth r = some (r', ids)) (hids : ids = [] ∨ ∃ K es g, ids = [K] ∧ h.length ≤ K ∧ hget H K = .arr 5 es g) :
    ∃ H', doCall md (aval Tryd.prog md fg) f vs h = some (r', H') ∧ SP H' S ns b f1 w ∧ h.length ≤ H'.length ∧ ∀ j, j < h.length → hget H' j = hget H j := by
  have hS : S < h.length := by obtain ⟨_, q, _⟩ := h0; exact hlt_of q (by simp)
  have key : canFrz H ids = true ∧ SP (frzAll H ids) S ns b f1 w ∧ h.length ≤ (frzAll H ids).length ∧ ∀ j, j < h.length → hget (frzAll H ids) j = hget H j := by
    rcases hids with rfl | ⟨K, es, g, rfl, hK, hg⟩
    · exact ⟨rfl, h1, hl, fun _ _ => rfl⟩
    · have e1 : frzAll H [K] = H.set K (.frz 5 es g) := by simp only [frzAll, frz1, hg]
      refine ⟨by simp [canFrz, hg], ?_, by rw [e1, List.length_set]; exact hl, fun j hj => by rw [e1, hget_set_ne (by omega)]⟩
      rw [e1]
      obtain ⟨nv, z1, z2⟩ := h1
      refine ⟨nv, by rw [hget_set_ne (by omega)]; exact z1, ?_⟩
      rcases z2 with z2 | ⟨A', g', z2, z3⟩
      · exact .inl z2
      · exact .inr ⟨A', g', z2, by rw [hget_set_ne (by rintro rfl; rw [hg] at z3; simp at z3)]; exact z3⟩
  obtain ⟨k1, k2, k3, k4⟩ := key
  obtain ⟨H', c1, c2, c3, c4⟩ := fin_sp (r := r') h0 k2 k3
  refine ⟨H', ?_, c2, c3, fun j hj => by rw [c4 j hj, k4 j hj]⟩
  rw [doCall_0 (by omega)]
  unfold doCall0
  rw [if_neg (by omega)]
  unfold rated
  rw [if_pos hm, e]
  dsimp only
  rw [hx]
  dsimp only
  rw [if_pos k1]
  dsimp only
  rcases c1 with ⟨c1, c5⟩ | ⟨c1, c5⟩
  · rw [if_pos c5, c1]
  · rw [if_neg c5, c1]
theorem callD_64 {env : Env} {d d2 : Option Tmp} {ty : TypeId} {pos : String} {aft : Array Edge} {g : Option (Nat × Bool)} (cs : Array Operand) (ts : Array TypeId) (h0 h' : AHeap) (v : AV) (k : Env → AHeap → Option (Env × AHeap)) : callD Tryd.prog md ⟨d, .call ⟨.value (.func 64), cs, ts⟩, ty, pos, aft, g⟩ h0 (some (v, h')) d2 k env = k (aput env d2 v) h' := by
  have : effOp Tryd.prog md ⟨d, .call ⟨.value (.func 64), cs, ts⟩, ty, pos, aft, g⟩ = true := rfl
  simp [callD, this]
def fstN (P : SMap) (rt : Nat → Nat) (id : Nat) : List (List UInt8) → List UInt8
  | [] => []
  | n :: r => if rt (vmap P n) = id then n else fstN P rt id r
section
variable {S B V Zs : Nat} {b w : Int} {fl : Bool} {sh : List Sh} {rt r : Nat → Nat} {vis : Nat → Bool} {P : SMap} {nb : Bool} {N : List (List UInt8)}
set_option maxHeartbeats 8000000 in
theorem first_loop (hVS : V ≠ S) (hZS : Zs ≠ S) (hN : N.length ≤ 100000) {id : Nat} : ∀ (rem done : List (List UInt8)), N = done ++ rem → (∀ n ∈ rem, vmap P n < sh.length) → ∀ (h : AHeap) (ns : List Nd), SP h S ns b fl w → NR h S B sh rt r vis w ns → MS h V P → SO h Zs S V (.slc nb (N.map sV)) →
    ∃ H ns' res a4 a12 c, lrun Tryd.prog md fg (fg 56) (loopOf Tryd.f56 0) (fg 56 1) (((.ptr Zs 0) :: (.int id) :: .unk :: .unk :: (.val (.string ⟨#[]⟩)) :: U::U::U::U::U::(.slc nb (N.map sV)) :: (.int N.length) :: (.int done.length) :: U::U::U::U::U::U::U::U::U::U::U::U::U::U::U::U::U::U::[] : List AV)) h = some (c, ((.ptr Zs 0) :: (.int id) :: .unk :: .unk :: (a4) :: U::U::U::U::U::(.slc nb (N.map sV)) :: (.int N.length) :: (a12) :: U::U::U::U::U::U::U::U::U::U::U::U::U::U::U::U::U::U::[] : List AV), H) ∧ (c = .ret ∧ a4 = .str (txt (fstN P rt id rem)) ∨ c = .exit 0 ∧ res = true ∧ fstN P rt id rem = []) ∧ SP H S ns' b fl w ∧ NR H S B sh rt r vis w ns' ∧ Kf S h H ∧ H.length = h.length
  | [], done, he, hv, h, ns, hs, hn, hm, hz => by
    rw [List.append_nil] at he
    rw [← he]
    refine ⟨h, ns, true, .val (.string ⟨#[]⟩), .int N.length, .exit 0, ?_, .inr ⟨rfl, rfl, rfl⟩, hs, hn, Kf.refl S h, rfl⟩
    rw [lrun_atC loop56_0]
    simp (implicitDefEqProofs := false) (disch := omega) only [go_sem, seval, rgn Tryd.f56 2 rfl]
  | n :: rem, done, he, hv, h, ns, hs, hn, hm, hz => by
    obtain ⟨H1, ns1, c1, c2, c3, c4, c5⟩ := find_c (hv n (List.mem_cons_self ..)) hs hn
    have lk := (ms_look hm n).2
    change alookup _ _ _ _ _ _ = some (.int (vmap P n : Nat)) at lk
    have hll : N.length = done.length + (rem.length + 1) := by rw [he]; simp
    have hlt : (done.length : Int) < (N.length : Int) := by omega
    have htn : ((done.length : Int)).toNat = done.length := by omega
    have hat : (N.map sV)[done.length]? = some (.str (txt n)) := by rw [he]; simp [sV]
    unfold SO at hz
    have hz1 : hget H1 Zs = .vars [.ptr S 0, .mp V, .slc nb (N.map sV)] := c4.2 Zs _ hz (by simp) hZS (by simp)
    have lk1 : alookup Tryd.prog 68 H1 (.mp V) (.str (txt n)) false = some (.int (vmap P n : Nat)) := (ms_look (c4.2 V _ hm (by simp) hVS (by simp) : MS H1 V P) n).2
    by_cases hid : rt (vmap P n) = id
    · refine ⟨H1, ns1, true, .str (txt n), .int done.length, .ret, ?_, .inl ⟨rfl, by unfold fstN; rw [if_pos hid]⟩, c2, c3, c4, c5⟩
      have hid' : ((rt (vmap P n) : Nat) : Int) = (id : Int) := by rw [hid]
      rw [lrun_atC loop56_0]
      simp (implicitDefEqProofs := false) (disch := omega) only [go_sem, seval, rgn Tryd.f56 2 rfl, rgn Tryd.f56 3 rfl, rgn Tryd.f56 4 rfl, rgn Tryd.f56 5 rfl, hlt, htn, hat, hz, hz1, aop_lookup, lk, lk1, c1, hid', callD_64]
    · obtain ⟨H, ns', res, a4, a12, c, d1, d2, d3, d4, d5, d6⟩ := first_loop hVS hZS hN (id := id) rem (done ++ [n]) (by rw [he]; simp) (fun x hx => hv x (List.mem_cons_of_mem _ hx)) H1 ns1 c2 c3 (c4.2 V _ hm (by simp) hVS (by simp)) hz1
      have hlen : (done ++ [n]).length = done.length + 1 := by simp
      rw [hlen] at d1
      have hf : fstN P rt id (n :: rem) = fstN P rt id rem := if_neg hid
      refine ⟨H, ns', res, a4, a12, c, ?_, by rw [hf]; exact d2, d3, d4, c4.trans d5, by omega⟩
      rw [← d1]
      have hid' : ¬ ((rt (vmap P n) : Nat) : Int) = (id : Int) := by omega
      rw [lrun_atC loop56_0]
      simp (implicitDefEqProofs := false) (disch := omega) only [go_sem, seval, rgn Tryd.f56 2 rfl, rgn Tryd.f56 3 rfl, rgn Tryd.f56 4 rfl, rgn Tryd.f56 6 rfl, hlt, htn, hat, hz, hz1, aop_lookup, lk, lk1, c1, hid', callD_64]
      all_goals (congr 1 <;> simp only [List.cons.injEq, AV.val.injEq, Value.int.injEq, Value.bool.injEq, true_and, and_true] <;> omega)
theorem first_c (hVS : V ≠ S) (hZS : Zs ≠ S) (hN : N.length ≤ 100000) {id : Nat} (hv : ∀ n ∈ N, vmap P n < sh.length) {h : AHeap} {ns : List Nd} (hs : SP h S ns b fl w) (hn : NR h S B sh rt r vis w ns) (hm : MS h V P) (hz : SO h Zs S V (.slc nb (N.map sV))) :
    ∃ H ns', doCall md (aval Tryd.prog md fg) 56 [.ptr Zs 0, .int id] h = some (.str (txt (fstN P rt id N)), H) ∧ SP H S ns' b fl w ∧ NR H S B sh rt r vis w ns' ∧ Kf S h H ∧ H.length = h.length := by
  obtain ⟨H, ns', res, a4, a12, c, d1, d2, d3, d4, d5, d6⟩ := first_loop (id := id) hVS hZS hN N [] rfl hv h ns hs hn hm hz
  simp only [List.length_nil, Int.natCast_zero] at d1
  have hz' := hz
  unfold SO at hz'
  refine ⟨H, ns', doCall_same md56 ?_ d6, d3, d4, d5, d6⟩
  rcases d2 with ⟨rfl, rfl⟩ | ⟨rfl, rfl, e⟩
  · rw [aval_of Tryd.func56 body56 Tryd.results56 Tryd.ntmps56 ok56]
    simp (implicitDefEqProofs := false) (disch := omega) only [go_sem, seval, rgn Tryd.f56 0 rfl, rgn Tryd.f56 1 rfl, hz', List.length_map, d1]
  · rw [e, show AV.str (txt []) = .val (.string ⟨#[]⟩) from rfl]
    rw [aval_of Tryd.func56 body56 Tryd.results56 Tryd.ntmps56 ok56]
    simp (implicitDefEqProofs := false) (disch := omega) only [go_sem, seval, rgn Tryd.f56 0 rfl, rgn Tryd.f56 1 rfl, rgn Tryd.f56 7 rfl, hz', List.length_map, d1]
end
end Go.Proofs.YtncjbccjpneoiaaDoor
