/- Parts of the proof, each with its own heading: The document's Subst (turned from chapter 14). Import: the walk. Import: a type of others. size: how many terms a type has. A name for a variable; a call whose result is told as a value. told: a type as a term. Vars of types; a list of variables. varTerms; Vars of a list of one's own. -/
import Derived.Test.YtncjbccjpneoiaaDoorPart12
set_option linter.unusedSimpArgs false
set_option linter.unusedVariables false
namespace Go.Proofs.YtncjbccjpneoiaaDoor
open Go Go.Ab Go.Proofs
set_option maxRecDepth 100000
set_option linter.unusedSimpArgs false
set_option linter.unusedVariables false
def KeepO (h h' : AHeap) : Prop := h.length ≤ h'.length ∧ ∀ j o, hget h j = o → (∀ a b c, o ≠ .arr a b c) → o ≠ .dead → hget h' j = o
theorem KeepO.refl (h : AHeap) : KeepO h h := ⟨Nat.le_refl _, fun _ _ e _ _ => e⟩
theorem KeepO.trans {a b c : AHeap} (x : KeepO a b) (y : KeepO b c) : KeepO a c := ⟨Nat.le_trans x.1 y.1, fun j o e h1 h2 => y.2 j o (x.2 j o e h1 h2) h1 h2⟩
theorem keep_app (h l : AHeap) : KeepO h (h ++ l) := ⟨by simp, fun j o e _ hd => by rw [hget_app l (hlt_of e hd)]; exact e⟩
mutual
def subT (L : List Vl) : Tm → Tm | .mk k p m n ks => if k = 1 then (match fv m L 0 with | some (_, t) => t | none => .mk k p m n (subL L ks)) else .mk k p m n (subL L ks)
def subL (L : List Vl) : List Tm → List Tm | [] => [] | t :: r => subT L t :: subL L r
end
abbrev nmV (L : List Vl) : AV := .slc false ((L.map Prod.fst).map sV)
abbrev byV (L : List Vl) : AV := .slc false ((L.map Prod.snd).map tmV)
theorem s_loop1 (p m : List UInt8) (n : Int) (ks : List Tm) (L : List Vl) (hL : L.length ≤ 100000) : ∀ (r : List Vl) (i : Nat), L.drop i = r → i ≤ L.length → ∃ i' : Int,
    lrun Tryd.prog md fg (fg 17) (loopOf Tryd.f17 0) (fg 17 1) ((.unk :: (nmV L) :: (byV L) :: (.ptr 0 0) :: .unk :: .unk :: (.ptr 1 0) :: (.int i) :: .unk :: .unk :: .unk :: .unk :: .unk :: .unk :: .unk :: .unk :: .unk :: .unk :: .unk :: .unk :: .unk :: .unk :: .unk :: .unk :: .unk :: .unk :: .unk :: .unk :: .unk :: .unk :: .unk :: .unk :: .unk :: .unk :: .unk :: .unk :: .unk :: .unk :: .unk :: .unk :: .unk :: .unk :: .unk :: .unk :: .unk :: .unk :: .unk :: .unk :: .unk :: .unk :: .unk :: .unk :: .unk :: .unk :: .unk :: .unk :: .unk :: .unk :: .unk :: .unk :: .unk :: .unk :: .unk :: .unk :: .unk :: .unk :: [] : List AV)) [.vars [.int 1, .str (txt p), .str (txt m), .int n, .slc false (ks.map tmV)], .vars [.int 0, .str ⟨#[]⟩, .str ⟨#[]⟩, .int 0, .slc true []]] = some (match fv m r i with
      | some (_, t) => (.ret, (.unk :: (nmV L) :: (byV L) :: (.ptr 0 0) :: .unk :: .unk :: (.ptr 1 0) :: (.int i') :: .unk :: .unk :: .unk :: .unk :: .unk :: .unk :: .unk :: .unk :: .unk :: .unk :: .unk :: .unk :: .unk :: .unk :: .unk :: .unk :: .unk :: .unk :: .unk :: .unk :: .unk :: .unk :: .unk :: .unk :: .unk :: .unk :: .unk :: .unk :: .unk :: .unk :: .unk :: .unk :: .unk :: .unk :: .unk :: .unk :: .unk :: .unk :: .unk :: .unk :: .unk :: .unk :: .unk :: .unk :: .unk :: .unk :: .unk :: .unk :: .unk :: .unk :: .unk :: .unk :: .unk :: .unk :: .unk :: .unk :: .unk :: .unk :: [] : List AV), [.vars [.int 1, .str (txt p), .str (txt m), .int n, .slc false (ks.map tmV)], .vars (tmV t).cells])
      | none => (.exit 0, (.unk :: (nmV L) :: (byV L) :: (.ptr 0 0) :: .unk :: .unk :: (.ptr 1 0) :: (.int i') :: .unk :: .unk :: .unk :: .unk :: .unk :: .unk :: .unk :: .unk :: .unk :: .unk :: .unk :: .unk :: .unk :: .unk :: .unk :: .unk :: .unk :: .unk :: .unk :: .unk :: .unk :: .unk :: .unk :: .unk :: .unk :: .unk :: .unk :: .unk :: .unk :: .unk :: .unk :: .unk :: .unk :: .unk :: .unk :: .unk :: .unk :: .unk :: .unk :: .unk :: .unk :: .unk :: .unk :: .unk :: .unk :: .unk :: .unk :: .unk :: .unk :: .unk :: .unk :: .unk :: .unk :: .unk :: .unk :: .unk :: .unk :: .unk :: [] : List AV), [.vars [.int 1, .str (txt p), .str (txt m), .int n, .slc false (ks.map tmV)], .vars [.int 0, .str ⟨#[]⟩, .str ⟨#[]⟩, .int 0, .slc true []]]))
  | [], i, hdr, hi => by
    have : i = L.length := by have := congrArg List.length hdr; simp at this; omega
    subst this
    refine ⟨(L.length : Int), ?_⟩
    simp only [fv]
    rw [lrun_atC loop17_0]
    simp (implicitDefEqProofs := false) (disch := omega) only [go_sem, seval, rgn Tryd.f17 2 rfl, List.length_map]
  | ⟨s, k2, p2, m2, n2, l2⟩ :: r, i, hdr, hi => by
    have hx : L[i]? = some (s, ⟨k2, p2, m2, n2, l2⟩) := by have := congrArg (·[0]?) hdr; simpa using this
    have hlt : i < L.length := (List.getElem?_eq_some_iff.1 hx).1
    have hd' : L.drop (i + 1) = r := by rw [← List.tail_drop, hdr]; rfl
    have ht : ((i : Int)).toNat = i := by omega
    have hs := str_eq s m
    by_cases hk : s = m
    · refine ⟨(i : Int), ?_⟩
      rw [fv, if_pos hk]
      subst hk
      dsimp only
      rw [tmV_mk]
      rw [lrun_atC loop17_0]
      simp (implicitDefEqProofs := false) (disch := omega) only [go_sem, seval, rgn Tryd.f17 2 rfl, rgn Tryd.f17 4 rfl, rgn Tryd.f17 5 rfl, rgn Tryd.f17 6 rfl, ↓tail_nil, ↓subs_nil_all, ↓List.forall_mem_cons, ↓all_nil, List.length_map, List.getElem?_map, ht, hx, Option.map_some, tmV_mk]
    · obtain ⟨i', e⟩ := s_loop1 p m n ks L hL r (i + 1) hd' (by omega)
      refine ⟨i', ?_⟩
      rw [fv, if_neg (show ¬ (s, (⟨k2, p2, m2, n2, l2⟩ : Tm)).1 = m from hk), ← e]
      rw [lrun_atC loop17_0]
      simp (implicitDefEqProofs := false) (disch := omega) only [go_sem, seval, rgn Tryd.f17 2 rfl, rgn Tryd.f17 4 rfl, rgn Tryd.f17 3 rfl, ↓tail_nil, ↓subs_nil_all, ↓List.forall_mem_cons, ↓all_nil, List.length_map, List.getElem?_map, ht, hx, Option.map_some, hs, hk]
      all_goals (congr 1 <;> simp only [List.cons.injEq, AV.val.injEq, Value.int.injEq, Value.bool.injEq, true_and, and_true] <;> omega)
def TL (h : AHeap) (v : AV) (L : List Tm) : Prop := (v = .slc true [] ∧ L = []) ∨ ∃ k g, v = .arr k 0 L.length g 5 ∧ hget h k = .arr 5 (L.map tmV) g
theorem tl_add {h : AHeap} {v : AV} {L : List Tm} (hv : TL h v L) (x : Tm) (hn : L.length ≤ 100000) : ∃ v' h', (∀ z, appT (some (5, 72, z)) h v (some [tmV x]) = some (v', h')) ∧ TL h' v' (L ++ [x]) ∧ KeepO h h' ∧ fits 1 v' = true ∧ v'.cells = [v'] := by
  have hx : headOk 5 [tmV x] = true := by obtain ⟨k, p, m, n, ks⟩ := x; rw [tmV_mk]; rfl
  obtain ⟨rfl, rfl⟩ | ⟨k, g, rfl, ho⟩ := hv
  · exact ⟨.arr h.length 0 (0 + 1) 0 5, h ++ [.arr 5 ([] ++ [tmV x]) 0], fun z => appT_slc _ _ _ _ _ hx rfl (by simp) (by simp), .inr ⟨h.length, 0, by simp, hget_last⟩, keep_app _ _, rfl, rfl⟩
  · have hk := hlt_of ho (by simp)
    refine ⟨.arr k 0 (L.length + 1) (g + 1) 5, h.set k (.arr 5 (L.map tmV ++ [tmV x]) (g + 1)), fun z => appT_arr _ _ _ _ _ _ _ _ ho (by simp) hx (by simp; omega), .inr ⟨k, g + 1, by simp, by rw [hget_set_eq hk]; simp⟩, ⟨by simp, fun j o e h1 h2 => ?_⟩, rfl, rfl⟩
    have hjk : ¬ k = j := by rintro rfl; rw [ho] at e; exact h1 _ _ _ e.symm
    rw [hget_set_ne hjk]; exact e
theorem tl_set {h : AHeap} {v : AV} {L : List Tm} (hv : TL h v L) {j : Nat} {cs : List AV} {o' : AObj} (hj : hget h j = .vars cs) : TL (h.set j o') v L := by
  obtain h1 | ⟨k, g, e, ho⟩ := hv
  · exact .inl h1
  · refine .inr ⟨k, g, e, ?_⟩
    have hjk : ¬ j = k := by rintro rfl; rw [hj] at ho; cases ho
    rw [hget_set_ne hjk]; exact ho
def ST (L : List Vl) (t : Tm) : Prop := pcall Tryd.prog md fg 17 [tmV t, nmV L, byV L] = some (tmV (subT L t))
theorem solid_byl : ∀ l : List Tm, solidL (l.map tmV) = true := fun l => by rw [← tmsV_eq]; exact solid_tms l
set_option maxHeartbeats 4000000 in
theorem s_loop2 (k : Int) (p m : List UInt8) (n : Int) (ks : List Tm) (hks : ks.length ≤ 100000) (L : List Vl) (hS : ∀ t ∈ ks, ST L t) (Z : AObj) : ∀ (r : List Tm) (i : Nat) (h : AHeap) (v : AV), ks.drop i = r → i ≤ ks.length → hget h 0 = .vars [.int k, .str (txt p), .str (txt m), .int n, .slc false (ks.map tmV)] → hget h 1 = .vars [.int 0, .str ⟨#[]⟩, .str ⟨#[]⟩, .int 0, .slc true []] → hget h 2 = .vars [.int k, .str (txt p), .str (txt m), .int n, v] → TL h v (subL L (ks.take i)) → ∃ v' h',
    lrun Tryd.prog md fg (fg 17) (loopOf Tryd.f17 2) (fg 17 3) ((.unk :: (nmV L) :: (byV L) :: (.ptr 0 0) :: .unk :: .unk :: (.ptr 1 0) :: .unk :: (.ptr 2 0) :: (.int i) :: .unk :: .unk :: .unk :: .unk :: .unk :: .unk :: .unk :: .unk :: .unk :: .unk :: .unk :: .unk :: .unk :: .unk :: .unk :: .unk :: .unk :: .unk :: .unk :: .unk :: .unk :: .unk :: .unk :: .unk :: .unk :: .unk :: .unk :: .unk :: .unk :: .unk :: .unk :: .unk :: .unk :: .unk :: .unk :: .unk :: .unk :: .unk :: .unk :: .unk :: .unk :: .unk :: .unk :: .unk :: .unk :: .unk :: .unk :: .unk :: .unk :: .unk :: .unk :: .unk :: .unk :: .unk :: .unk :: .unk :: [] : List AV)) h = some (.exit 2, (.unk :: (nmV L) :: (byV L) :: (.ptr 0 0) :: .unk :: .unk :: (.ptr 1 0) :: .unk :: (.ptr 2 0) :: (.int ks.length) :: .unk :: .unk :: .unk :: .unk :: .unk :: .unk :: .unk :: .unk :: .unk :: .unk :: .unk :: .unk :: .unk :: .unk :: .unk :: .unk :: .unk :: .unk :: .unk :: .unk :: .unk :: .unk :: .unk :: .unk :: .unk :: .unk :: .unk :: .unk :: .unk :: .unk :: .unk :: .unk :: .unk :: .unk :: .unk :: .unk :: .unk :: .unk :: .unk :: .unk :: .unk :: .unk :: .unk :: .unk :: .unk :: .unk :: .unk :: .unk :: .unk :: .unk :: .unk :: .unk :: .unk :: .unk :: .unk :: .unk :: [] : List AV), h') ∧ hget h' 1 = .vars [.int 0, .str ⟨#[]⟩, .str ⟨#[]⟩, .int 0, .slc true []] ∧ hget h' 2 = .vars [.int k, .str (txt p), .str (txt m), .int n, v'] ∧ TL h' v' (subL L ks)
  | [], i, h, v, hdr, hi, g0, g1, g2, hT => by
    have : i = ks.length := by have := congrArg List.length hdr; simp at this; omega
    subst this
    rw [List.take_length] at hT
    refine ⟨v, h, ?_, g1, g2, hT⟩
    rw [lrun_atC loop17_2]
    simp (implicitDefEqProofs := false) (disch := omega) only [go_sem, seval, rgn Tryd.f17 9 rfl, List.length_map, g0]
  | ⟨k2, p2, m2, n2, l2⟩ :: r, i, h, v, hdr, hi, g0, g1, g2, hT => by
    have hx : ks[i]? = some ⟨k2, p2, m2, n2, l2⟩ := by have := congrArg (·[0]?) hdr; simpa using this
    have hlt : i < ks.length := (List.getElem?_eq_some_iff.1 hx).1
    have hd' : ks.drop (i + 1) = r := by rw [← List.tail_drop, hdr]; rfl
    have ht : ((i : Int)).toNat = i := by omega
    have hst := hS _ (List.mem_of_getElem? hx)
    have cs : ∀ h, doCall md (aval Tryd.prog md fg) 17 [tmV ⟨k2, p2, m2, n2, l2⟩, nmV L, byV L] h = some (tmV (subT L ⟨k2, p2, m2, n2, l2⟩), h) := fun h => doCall_pure6 (by rw [md17]; decide) (by simp only [solidL, solid, solid_tm, solid_names, solid_byl, Bool.not_false, Bool.and_true]) hst
    have hsl : ∀ a b : List Tm, subL L (a ++ b) = subL L a ++ subL L b := by
      intro a
      induction a with
      | nil => intro b; rw [subL]; rfl
      | cons x a ih => intro b; rw [List.cons_append, subL, subL, ih]; rfl
    have hlen : ∀ a : List Tm, (subL L a).length = a.length := by
      intro a
      induction a with
      | nil => rw [subL]
      | cons x a ih => rw [subL, List.length_cons, ih, List.length_cons]
    obtain ⟨v1, h1, e1, x1, k1, f1, c1⟩ := tl_add hT (subT L ⟨k2, p2, m2, n2, l2⟩) (by rw [hlen]; simp; omega)
    have htk : subL L (ks.take i) ++ [subT L ⟨k2, p2, m2, n2, l2⟩] = subL L (ks.take (i + 1)) := by
      rw [List.take_add_one, hx, hsl]
      show _ = _ ++ subL L [_]
      rw [subL, subL]
    rw [htk] at x1
    have q0 := k1.2 0 _ g0 (by simp) (by simp)
    have q1 := k1.2 1 _ g1 (by simp) (by simp)
    have q2 := k1.2 2 _ g2 (by simp) (by simp)
    have hl2 : 2 < h1.length := hlt_of q2 (by simp)
    obtain ⟨v2, h2, e2, y1, y2, y3⟩ := s_loop2 k p m n ks hks L hS Z r (i + 1) (h1.set 2 (.vars [.int k, .str (txt p), .str (txt m), .int n, v1])) v1 hd' (by omega) (by rw [hget_set_ne (by decide)]; exact q0) (by rw [hget_set_ne (by decide)]; exact q1) (hget_set_eq hl2) (tl_set x1 q2)
    refine ⟨v2, h2, ?_, y1, y2, y3⟩
    rw [← e2]
    generalize subT L ⟨k2, p2, m2, n2, l2⟩ = T at *
    obtain ⟨k3, p3, m3, n3, l3⟩ := T
    rw [tmV_mk] at e1
    rw [tmV_mk, tmV_mk] at cs
    rw [lrun_atC loop17_2]
    simp (implicitDefEqProofs := false) (disch := omega) only [go_sem, seval, rgn Tryd.f17 9 rfl, rgn Tryd.f17 11 rfl, rgn Tryd.f17 10 rfl, ↓tail_nil, ↓subs_nil_all, ↓List.forall_mem_cons, ↓all_nil, md17, Bool.or_self, Bool.false_or, Bool.or_false, Option.some_beq_some, Nat.reduceBEq, thenDraw_append, thenDraw_store, List.length_map, List.getElem?_map, ht, hx, Option.map_some, tmV_mk, g0, g2, q0, q2, cs, e1, f1, c1]

    all_goals (congr 1 <;> simp only [List.cons.injEq, AV.val.injEq, Value.int.injEq, Value.bool.injEq, true_and, and_true] <;> omega)
theorem tl_exp {h : AHeap} {v : AV} {L : List Tm} (hv : TL h v L) (d : Nat) : solid v = false ∧ ∃ ids, exp1 h (d + 1) v = some (.slc false (L.map tmV), ids) ∧ canFrz h ids = true := by
  obtain ⟨rfl, rfl⟩ | ⟨k, g, rfl, ho⟩ := hv
  · exact ⟨rfl, [], rfl, rfl⟩
  · have := arr_exp ho (solid_byl L) d
    rw [List.length_map] at this
    exact ⟨rfl, [k], this, by simp [canFrz, ho]⟩
theorem tl_pure {h : AHeap} {v : AV} {L : List Tm} (hv : TL h v L) (a b c d : Value) : pureRes (some (.agg [.val a, .val b, .val c, .val d, v], h)) = some (.agg [.val a, .val b, .val c, .val d, .slc false (L.map tmV)]) := by
  obtain ⟨hn, ids, e, hc⟩ := tl_exp hv 58
  have hb : ∀ a : Value, exp1 h (58 + 1) (.val a) = some (.val a, []) := fun a => rfl
  have e2 : exp1 h expDepth (.agg [.val a, .val b, .val c, .val d, v]) = some (.agg [.val a, .val b, .val c, .val d, .slc false (L.map tmV)], ids) := by
    show exp1 h (58 + 1 + 1) _ = _
    rw [exp1]
    simp only [solid, solidL, hn, Bool.false_and, Bool.and_false, Bool.true_and, if_false, Bool.false_eq_true, expL, hb, e, List.nil_append, List.append_nil, Option.map_some]
  unfold pureRes
  dsimp only
  rw [e2]
  dsimp only
  rw [if_pos hc]
set_option maxHeartbeats 8000000 in
theorem s_node (k : Int) (p m : List UInt8) (n : Int) (ks : List Tm) (hks : ks.length ≤ 100000) (L : List Vl) (hL : L.length ≤ 100000) (hS : ∀ t ∈ ks, ST L t) : ST L ⟨k, p, m, n, ks⟩ := by
  unfold ST
  have node : (∃ i' : Int, lrun Tryd.prog md fg (fg 17) (loopOf Tryd.f17 0) (fg 17 1) ((.unk :: (nmV L) :: (byV L) :: (.ptr 0 0) :: .unk :: .unk :: (.ptr 1 0) :: (.int 0) :: .unk :: .unk :: .unk :: .unk :: .unk :: .unk :: .unk :: .unk :: .unk :: .unk :: .unk :: .unk :: .unk :: .unk :: .unk :: .unk :: .unk :: .unk :: .unk :: .unk :: .unk :: .unk :: .unk :: .unk :: .unk :: .unk :: .unk :: .unk :: .unk :: .unk :: .unk :: .unk :: .unk :: .unk :: .unk :: .unk :: .unk :: .unk :: .unk :: .unk :: .unk :: .unk :: .unk :: .unk :: .unk :: .unk :: .unk :: .unk :: .unk :: .unk :: .unk :: .unk :: .unk :: .unk :: .unk :: .unk :: .unk :: .unk :: [] : List AV)) [.vars [.int k, .str (txt p), .str (txt m), .int n, .slc false (ks.map tmV)], .vars [.int 0, .str ⟨#[]⟩, .str ⟨#[]⟩, .int 0, .slc true []]] = some (.exit 0, (.unk :: (nmV L) :: (byV L) :: (.ptr 0 0) :: .unk :: .unk :: (.ptr 1 0) :: (.int i') :: .unk :: .unk :: .unk :: .unk :: .unk :: .unk :: .unk :: .unk :: .unk :: .unk :: .unk :: .unk :: .unk :: .unk :: .unk :: .unk :: .unk :: .unk :: .unk :: .unk :: .unk :: .unk :: .unk :: .unk :: .unk :: .unk :: .unk :: .unk :: .unk :: .unk :: .unk :: .unk :: .unk :: .unk :: .unk :: .unk :: .unk :: .unk :: .unk :: .unk :: .unk :: .unk :: .unk :: .unk :: .unk :: .unk :: .unk :: .unk :: .unk :: .unk :: .unk :: .unk :: .unk :: .unk :: .unk :: .unk :: .unk :: .unk :: [] : List AV), [.vars [.int k, .str (txt p), .str (txt m), .int n, .slc false (ks.map tmV)], .vars [.int 0, .str ⟨#[]⟩, .str ⟨#[]⟩, .int 0, .slc true []]])) → pcall Tryd.prog md fg 17 [tmV ⟨k, p, m, n, ks⟩, nmV L, byV L] = some (tmV ⟨k, p, m, n, subL L ks⟩) := by
    rintro ⟨i', e1⟩
    obtain ⟨v2, h2, e2, y1, y2, y3⟩ := s_loop2 k p m n ks hks L hS .dead ks 0 [.vars [.int k, .str (txt p), .str (txt m), .int n, .slc false (ks.map tmV)], .vars [.int 0, .str ⟨#[]⟩, .str ⟨#[]⟩, .int 0, .slc true []], .vars [.int k, .str (txt p), .str (txt m), .int n, .slc true []]] (.slc true []) (by simp) (by omega) rfl rfl rfl (.inl ⟨rfl, by rw [List.take_zero, subL]⟩)
    simp only [Int.natCast_zero] at e2
    have hl1 : 1 < h2.length := hlt_of y1 (by simp)
    have z1 : hget (h2.set 1 (.vars [.int k, .str (txt p), .str (txt m), .int n, v2])) 1 = .vars [.int k, .str (txt p), .str (txt m), .int n, v2] := hget_set_eq hl1
    have e : aval Tryd.prog md fg 17 [tmV ⟨k, p, m, n, ks⟩, nmV L, byV L] [] = some (.agg [.int k, .str (txt p), .str (txt m), .int n, v2], h2.set 1 (.vars [.int k, .str (txt p), .str (txt m), .int n, v2])) := by
      rw [tmV_mk]
      rw [aval_of Tryd.func17 body17 Tryd.results17 Tryd.ntmps17 ok17]
      simp (implicitDefEqProofs := false) (disch := omega) only [go_sem, seval, rgn Tryd.f17 0 rfl, rgn Tryd.f17 1 rfl, rgn Tryd.f17 7 rfl, rgn Tryd.f17 8 rfl, e1, e2]
      simp (implicitDefEqProofs := false) (disch := omega) only [go_sem, seval, rgn Tryd.f17 12 rfl, y1, y2, z1, aresults, tupOf, Option.map_some]
    rw [pcall_eq, e, tl_pure (tl_set y3 y1), tmV_mk]
  rw [subT]
  by_cases hk : k = 1
  · subst hk
    rw [if_pos rfl]
    obtain ⟨i', e1⟩ := s_loop1 p m n ks L hL L 0 (by simp) (by omega)
    simp only [Int.natCast_zero] at e1
    cases hf : fv m L 0 with
    | none =>
      rw [hf] at e1
      dsimp only at e1 ⊢
      exact node ⟨i', e1⟩
    | some q =>
      obtain ⟨j, t⟩ := q
      rw [hf] at e1
      dsimp only at e1 ⊢
      have hs := solid_tm t
      obtain ⟨k2, p2, m2, n2, l2⟩ := t
      simp only [tmV_mk] at e1 hs ⊢
      have e : ∃ h, aval Tryd.prog md fg 17 [.agg [.int 1, .str (txt p), .str (txt m), .int n, .slc false (ks.map tmV)], nmV L, byV L] [] = some (.agg [.int k2, .str (txt p2), .str (txt m2), .int n2, .slc false (l2.map tmV)], h) := by
        change _ = some (Ex.ret, _, [_, AObj.vars [.int k2, .str (txt p2), .str (txt m2), .int n2, .slc false (l2.map tmV)]]) at e1
        rw [aval_of Tryd.func17 body17 Tryd.results17 Tryd.ntmps17 ok17]
        simp (implicitDefEqProofs := false) (disch := omega) only [go_sem, seval, rgn Tryd.f17 0 rfl, rgn Tryd.f17 1 rfl, e1, aresults, tupOf, Option.map_some]
        exact ⟨_, rfl⟩
      obtain ⟨h, e⟩ := e
      rw [pcall_eq, e, pureRes_solid hs]
  · rw [if_neg hk]
    refine node ⟨0, ?_⟩
    rw [lrun_atC loop17_0]
    by_cases h0 : L.length = 0
    · have : L = [] := List.length_eq_zero_iff.1 h0
      subst this
      simp (implicitDefEqProofs := false) (disch := omega) only [go_sem, seval, rgn Tryd.f17 2 rfl, List.map_nil, List.length_nil]
    · simp (implicitDefEqProofs := false) (disch := omega) only [go_sem, seval, rgn Tryd.f17 2 rfl, List.length_map, hk]
mutual
theorem ST_all (L : List Vl) (hL : L.length ≤ 100000) : ∀ t : Tm, tsz t ≤ 100000 → ST L t
  | ⟨k, p, m, n, ks⟩, h => by
    rw [tsz] at h
    have hl : ∀ l : List Tm, l.length ≤ tszs l := by
      intro l
      induction l with
      | nil => simp
      | cons a b ih => have := tsz_pos a; simp only [tszs, List.length_cons]; omega
    exact s_node k p m n ks (by have := hl ks; omega) L hL (ST_alls L hL ks (by omega))
theorem ST_alls (L : List Vl) (hL : L.length ≤ 100000) : ∀ l : List Tm, tszs l ≤ 100000 → ∀ t ∈ l, ST L t
  | [], _, t, h => by cases h
  | a :: r, hs, t, h => by
    rw [tszs] at hs
    rcases List.mem_cons.1 h with h | h
    · rw [h]; exact ST_all L hL a (by omega)
    · exact ST_alls L hL r (by omega) t h
end
def NB (h : AHeap) (v : AV) (l : List (List UInt8)) : Prop := (v = .slc true [] ∧ l = []) ∨ ∃ k g, v = .arr k 0 l.length g 1 ∧ hget h k = .arr 1 (l.map sV) g
def KeepA (c : Nat) (h h' : AHeap) : Prop := ∀ j k es g, hget h j = .arr k es g → k ≠ c → hget h' j = .arr k es g
theorem keepA_app (c : Nat) (h l : AHeap) : KeepA c h (h ++ l) := fun j k es g e _ => by rw [hget_app l (hlt_of e (by simp))]; exact e
theorem keepA_set {c : Nat} {h : AHeap} {i : Nat} {es : List AV} {g : Nat} {o : AObj} (ho : hget h i = .arr c es g) : KeepA c h (h.set i o) := fun j k es' g' e hk => by
  have hij : ¬ i = j := by
    rintro rfl
    rw [ho] at e
    exact hk (by injection e with h1; exact h1.symm)
  rw [hget_set_ne hij]; exact e
theorem nb_add {h : AHeap} {v : AV} {l : List (List UInt8)} (hv : NB h v l) (m : List UInt8) (hn : l.length ≤ 100000) : ∃ v' h', (∀ z, appT (some (1, 16, z)) h v (some [sV m]) = some (v', h')) ∧ NB h' v' (l ++ [m]) ∧ KeepO h h' ∧ KeepA 1 h h' := by
  obtain ⟨rfl, rfl⟩ | ⟨k, g, rfl, ho⟩ := hv
  · exact ⟨.arr h.length 0 (0 + 1) 0 1, h ++ [.arr 1 ([] ++ [sV m]) 0], fun z => appT_slc _ _ _ _ _ rfl rfl (by simp) (by simp), .inr ⟨h.length, 0, by simp, hget_last⟩, keep_app _ _, keepA_app _ _ _⟩
  · have hk := hlt_of ho (by simp)
    refine ⟨.arr k 0 (l.length + 1) (g + 1) 1, h.set k (.arr 1 (l.map sV ++ [sV m]) (g + 1)), fun z => appT_arr _ _ _ _ _ _ _ _ ho (by simp) rfl (by simp; omega), .inr ⟨k, g + 1, by simp, by rw [hget_set_eq hk]; simp⟩, ⟨by simp, fun j o e h1 h2 => ?_⟩, keepA_set ho⟩
    have hjk : ¬ k = j := by rintro rfl; rw [ho] at e; exact h1 _ _ _ e.symm
    rw [hget_set_ne hjk]; exact e
theorem tl_add2 {h : AHeap} {v : AV} {L : List Tm} (hv : TL h v L) (x : Tm) (hn : L.length ≤ 100000) : ∃ v' h', (∀ z, appT (some (5, 72, z)) h v (some [tmV x]) = some (v', h')) ∧ TL h' v' (L ++ [x]) ∧ KeepO h h' ∧ KeepA 5 h h' := by
  have hx : headOk 5 [tmV x] = true := by obtain ⟨k, p, m, n, ks⟩ := x; rw [tmV_mk]; rfl
  obtain ⟨rfl, rfl⟩ | ⟨k, g, rfl, ho⟩ := hv
  · exact ⟨.arr h.length 0 (0 + 1) 0 5, h ++ [.arr 5 ([] ++ [tmV x]) 0], fun z => appT_slc _ _ _ _ _ hx rfl (by simp) (by simp), .inr ⟨h.length, 0, by simp, hget_last⟩, keep_app _ _, keepA_app _ _ _⟩
  · have hk := hlt_of ho (by simp)
    refine ⟨.arr k 0 (L.length + 1) (g + 1) 5, h.set k (.arr 5 (L.map tmV ++ [tmV x]) (g + 1)), fun z => appT_arr _ _ _ _ _ _ _ _ ho (by simp) hx (by simp; omega), .inr ⟨k, g + 1, by simp, by rw [hget_set_eq hk]; simp⟩, ⟨by simp, fun j o e h1 h2 => ?_⟩, keepA_set ho⟩
    have hjk : ¬ k = j := by rintro rfl; rw [ho] at e; exact h1 _ _ _ e.symm
    rw [hget_set_ne hjk]; exact e
theorem nb_keep {h h' : AHeap} {v : AV} {l : List (List UInt8)} (hv : NB h v l) (k : KeepA 5 h h') : NB h' v l := by
  obtain h1 | ⟨i, g, e, ho⟩ := hv
  · exact .inl h1
  · exact .inr ⟨i, g, e, k _ _ _ _ ho (by decide)⟩
theorem tl_keep {h h' : AHeap} {v : AV} {l : List Tm} (hv : TL h v l) (k : KeepA 1 h h') : TL h' v l := by
  obtain h1 | ⟨i, g, e, ho⟩ := hv
  · exact .inl h1
  · exact .inr ⟨i, g, e, k _ _ _ _ ho (by decide)⟩
theorem nb_app {h : AHeap} {v : AV} {l : List (List UInt8)} (hv : NB h v l) (l0 : AHeap) : NB (h ++ l0) v l := nb_keep hv (keepA_app _ _ _)
theorem tl_app {h : AHeap} {v : AV} {l : List Tm} (hv : TL h v l) (l0 : AHeap) : TL (h ++ l0) v l := tl_keep hv (keepA_app _ _ _)
set_option maxHeartbeats 4000000 in
theorem nb_exp {h : AHeap} {v : AV} {l : List (List UInt8)} (hv : NB h v l) : ∃ ids, exp1 h expDepth v = some (.slc false (l.map sV), ids) ∧ canFrz h ids = true := by
  obtain ⟨rfl, rfl⟩ | ⟨k, g, rfl, ho⟩ := hv
  · exact ⟨[], rfl, rfl⟩
  · have := arr_exp ho (solid_names l) 59
    rw [List.length_map] at this
    exact ⟨[k], this, by simp [canFrz, ho]⟩
theorem frz_keep : ∀ (ids : List Nat) (h : AHeap) (j : Nat) (cs : List AV), hget h j = .vars cs → hget (frzAll h ids) j = .vars cs
  | [], h, j, cs, e => e
  | i :: r, h, j, cs, e => by
    rw [frzAll]
    refine frz_keep r _ j cs ?_
    unfold frz1
    split
    · rename_i k es g ho
      have hij : ¬ i = j := by rintro rfl; rw [ho] at e; cases e
      rw [hget_set_ne hij]; exact e
    · exact e
theorem doCall_frz {f : FuncId} {xs ys : List AV} {ids : List Nat} {h : AHeap} {r : AV} (hm : 100 ≤ md f) (hs : expL (exp1 h expDepth) xs = some (ys, ids)) (hc : canFrz h ids = true) (e : pcall Tryd.prog md fg f ys = some r) : ∃ h', doCall md (aval Tryd.prog md fg) f xs h = some (r, h') ∧ ∀ j cs, hget h j = .vars cs → hget h' j = .vars cs := by
  rw [doCall_0 (by omega)]; unfold doCall0
  rw [if_pos (.inr hm), hs]
  simp only [hc, if_true]
  rw [← pcall_eq, e]
  by_cases hf : flat r = true
  · exact ⟨h, by simp [hf], fun _ _ e => e⟩
  · exact ⟨frzAll h ids, by simp [hf], fun j cs e => frz_keep ids h j cs e⟩
theorem sub_c (g s : Tm) (L : List Vl) (hL : L.length ≤ 100000) (hz : tsz g ≤ 100000) (hs : subT L g = s) {h : AHeap} {v w : AV} (hN : NB h v (L.map Prod.fst)) (hT : TL h w (L.map Prod.snd)) : ∃ h', doCall md (aval Tryd.prog md fg) 17 [tmV g, v, w] h = some (tmV s, h') ∧ ∀ j cs, hget h j = .vars cs → hget h' j = .vars cs := by
  obtain ⟨i1, e1, c1⟩ := nb_exp hN
  obtain ⟨_, i2, e2, c2⟩ := tl_exp hT 59
  have e2 : exp1 h expDepth w = some (.slc false ((L.map Prod.snd).map tmV), i2) := e2
  have he : expL (exp1 h expDepth) [tmV g, v, w] = some ([tmV g, nmV L, byV L], i1 ++ i2) := by
    simp only [expL, exp1_solid (solid_tm g), e1, e2, List.append_nil, List.nil_append]
  have hc : canFrz h (i1 ++ i2) = true := by
    unfold canFrz at c1 c2 ⊢
    rw [List.all_append, c1, c2]; rfl
  have := ST_all L hL g hz
  unfold ST at this
  rw [hs] at this
  exact doCall_frz (by rw [md17]; decide) he hc this
structure IS (h : AHeap) (S B V : Nat) (sh : List Sh) (P : SMap) (ns : List Nd) : Prop where
  sp : SP h S ns 200000 false 0
  nr : NR h S B sh idf idf yes 0 ns
  b : B ≤ h.length
  vs : V ≠ S
  ms : MS h V P
def NW (h : AHeap) (ns ns' : List Nd) : Prop := ∃ new, ns' = ns ++ new ∧ ∀ n ∈ new, ∀ K g l, n.kids = .arr K 0 l g 1 → h.length ≤ K
theorem NW.refl (h : AHeap) (ns : List Nd) : NW h ns ns := ⟨[], by simp, by simp⟩
theorem NW.trans {h H : AHeap} {a b c : List Nd} (x : NW h a b) (y : NW H b c) (hl : h.length ≤ H.length) : NW h a c := by
  obtain ⟨n1, rfl, h1⟩ := x
  obtain ⟨n2, rfl, h2⟩ := y
  refine ⟨n1 ++ n2, by simp, fun n hn K g l e => ?_⟩
  rcases List.mem_append.1 hn with hn | hn
  · exact h1 n hn K g l e
  · have := h2 n hn K g l e; omega
theorem NW.le {h : AHeap} {a b : List Nd} (x : NW h a b) : a.length ≤ b.length := by obtain ⟨n1, rfl, _⟩ := x; simp
theorem ku_app (S M T : Nat) (h l : AHeap) : Ku S M T h (h ++ l) := (kf_app S h l).ku M T
theorem IS.app {h : AHeap} {S B V : Nat} {sh : List Sh} {P : SMap} {ns : List Nd} (x : IS h S B V sh P ns) (l : AHeap) : IS (h ++ l) S B V sh P ns :=
  ⟨sp_app x.sp l, x.nr.kf (kf_app S h l), by have := x.b; simp; omega, x.vs, by have := x.ms; unfold MS at this ⊢; rw [hget_app l (hlt_of this (by simp))]; exact this⟩
theorem sp_map {h : AHeap} {S V : Nat} {ns : List Nd} {b : Int} {f : Bool} {w : Int} (hs : SP h S ns b f w) (hV : V ≠ S) {P : SMap} (hm : MS h V P) (o : AObj) : SP (h.set V o) S ns b f w := by
  obtain ⟨nv, z1, z2⟩ := hs
  refine ⟨nv, by rw [hget_set_ne hV]; exact z1, ?_⟩
  rcases z2 with z2 | ⟨A', g', z2, z3⟩
  · exact .inl z2
  · exact .inr ⟨A', g', z2, by rw [hget_set_ne (by rintro rfl; unfold MS at hm; rw [hm] at z3; simp at z3)]; exact z3⟩
theorem kb_map {h : AHeap} {S B V : Nat} {P : SMap} (hm : MS h V P) (o : AObj) {v : AV} {kl : List Int} (x : KB h S B v kl) : KB (h.set V o) S B v kl := by
  rcases x with x | ⟨K, g, e1, e2, e3, e4⟩
  · exact .inl x
  · exact .inr ⟨K, g, e1, by rw [hget_set_ne (by rintro rfl; unfold MS at hm; rw [hm] at e2; cases e2)]; exact e2, e3, e4⟩
theorem nr_map {h : AHeap} {S B V : Nat} {P : SMap} (hm : MS h V P) (o : AObj) {sh : List Sh} {rt r : Nat → Nat} {vis : Nat → Bool} {w : Int} {ns : List Nd} (x : NR h S B sh rt r vis w ns) : NR (h.set V o) S B sh rt r vis w ns :=
  ⟨x.1, fun i n s h1 h2 => by
    have y := x.2 i n s h1 h2
    exact ⟨y.kind, y.pkg, y.name, kb_map hm o y.kids, y.to, y.mark, y.le⟩⟩
theorem IS.end' {f : FuncId} {vs : List AV} {h H : AHeap} {res : AV} {S B B' V : Nat} {sh sh' : List Sh} {P P' : SMap} {ns ns' : List Nd} (hm : md f = 1) (e : aval Tryd.prog md fg f vs h = some (res, H)) (h0 : IS h S B V sh P ns) (h1 : IS H S B' V sh' P' ns') (hk : Ku S V V h H) (hw : NW h ns ns') (hnew : ns'.length ≠ ns.length ∨ B' ≤ h.length) (har : AR S h H) :
    ∃ H' B'', doCall md (aval Tryd.prog md fg) f vs h = some (res, H') ∧ IS H' S B'' V sh' P' ns' ∧ Ku S V V h H' ∧ AR S h H' := by
  obtain ⟨H', B'', z1, z2, z3, z4, z8, z5, z6, z7⟩ := doCall_imp hm e h0.sp h1.sp h1.nr h1.b hk.1 hw.le hnew har
  have hV : V < h.length := hlt_of h0.ms (by simp)
  exact ⟨H', B'', z1, ⟨z2, z3, z4, h0.vs, by have := h1.ms; unfold MS at this ⊢; rw [z6 V hV]; exact this⟩, ⟨z5, fun j o e h1 h2 h3 h4 h5 => by rw [z6 j (hlt_of e h1)]; exact hk.2 j o e h1 h2 h3 h4 h5⟩, z7⟩
section
variable {S V : Nat} {f : FuncId} {caps : List AV} {h0 : AHeap}
def ImpOk (S V : Nat) (f : FuncId) (caps : List AV) (h0 : AHeap) (t : Tm) : Prop := ∀ (h : AHeap) (B : Nat) (sh : List Sh) (P : SMap) (ns : List Nd), Ku S V V h0 h → IS h S B V sh P ns → IP sh P → sh.length + tsz t ≤ 90000 →
  ∃ H id B' sh' P' ns', doCall md (aval Tryd.prog md fg) 39 [.ptr S 0, tmV t, .mp V, .clo f [] caps] h = some (.int (id : Nat), H) ∧ IS H S B' V sh' P' ns' ∧ IP sh' P' ∧ IE sh P (tvars t) sh' P' ∧ Val sh' P' id t ∧ sh'.length ≤ sh.length + tsz t ∧ kc sh' + 1 ≤ kc sh + tsz t ∧ Ku S V V h H ∧ AR S h H ∧ NW h ns ns'
def Fr (S V : Nat) (f : FuncId) (caps : List AV) (h0 : AHeap) : Prop := ∀ (h1 : AHeap) (ns1 : List Nd), Ku S V V h0 h1 → SP h1 S ns1 200000 false 0 → ns1.length < 200000 → ∃ H, doCall md (aval Tryd.prog md fg) f caps h1 = some (.int ns1.length, H) ∧ SP H S (ns1 ++ [vNd 0 ns1.length]) 200000 false 0 ∧ Kf S h1 H ∧ AR S h1 H
set_option maxHeartbeats 8000000 in
theorem imp_var (hc : callable Tryd.prog f = true) (hfr : Fr S V f caps h0) (p m : List UInt8) (n : Int) (l : List Tm) (ht : Tm.ty ⟨1, p, m, n, l⟩) : ImpOk S V f caps h0 ⟨1, p, m, n, l⟩ := by
  intro h B sh P ns hk hi ip hbud
  rw [Tm.ty] at ht
  obtain ⟨hl, hp⟩ := ht.1.2.2.2 rfl
  subst hl; subst hp
  have hS : S < h.length := by obtain ⟨_, q, _⟩ := hi.sp; exact hlt_of q (by simp)
  have hi1 := hi.app [.vars [.int 1, .str (txt []), .str (txt m), .int n, .slc false []]]
  have k1 := ku_app S V V h [.vars [.int 1, .str (txt []), .str (txt m), .int n, .slc false []]]
  have cf := full_c hi1.sp
  have lk := (ms_look hi1.ms m).1
  have htv : tvars ⟨1, [], m, n, []⟩ = [m] := by rw [tvars, if_pos rfl]
  have hts : tsz ⟨1, [], m, n, []⟩ = 1 := by rw [tsz, tszs]
  have hin : ∀ th : List UInt8 → Tm, inst th ⟨1, [], m, n, []⟩ = th m := fun th => by rw [inst, if_pos rfl]
  rw [htv, hts, tmV_mk, List.map_nil]
  rw [hts] at hbud
  cases hmg : mg P m with
  | some i =>
    rw [hmg] at lk
    simp only [Option.getD_some, Option.isSome_some] at lk
    have e : aval Tryd.prog md fg 39 [.ptr S 0, .agg [.int 1, .str (txt []), .str (txt m), .int n, .slc false []], .mp V, .clo f [] caps] h = some (.int (i : Int), h ++ [.vars [.int 1, .str (txt []), .str (txt m), .int n, .slc false []]]) := by
      rw [aval_of Tryd.func39 body39 Tryd.results39 Tryd.ntmps39 ok39]
      simp (implicitDefEqProofs := false) (disch := omega) only [go_sem, seval, rgn Tryd.f39 0 rfl, rgn Tryd.f39 1 rfl, rgn Tryd.f39 3 rfl, rgn Tryd.f39 4 rfl, rgn Tryd.f39 5 rfl, rgn Tryd.f39 8 rfl, cf, hget_last, aop_lookup, lk]
    obtain ⟨H', B'', z1, z2, z3, z4⟩ := IS.end' md39 e hi hi1 k1 (NW.refl h ns) (.inr hi.b) (AR.app hS _)
    refine ⟨H', i, B'', sh, P, ns, z1, z2, ip, ⟨⟨[], by simp⟩, fun _ _ h => h, fun x hx => ?_, fun _ _ h => .inl h⟩, ⟨lt_of_at (ip.var m i hmg), fun x hx => ?_, fun M _ => ?_⟩, by omega, by omega, z3, z4, NW.refl h ns⟩
    · rw [List.mem_singleton.1 hx]; exact ⟨i, hmg⟩
    · rw [htv] at hx; rw [List.mem_singleton.1 hx]; exact ⟨i, hmg⟩
    · rw [hin]; show M i = M ((mg P m).getD 0); rw [hmg]; rfl
  | none =>
    rw [hmg] at lk
    simp only [Option.getD_none, Option.isSome_none] at lk
    have hnl := hi.nr.1
    obtain ⟨H1, c1, c2, c3, c4⟩ := hfr _ ns (hk.trans k1) hi1.sp (by omega)
    have hm1 : MS H1 V P := c3.2 V _ hi1.ms (by simp) hi.vs (by simp)
    have hput := ms_put hm1 m ns.length
    have yb : hget H1 h.length = .vars [.int 1, .str (txt []), .str (txt m), .int n, .slc false []] := c3.2 _ _ hget_last (by simp) (by omega) (by simp)
    obtain ⟨ip2, ie2⟩ := ip_var ip hmg
    rw [hnl] at c1 c2 hput
    have hVl := hlt_of hm1 (by simp)
    have hNR : NR H1 S B (sh ++ [vSh]) idf idf yes 0 (ns ++ [vNd 0 sh.length]) := hi1.nr.add (Nat.le_refl _) (fun _ _ x => x.kf c3) rfl rfl rfl (.inl ⟨rfl, rfl⟩) rfl rfl
    have hI : IS (H1.set V (.map (encM sV nV (mset P m sh.length).1) (mset P m sh.length).2)) S B V (sh ++ [vSh]) (mset P m sh.length) (ns ++ [vNd 0 sh.length]) := ⟨sp_map c2 hi.vs hm1 _, nr_map hm1 _ hNR, by have := hi1.b; have := c3.1; rw [List.length_set]; omega, hi.vs, hget_set_eq hVl⟩
    have hK : Ku S V V h (H1.set V (.map (encM sV nV (mset P m sh.length).1) (mset P m sh.length).2)) := by
      have k := k1.trans (c3.ku V V)
      exact ⟨by rw [List.length_set]; exact k.1, fun j o e z1 z2 z3 z4 z5 => by rw [hget_set_ne (fun q => z3 q.symm)]; exact k.2 j o e z1 z2 z3 z4 z5⟩
    have hAR : AR S h (H1.set V (.map (encM sV nV (mset P m sh.length).1) (mset P m sh.length).2)) := ((AR.app hS _).trans c4 (by simp)).same (hget_set_ne hi.vs)
    have e : aval Tryd.prog md fg 39 [.ptr S 0, .agg [.int 1, .str (txt []), .str (txt m), .int n, .slc false []], .mp V, .clo f [] caps] h = some (.int (sh.length : Int), H1.set V (.map (encM sV nV (mset P m sh.length).1) (mset P m sh.length).2)) := by
      rw [aval_of Tryd.func39 body39 Tryd.results39 Tryd.ntmps39 ok39]
      simp (implicitDefEqProofs := false) (disch := omega) only [go_sem, seval, rgn Tryd.f39 0 rfl, rgn Tryd.f39 1 rfl, rgn Tryd.f39 3 rfl, rgn Tryd.f39 4 rfl, rgn Tryd.f39 5 rfl, rgn Tryd.f39 6 rfl, rgn Tryd.f39 7 rfl, rgn Tryd.f39 8 rfl, cf, hget_last, aop_lookup, lk, hc, List.nil_append, c1, yb, hput, aop_mapUpdate]
    have hNW : NW h ns (ns ++ [vNd 0 sh.length]) := ⟨_, rfl, fun n hn K g l e => by rw [List.mem_singleton.1 hn] at e; cases e⟩
    obtain ⟨H', B'', z1, z2, z3, z4⟩ := IS.end' md39 e hi hI hK hNW (.inl (by simp)) hAR
    refine ⟨H', sh.length, B'', _, _, _, z1, z2, ip2, ie2, ⟨by simp, fun x hx => ?_, fun M _ => ?_⟩, by simp, by rw [kc_add]; simp, z3, z4, hNW⟩
    · rw [htv] at hx; exact ie2.has x hx
    · rw [hin]; show M sh.length = M ((mg (mset P m sh.length) m).getD 0); rw [mg_mset, if_pos rfl]; rfl
end
theorem sp_setT {h : AHeap} {S T : Nat} {ns : List Nd} {b : Int} {f : Bool} {w : Int} (hs : SP h S ns b f w) (hTS : T ≠ S) {es : List AV} {g : Nat} (hT : hget h T = .arr 1 es g) (o : AObj) : SP (h.set T o) S ns b f w := by
  obtain ⟨nv, z1, z2⟩ := hs
  refine ⟨nv, by rw [hget_set_ne hTS]; exact z1, ?_⟩
  rcases z2 with z2 | ⟨A', g', z2, z3⟩
  · exact .inl z2
  · exact .inr ⟨A', g', z2, by rw [hget_set_ne (by rintro rfl; rw [hT] at z3; simp at z3)]; exact z3⟩
def NoT (T : Nat) (ns : List Nd) : Prop := ∀ n ∈ ns, ∀ K g l, n.kids = .arr K 0 l g 1 → K ≠ T
theorem nr_setT {h : AHeap} {S B T : Nat} (o : AObj) {sh : List Sh} {rt r : Nat → Nat} {vis : Nat → Bool} {w : Int} {ns : List Nd} (x : NR h S B sh rt r vis w ns) (hno : NoT T ns) : NR (h.set T o) S B sh rt r vis w ns :=
  ⟨x.1, fun i n s h1 h2 => by
    have y := x.2 i n s h1 h2
    refine ⟨y.kind, y.pkg, y.name, ?_, y.to, y.mark, y.le⟩
    rcases y.kids with z | ⟨K, g, e1, e2, e3, e4⟩
    · exact .inl z
    · exact .inr ⟨K, g, e1, by rw [hget_set_ne (fun q => hno n (List.mem_of_getElem? h1) K g _ e1 q.symm)]; exact e2, e3, e4⟩⟩
theorem IS.setT {h : AHeap} {S B V T : Nat} {sh : List Sh} {P : SMap} {ns : List Nd} (x : IS h S B V sh P ns) (hTS : T ≠ S) (hTV : T ≠ V) (hno : NoT T ns) {es : List AV} {g : Nat} (hT : hget h T = .arr 1 es g) (o : AObj) : IS (h.set T o) S B V sh P ns :=
  ⟨sp_setT x.sp hTS hT o, nr_setT o x.nr hno, by rw [List.length_set]; exact x.b, x.vs, by have := x.ms; unfold MS at this ⊢; rw [hget_set_ne hTV]; exact this⟩
theorem NoT.new {T : Nat} {h : AHeap} {ns ns' : List Nd} (x : NoT T ns) (y : NW h ns ns') (hT : T < h.length) : NoT T ns' := by
  obtain ⟨new, rfl, hn⟩ := y
  intro n hm K g l e
  rcases List.mem_append.1 hm with hm | hm
  · exact x n hm K g l e
  · have := hn n hm K g l e; omega
def Vals (sh : List Sh) (P : SMap) (kl : List Nat) (l : List Tm) : Prop := kl.length = l.length ∧ ∀ (j id : Nat) (t : Tm), kl[j]? = some id → l[j]? = some t → Val sh P id t
theorem Vals.ext {a b : List Sh} {P Q : SMap} {u : List (List UInt8)} (x : IE a P u b Q) {kl : List Nat} {l : List Tm} (v : Vals a P kl l) : Vals b Q kl l := ⟨v.1, fun j id t h1 h2 => (v.2 j id t h1 h2).ext x⟩
theorem Vals.snoc {sh : List Sh} {P : SMap} {kl : List Nat} {l : List Tm} (v : Vals sh P kl l) {id : Nat} {t : Tm} (hv : Val sh P id t) : Vals sh P (kl ++ [id]) (l ++ [t]) := by
  refine ⟨by simp [v.1], fun j i x h1 h2 => ?_⟩
  by_cases hj : j < kl.length
  · rw [List.getElem?_append_left hj] at h1
    rw [List.getElem?_append_left (by rw [← v.1]; exact hj)] at h2
    exact v.2 j i x h1 h2
  · have := lt_of_at h1
    have : j = kl.length := by simp at this; omega
    subst this
    rw [List.getElem?_append_right (Nat.le_refl _), Nat.sub_self] at h1
    rw [List.getElem?_append_right (by rw [v.1]; exact Nat.le_refl _), v.1, Nat.sub_self] at h2
    cases h1; cases h2; exact hv
theorem septr_int {i x : Nat} {y : Int} {H1 : AHeap} {T g : Nat} (L : List AV) (hL : L[i]? = some (.int y)) : septr true 1 (.int (x : Int)) g 1 i 0 H1 T (.arr 1 L g) = some (H1.set T (.arr 1 (L.set i (.int (x : Int))) g)) := by
  simp [septr, hL, AV.cells, patch, putAt]
theorem amake_85 (h : AHeap) (n : Nat) (hn : n ≤ 100000) : amake Tryd.prog 85 h (.int (n : Int)) (.int (n : Int)) = some (.arr h.length 0 n 0 1, h ++ [.arr 1 (List.replicate n (.int 0)) 0]) := by
  unfold amake
  have e : ((n : Int)).toNat = n := by omega
  have : tslice Tryd.prog 85 = some (1, 8, .int 0) := tslice_85
  rw [this]
  show (if 0 ≤ (n : Int) ∧ (n : Int) ≤ (n : Int) ∧ ((n : Int)).toNat * 8 ≤ 2 ^ 47 then some (AV.arr h.length 0 ((n : Int)).toNat 0 1, h ++ [AObj.arr 1 (List.replicate ((n : Int)).toNat (.int 0)) 0]) else none) = _
  rw [e, if_pos ⟨by omega, Int.le_refl _, by omega⟩]
section
variable {S V : Nat} {f : FuncId} {caps : List AV} {h0 : AHeap}
set_option maxHeartbeats 8000000 in
theorem imp_loop (hc : callable Tryd.prog f = true) {l : List Tm} (hl : l.length ≤ 100000) {T bx : Nat} (hTS : T ≠ S) (hTV : T ≠ V) (hT0 : h0.length ≤ T) : ∀ (r done : List Tm), (∀ k ∈ r, ImpOk S V f caps h0 k) → l = done ++ r → ∀ (h : AHeap) (B : Nat) (sh : List Sh) (P : SMap) (ns : List Nd) (kl : List Nat), Ku S V V h0 h → IS h S B V sh P ns → IP sh P → sh.length + tszs r ≤ 90000 → Vals sh P kl done → T < h.length → NoT T ns → TI h T 0 (ints kl ++ List.replicate r.length 0) →
    ∃ H kl' B' sh' P' ns', lrun Tryd.prog md fg (fg 39) (loopOf Tryd.f39 0) (fg 39 1) (((.ptr S 0) :: .unk :: (.mp V) :: (.clo f [] caps) :: .unk :: (.ptr bx 0) :: .unk :: .unk :: .unk :: .unk :: .unk :: (.arr T 0 l.length 0 1) :: .unk :: .unk :: .unk :: .unk :: .unk :: .unk :: .unk :: .unk :: .unk :: .unk :: .unk :: .unk :: .unk :: .unk :: .unk :: .unk :: .unk :: .unk :: .unk :: .unk :: .unk :: .unk :: .unk :: .unk :: .unk :: .unk :: .unk :: .unk :: (.slc false (l.map tmV)) :: (.int l.length) :: (.int done.length) :: .unk :: .unk :: .unk :: .unk :: .unk :: .unk :: .unk :: .unk :: .unk :: .unk :: .unk :: .unk :: .unk :: .unk :: .unk :: .unk :: .unk :: .unk :: .unk :: .unk :: .unk :: .unk :: [] : List AV)) h = some (.exit 0, ((.ptr S 0) :: .unk :: (.mp V) :: (.clo f [] caps) :: .unk :: (.ptr bx 0) :: .unk :: .unk :: .unk :: .unk :: .unk :: (.arr T 0 l.length 0 1) :: .unk :: .unk :: .unk :: .unk :: .unk :: .unk :: .unk :: .unk :: .unk :: .unk :: .unk :: .unk :: .unk :: .unk :: .unk :: .unk :: .unk :: .unk :: .unk :: .unk :: .unk :: .unk :: .unk :: .unk :: .unk :: .unk :: .unk :: .unk :: (.slc false (l.map tmV)) :: (.int l.length) :: (.int l.length) :: .unk :: .unk :: .unk :: .unk :: .unk :: .unk :: .unk :: .unk :: .unk :: .unk :: .unk :: .unk :: .unk :: .unk :: .unk :: .unk :: .unk :: .unk :: .unk :: .unk :: .unk :: .unk :: [] : List AV), H) ∧ IS H S B' V sh' P' ns' ∧ IP sh' P' ∧ Vals sh' P' kl' l ∧ IE sh P (tvarss r) sh' P' ∧ sh'.length ≤ sh.length + tszs r ∧ kc sh' + r.length ≤ kc sh + tszs r ∧ Ku S V T h H ∧ AR S h H ∧ NW h ns ns' ∧ NoT T ns' ∧ TI H T 0 (ints kl')
  | [], done, hih, he, h, B, sh, P, ns, kl, hk, hi, ip, hb, hv, hTl, hno, hT => by
    rw [List.append_nil] at he
    subst he
    refine ⟨h, kl, B, sh, P, ns, ?_, hi, ip, hv, by rw [tvarss]; exact IE.refl sh P, by rw [tszs]; omega, by rw [tszs]; simp, Ku.refl _ _ _ _, AR.refl S h, NW.refl h ns, hno, by simpa using hT⟩
    rw [lrun_atC loop39_0]
    simp (implicitDefEqProofs := false) (disch := omega) only [go_sem, seval, rgn Tryd.f39 11 rfl]
  | k :: r, done, hih, he, h, B, sh, P, ns, kl, hk, hi, ip, hb, hv, hTl, hno, hT => by
    obtain ⟨kd, kp, km, kn, kk⟩ := k
    rw [tszs] at hb
    have hpos := tsz_pos ⟨kd, kp, km, kn, kk⟩
    have hS : S < h.length := by obtain ⟨_, q, _⟩ := hi.sp; exact hlt_of q (by simp)
    have hi1 := hi.app [.vars [.int kd, .str (txt kp), .str (txt km), .int kn, .slc false (kk.map tmV)]]
    have k1 := ku_app S V V h [.vars [.int kd, .str (txt kp), .str (txt km), .int kn, .slc false (kk.map tmV)]]
    obtain ⟨H1, id, B1, sh1, P1, ns1, c1, i1, ip1, ie1, v1, le1, kc1, ku1, ar1, nw1⟩ := hih ⟨kd, kp, km, kn, kk⟩ (List.mem_cons_self ..) _ B sh P ns (hk.trans k1) hi1 ip (by omega)
    rw [tmV_mk] at c1
    have hT1 : TI H1 T 0 (ints kl ++ 0 :: List.replicate r.length 0) := (k1.trans ku1).2 T _ hT (by simp) hTS hTV hTV (by simp)
    have hno1 : NoT T ns1 := hno.new nw1 (by simp; omega)
    have hT1l := hlt_of hT1 (by simp)
    have hT2 : TI (H1.set T (.arr 1 ((ints (kl ++ [id]) ++ List.replicate r.length 0).map AV.int) 0)) T 0 (ints (kl ++ [id]) ++ List.replicate r.length 0) := hget_set_eq hT1l
    have i2 := i1.setT hTS hTV hno1 hT1 (.arr 1 ((ints (kl ++ [id]) ++ List.replicate r.length 0).map AV.int) 0)
    have kT : Ku S V T h (H1.set T (.arr 1 ((ints (kl ++ [id]) ++ List.replicate r.length 0).map AV.int) 0)) := by
      have k := k1.trans ku1
      exact ⟨by rw [List.length_set]; exact k.1, fun j o e z1 z2 z3 z4 z5 => by rw [hget_set_ne (fun q => z4 q.symm)]; exact k.2 j o e z1 z2 z3 z3 z5⟩
    have k02 : Ku S V V h0 (H1.set T (.arr 1 ((ints (kl ++ [id]) ++ List.replicate r.length 0).map AV.int) 0)) := ⟨Nat.le_trans hk.1 kT.1, fun j o e z1 z2 z3 z4 z5 => kT.2 j o (hk.2 j o e z1 z2 z3 z4 z5) z1 z2 z3 (by have := hlt_of e z1; omega) z5⟩
    have har2 : AR S h (H1.set T (.arr 1 ((ints (kl ++ [id]) ++ List.replicate r.length 0).map AV.int) 0)) := ((AR.app hS _).trans ar1 (by simp)).same (hget_set_ne hTS)
    have nwh : NW h ns ns1 := by
      obtain ⟨new, e1, e2⟩ := nw1
      exact ⟨new, e1, fun n hn K g l e => by have := e2 n hn K g l e; simp at this; omega⟩
    obtain ⟨H, kl', B', sh', P', ns', y1, y2, y3, y4, y5, y6, y7, y8, y9, y10, y11, y12⟩ := imp_loop hc hl hTS hTV hT0 r (done ++ [⟨kd, kp, km, kn, kk⟩]) (fun k hk => hih k (List.mem_cons_of_mem _ hk)) (by rw [he]; simp) _ B1 sh1 P1 ns1 (kl ++ [id]) k02 i2 ip1 (by omega) ((hv.ext ie1).snoc v1) (by rw [List.length_set]; exact hT1l) hno1 hT2
    refine ⟨H, kl', B', sh', P', ns', ?_, y2, y3, y4, by rw [tvarss]; exact ie1.trans y5, by rw [tszs]; omega, by rw [tszs, List.length_cons]; omega, kT.trans y8, har2.trans y9 kT.1, nwh.trans y10 kT.1, y11, y12⟩
    have hlen2 : (done ++ [Tm.mk kd kp km kn kk]).length = done.length + 1 := by simp
    rw [hlen2] at y1
    rw [← y1]
    have hll : l.length = done.length + (r.length + 1) := by rw [he]; simp
    have hlt : (done.length : Int) < (l.length : Int) := by omega
    have htn : ((done.length : Int)).toNat = done.length := by omega
    have hat : (l.map tmV)[done.length]? = some (.agg [.int kd, .str (txt kp), .str (txt km), .int kn, .slc false (kk.map tmV)]) := by
      rw [he]; simp [tmV_mk]
    have yb : hget H1 h.length = .vars [.int kd, .str (txt kp), .str (txt km), .int kn, .slc false (kk.map tmV)] := ku1.2 _ _ hget_last (by simp) (by omega) (by have := hlt_of hi.ms (by simp); omega) (by have := hlt_of hi.ms (by simp); omega) (by simp)
    have hgT : ((ints kl ++ 0 :: List.replicate r.length 0).map AV.int)[done.length]? = some (.int 0) := by
      have := hv.1
      rw [List.getElem?_map, List.getElem?_append_right (by rw [ints_len]; omega), ints_len, show done.length - kl.length = 0 by omega]
      rfl
    have hset : ((ints kl ++ 0 :: List.replicate r.length 0).map AV.int).set done.length (.int (id : Int)) = (ints (kl ++ [id]) ++ List.replicate r.length 0).map AV.int := by
      have := hv.1
      rw [List.map_append, List.map_cons, ints_append, List.append_assoc, List.map_append]
      rw [List.set_append_right _ _ (by simp [ints_len]; omega)]
      simp only [List.length_map, ints_len]
      rw [show done.length - kl.length = 0 by omega]
      rfl
    have hstp : septr true 1 (.int (id : Int)) 0 1 done.length 0 H1 T (.arr 1 ((ints kl ++ 0 :: List.replicate r.length 0).map AV.int) 0) = some (H1.set T (.arr 1 ((ints (kl ++ [id]) ++ List.replicate r.length 0).map AV.int) 0)) := by
      rw [← hset]
      exact septr_int _ hgT
    unfold TI at hT1
    rw [lrun_atC loop39_0]
    simp (implicitDefEqProofs := false) (disch := omega) only [go_sem, seval, rgn Tryd.f39 11 rfl, rgn Tryd.f39 12 rfl, rgn Tryd.f39 13 rfl, rgn Tryd.f39 14 rfl, hlt, htn, hat, hget_last, set_last, c1, hT1, hstp, yb, hgT]
    all_goals (congr 1 <;> simp only [List.cons.injEq, AV.val.injEq, Value.int.injEq, Value.bool.injEq, true_and, and_true] <;> omega)
set_option maxHeartbeats 8000000 in
theorem imp_node (hc : callable Tryd.prog f = true) (k : Int) (p m : List UInt8) (n : Int) (l : List Tm) (ht : Tm.ty ⟨k, p, m, n, l⟩) (hft : Tm.fit ⟨k, p, m, n, l⟩) (hk1 : k ≠ 1) (hih : ∀ x ∈ l, ImpOk S V f caps h0 x) : ImpOk S V f caps h0 ⟨k, p, m, n, l⟩ := by
  intro h B sh P ns hk hi ip hbud
  rw [Tm.ty] at ht
  have hS : S < h.length := by obtain ⟨_, q, _⟩ := hi.sp; exact hlt_of q (by simp)
  have hVl : V < h.length := hlt_of hi.ms (by simp)
  have hts : tsz ⟨k, p, m, n, l⟩ = 1 + tszs l := by rw [tsz]
  have htv : tvars ⟨k, p, m, n, l⟩ = tvarss l := by rw [tvars, if_neg hk1]
  rw [hts] at hbud
  have hlen : ∀ l : List Tm, l.length ≤ tszs l := fun l => by
    induction l with
    | nil => simp
    | cons a r ih => rw [tszs]; have := tsz_pos a; simp; omega
  have hll := hlen l
  rw [htv, hts, tmV_mk]
  have hi1 := hi.app [.vars [.int k, .str (txt p), .str (txt m), .int n, .slc false (l.map tmV)]]
  have cf := full_c hi1.sp
  have hi2 := hi.app [.vars [.int k, .str (txt p), .str (txt m), .int n, .slc false (l.map tmV)], .arr 1 ((List.replicate l.length (0 : Int)).map AV.int) 0]
  have k2 := ku_app S V V h [.vars [.int k, .str (txt p), .str (txt m), .int n, .slc false (l.map tmV)], .arr 1 ((List.replicate l.length (0 : Int)).map AV.int) 0]
  have hno : NoT (h.length + 1) ns := fun n hn K g l' e => by
    obtain ⟨j, hj⟩ := List.mem_iff_getElem?.1 hn
    obtain ⟨s, hs⟩ := at_of_lt (l := sh) (i := j) (by rw [← hi.nr.1]; exact lt_of_at hj)
    rcases (hi.nr.2 j n s hj hs).kids with ⟨z, _⟩ | ⟨K', g', z, _, _, z4⟩
    · rw [z] at e; cases e
    · rw [z] at e
      simp only [AV.arr.injEq] at e
      have := hi.b
      omega
  have h0l := hk.1
  obtain ⟨H, kl, B', sh', P', ns', y1, y2, y3, y4, y5, y6, y7, y8, y9, y10, y11, y12⟩ := imp_loop (bx := h.length) (l := l) hc (by omega) (T := h.length + 1) (by omega) (by omega) (by omega) l [] hih rfl _ B sh P ns [] (hk.trans k2) hi2 ip (by omega) ⟨rfl, by simp⟩ (by simp) hno (sb_get1 _ _ _ rfl)
  have hb : hget H h.length = .vars [.int k, .str (txt p), .str (txt m), .int n, .slc false (l.map tmV)] := y8.2 _ _ (sb_get0 _ _ rfl) (by simp) (by omega) (by omega) (by omega) (by simp)
  have hkl := y4.1
  have hids : ∀ x ∈ kl, x < sh'.length := fun x hx => by
    obtain ⟨j, hj⟩ := List.mem_iff_getElem?.1 hx
    obtain ⟨t, ht⟩ := at_of_lt (l := l) (i := j) (by rw [← hkl]; exact lt_of_at hj)
    exact (y4.2 j x t hj ht).1
  obtain ⟨H4, B4, n4, c1, c2, c3, c4, c5, c6, c7⟩ := make_c2 y2.sp y2.nr y2.b (by omega) k p m y12 (by omega) hids
  rw [hkl] at c1
  have har : AR S h H4 := ((AR.app hS _).trans (y9.trans c6 y8.1) (by simp))
  have hku : Ku S V V h H4 := by
    have q := (k2.trans ((Ku.trans (Ku.refl _ _ _ _) (Ku.refl _ _ _ _)) : Ku S V V _ _))
    refine ⟨Nat.le_trans k2.1 (Nat.le_trans y8.1 c5.1), fun j o e z1 z2 z3 z4 z5 => c5.2 j o (y8.2 j o (k2.2 j o e z1 z2 z3 z4 z5) z1 z2 z3 (by have := hlt_of e z1; omega) z5) z1 z2 z5⟩
  have hms : MS H4 V P' := by have := y2.ms; unfold MS at this ⊢; exact c5.2 V _ this (by simp) hi.vs (by simp)
  have hI4 : IS H4 S B4 V (sh' ++ [⟨k, p, m, kl⟩]) P' (ns' ++ [n4]) := ⟨c2, c3, c4, hi.vs, hms⟩
  have hlH : h.length + 2 ≤ H.length := by have := y8.1; simp at this; omega
  have hNW : NW h ns (ns' ++ [n4]) := by
    obtain ⟨new, e1, e2⟩ := y10
    refine ⟨new ++ [n4], by rw [e1, List.append_assoc], fun x hx K g l e => ?_⟩
    rcases List.mem_append.1 hx with hx | hx
    · have := e2 x hx K g l e; simp at this; omega
    · rw [List.mem_singleton.1 hx] at e
      have := c7 K g l e; omega
  have hnl' := y10.le
  have e : aval Tryd.prog md fg 39 [.ptr S 0, .agg [.int k, .str (txt p), .str (txt m), .int n, .slc false (l.map tmV)], .mp V, .clo f [] caps] h = some (.int (sh'.length : Int), H4) := by
    simp only [List.length_nil, Int.natCast_zero, List.map_replicate] at y1
    have hmk := fun h => amake_85 h l.length (by omega)
    rw [aval_of Tryd.func39 body39 Tryd.results39 Tryd.ntmps39 ok39]
    simp (implicitDefEqProofs := false) (disch := omega) only [go_sem, seval, rgn Tryd.f39 0 rfl, rgn Tryd.f39 1 rfl, rgn Tryd.f39 3 rfl, rgn Tryd.f39 9 rfl, rgn Tryd.f39 10 rfl, rgn Tryd.f39 15 rfl, cf, hget_last, hk1, List.append_assoc, List.cons_append, List.nil_append, sb_get0, List.length_append, List.length_cons, List.length_nil, List.length_map, Int.toNat_natCast, y1, hb, c1, hmk, ato2_some]
  obtain ⟨H', B'', z1, z2, z3, z4⟩ := IS.end' md39 e hi hI4 hku hNW (.inl (by simp; omega)) har
  obtain ⟨ip2, ie2⟩ := ip_node (s := ⟨k, p, m, kl⟩) y3 hids hk1 (by dsimp only; omega) (by rw [Tm.fit] at hft; exact ⟨hft.1, hft.2.1, ht.1.1, ht.1.2.1⟩)
  have ie3 := y5.trans ie2
  rw [List.append_nil] at ie3
  refine ⟨H', sh'.length, B'', _, P', _, z1, z2, ip2, ie3, ⟨by simp, fun x hx => ?_, fun M hM => ?_⟩, by simp; omega, by rw [kc_add]; dsimp only; omega, z3, z4, hNW⟩
  · rw [htv] at hx; exact ie3.has x hx
  · rw [inst_mk, if_neg hk1, hM sh'.length ⟨k, p, m, kl⟩ (by rw [List.getElem?_append_right (Nat.le_refl _), Nat.sub_self]; rfl) hk1]
    congr 1
    apply List.ext_getElem?
    intro j
    rw [List.getElem?_map, List.getElem?_map]
    cases hj : kl[j]? with
    | none =>
      rw [List.getElem?_eq_none (by rw [← hkl]; exact List.getElem?_eq_none_iff.1 hj)]; rfl
    | some id =>
      obtain ⟨t, ht⟩ := at_of_lt (l := l) (i := j) (by rw [← hkl]; exact lt_of_at hj)
      rw [ht, Option.map_some, Option.map_some]
      have := (y4.2 j id t hj ht).2.2 M (con_pre hM)
      rw [this]
mutual
theorem imp_all (hc : callable Tryd.prog f = true) (hfr : Fr S V f caps h0) : ∀ t : Tm, t.ty → t.fit → ImpOk S V f caps h0 t
  | .mk k p m n l, ht, hft => by
    by_cases hk : k = 1
    · subst hk; exact imp_var hc hfr p m n l ht
    · exact imp_node hc k p m n l ht hft hk (imp_alls hc hfr l (by rw [Tm.ty] at ht; exact ht.2) (by rw [Tm.fit] at hft; exact hft.2.2.2))
theorem imp_alls (hc : callable Tryd.prog f = true) (hfr : Fr S V f caps h0) : ∀ l : List Tm, Tm.tys l → Tm.fits l → ∀ x ∈ l, ImpOk S V f caps h0 x
  | [], _, _, x, hx => by cases hx
  | t :: r, ht, hft, x, hx => by
    rw [Tm.tys] at ht
    rw [Tm.fits] at hft
    rcases List.mem_cons.1 hx with e | hx
    · rw [e]; exact imp_all hc hfr t ht.1 hft.1
    · exact imp_alls hc hfr r ht.2 hft.2 x hx
end
end
def cap (n : Nat) : Nat := min n 1001
theorem cap_le (n : Nat) : cap n ≤ 1001 := by unfold cap; omega
theorem cap_add (a b : Nat) : cap (cap a + cap b) = cap (a + b) := by unfold cap; omega
theorem cap_big {n : Nat} : cap n ≤ 1000 ↔ n ≤ 1000 := by unfold cap; omega
section
variable {S B Z : Nat} {b w : Int} {fl : Bool} {sh : List Sh} {rt r : Nat → Nat} {vis : Nat → Bool} {T : Nat → Tm}
def SzV (T : Nat → Tm) (Q : NMap) : Prop := ∀ (k n : Nat), mg Q k = some n → n = cap (tsz (T k))
def SzOk (S B Z : Nat) (b w : Int) (fl : Bool) (sh : List Sh) (rt r : Nat → Nat) (vis : Nat → Bool) (T : Nat → Tm) (i : Nat) : Prop := ∀ (h : AHeap) (ns : List Nd) (Q : NMap), SP h S ns b fl w → NR h S B sh rt r vis w ns → MN h Z Q → SzV T Q →
  ∃ H ns' Q', doCall md (aval Tryd.prog md fg) 49 [.ptr S 0, .int (i : Nat), .mp Z] h = some (.int (cap (tsz (T i)) : Nat), H) ∧ SP H S ns' b fl w ∧ NR H S B sh rt r vis w ns' ∧ MN H Z Q' ∧ SzV T Q' ∧ Ku S Z Z h H ∧ H.length = h.length
def sumT (T : Nat → Tm) (l : List Nat) : Nat := (l.map fun k => tsz (T k)).sum
theorem tszs_map (T : Nat → Tm) : ∀ l : List Nat, tszs (l.map T) = sumT T l
  | [] => by simp [tszs, sumT]
  | a :: r => by rw [List.map_cons, tszs, tszs_map T r]; simp [sumT]
set_option maxHeartbeats 8000000 in
theorem size_loop (hZS : Z ≠ S) (hBZ : B ≤ Z) {kv : AV} {kl : List Nat} (hkl : kl.length ≤ 100000) {i : Nat} : ∀ (rem done : List Nat), (∀ k ∈ rem, SzOk S B Z b w fl sh rt r vis T k) → kl = done ++ rem → ∀ (h : AHeap) (ns : List Nd) (Q : NMap) (n : Nat), SP h S ns b fl w → NR h S B sh rt r vis w ns → MN h Z Q → SzV T Q → KB h S B kv (ints kl) → n ≤ 1001 →
    ∃ H ns' Q' n', lrun Tryd.prog md fg (fg 49) (loopOf Tryd.f49 0) (fg 49 1) (((.ptr S 0) :: (.int i) :: (.mp Z) :: .unk :: .unk :: .unk :: .unk :: .unk :: .unk :: (.int (n : Nat)) :: .unk :: .unk :: .unk :: .unk :: .unk :: .unk :: .unk :: .unk :: .unk :: .unk :: .unk :: .unk :: .unk :: .unk :: .unk :: .unk :: .unk :: .unk :: .unk :: .unk :: (kv) :: (.int kl.length) :: (.int done.length) :: .unk :: .unk :: .unk :: .unk :: .unk :: .unk :: .unk :: .unk :: .unk :: .unk :: .unk :: .unk :: .unk :: .unk :: .unk :: [] : List AV)) h = some (.exit 0, ((.ptr S 0) :: (.int i) :: (.mp Z) :: .unk :: .unk :: .unk :: .unk :: .unk :: .unk :: (.int (n' : Nat)) :: .unk :: .unk :: .unk :: .unk :: .unk :: .unk :: .unk :: .unk :: .unk :: .unk :: .unk :: .unk :: .unk :: .unk :: .unk :: .unk :: .unk :: .unk :: .unk :: .unk :: (kv) :: (.int kl.length) :: (.int kl.length) :: .unk :: .unk :: .unk :: .unk :: .unk :: .unk :: .unk :: .unk :: .unk :: .unk :: .unk :: .unk :: .unk :: .unk :: .unk :: [] : List AV), H) ∧ SP H S ns' b fl w ∧ NR H S B sh rt r vis w ns' ∧ MN H Z Q' ∧ SzV T Q' ∧ Ku S Z Z h H ∧ H.length = h.length ∧ n' = cap (n + sumT T rem)
  | [], done, hih, he, h, ns, Q, n, hs, hn, hm, hq, hkb, hn1 => by
    rw [List.append_nil] at he
    subst he
    refine ⟨h, ns, Q, n, ?_, hs, hn, hm, hq, Ku.refl _ _ _ _, rfl, by simp [sumT, cap]; omega⟩
    rw [lrun_atC loop49_0]
    simp (implicitDefEqProofs := false) (disch := omega) only [go_sem, seval, rgn Tryd.f49 7 rfl]
  | k :: rem, done, hih, he, h, ns, Q, n, hs, hn, hm, hq, hkb, hn1 => by
    obtain ⟨H1, ns1, Q1, c1, c2, c3, c4, c5, c6, c7⟩ := hih k (List.mem_cons_self ..) h ns Q hs hn hm hq
    have hcap := cap_le (tsz (T k))
    obtain ⟨H, ns', Q', n', d1, d2, d3, d4, d5, d6, d7, d8⟩ := size_loop hZS hBZ hkl (i := i) rem (done ++ [k]) (fun x hx => hih x (List.mem_cons_of_mem _ hx)) (by rw [he]; simp) H1 ns1 Q1 (cap (n + tsz (T k))) c2 c3 c4 c5 (hkb.ku hBZ hBZ c6) (cap_le _)
    refine ⟨H, ns', Q', n', ?_, d2, d3, d4, d5, c6.trans d6, by omega, ?_⟩
    · have hlen : (done ++ [k]).length = done.length + 1 := by simp
      rw [hlen] at d1
      rw [← d1]
      rcases hkb with ⟨_, hkb2⟩ | ⟨K, g, rfl, hK, hKS, hKB⟩
      · have := congrArg List.length hkb2; rw [he] at this; simp [ints] at this
      have hll : kl.length = done.length + (rem.length + 1) := by rw [he]; simp
      have hlt : (done.length : Int) < (kl.length : Int) := by omega
      have htn : ((done.length : Int)).toNat = done.length := by omega
      have hat : ((ints kl).map AV.int)[done.length]? = some (.int (k : Int)) := by rw [he]; simp [ints]
      have hmin : (if (1001 : Int) < (n : Int) + (cap (tsz (T k)) : Nat) then (1001 : Int) else (n : Int) + (cap (tsz (T k)) : Nat)) = ((cap (n + tsz (T k)) : Nat) : Int) := by
        unfold cap at hcap ⊢
        split <;> omega
      rw [lrun_atC loop49_0]
      simp (implicitDefEqProofs := false) (disch := omega) only [go_sem, seval, rgn Tryd.f49 7 rfl, rgn Tryd.f49 8 rfl, rgn Tryd.f49 9 rfl, rgn Tryd.f49 10 rfl, hlt, htn, hK, hat, c1, hmin, ints_len]
      all_goals (congr 1 <;> simp only [List.cons.injEq, AV.val.injEq, Value.int.injEq, Value.bool.injEq, true_and, and_true] <;> omega)
    · rw [d8]
      simp only [sumT, List.map_cons, List.sum_cons]
      have h1 := cap_add (n + tsz (T k)) ((rem.map fun k => tsz (T k)).sum)
      have h2 := cap_add (cap (n + tsz (T k))) ((rem.map fun k => tsz (T k)).sum)
      have h3 : cap (cap (n + tsz (T k))) = cap (n + tsz (T k)) := by unfold cap; omega
      rw [h3] at h2
      rw [← h2, h1, Nat.add_assoc]
theorem sp_mapN {h : AHeap} {S V : Nat} {ns : List Nd} {b : Int} {f : Bool} {w : Int} (hs : SP h S ns b f w) (hV : V ≠ S) {P : NMap} (hm : MN h V P) (o : AObj) : SP (h.set V o) S ns b f w := by
  obtain ⟨nv, z1, z2⟩ := hs
  refine ⟨nv, by rw [hget_set_ne hV]; exact z1, ?_⟩
  rcases z2 with z2 | ⟨A', g', z2, z3⟩
  · exact .inl z2
  · exact .inr ⟨A', g', z2, by rw [hget_set_ne (by rintro rfl; unfold MN at hm; rw [hm] at z3; simp at z3)]; exact z3⟩
set_option maxHeartbeats 8000000 in
theorem size_step (ok : Ok sh rt r) (hT : Mod sh rt T) (hv1 : ∀ (v : Nat) (s : Sh), sh[v]? = some s → s.kind = 1 → rt v = v → tsz (T v) = 1) (hkc : kc sh ≤ 100000) (hZS : Z ≠ S) (hBZ : B ≤ Z) {i : Nat} (hi : i < sh.length) (hih : ∀ (s : Sh), sh[rt i]? = some s → ∀ k ∈ s.kids, SzOk S B Z b w fl sh rt r vis T k) : SzOk S B Z b w fl sh rt r vis T i := by
  intro h ns Q hs hn hm hq
  obtain ⟨H1, ns1, c1, c2, c3, c4, c5⟩ := find_c hi hs hn
  have hm1 : MN H1 Z Q := c4.2 Z _ hm (by simp) hZS (by simp)
  have lk := mn_look hm1 (rt i)
  have hTi := hT.1 i hi
  cases hmg : mg Q (rt i) with
  | some n =>
    rw [hmg] at lk
    simp only [Option.getD_some, Option.isSome_some] at lk
    have hn' := hq _ _ hmg
    rw [hn', ← hTi] at lk
    refine ⟨H1, ns1, Q, doCall_same md49 ?_ c5, c2, c3, hm1, hq, c4.ku Z Z, c5⟩
    rw [aval_of Tryd.func49 body49 Tryd.results49 Tryd.ntmps49 ok49]
    simp (implicitDefEqProofs := false) (disch := omega) only [go_sem, seval, rgn Tryd.f49 0 rfl, rgn Tryd.f49 1 rfl, rgn Tryd.f49 2 rfl, rgn Tryd.f49 3 rfl, rgn Tryd.f49 4 rfl, c1, aop_lookup, lk]
  | none =>
    rw [hmg] at lk
    simp only [Option.getD_none, Option.isSome_none] at lk
    obtain ⟨n, s, hx, hsx, q⟩ := c3.at (ok.lt i hi)
    have hkl : s.kids.length ≤ 100000 := by
      have : s.kids.length ≤ kc sh := by
        have : ∀ (l : List Sh) (j : Nat) (s : Sh), l[j]? = some s → s.kids.length ≤ kc l := fun l => by
          induction l with
          | nil => intro j s h; simp at h
          | cons a r ih =>
            intro j s h
            have e : kc (a :: r) = a.kids.length + kc r := by simp [kc]
            rw [e]
            cases j with
            | zero => simp at h; subst h; omega
            | succ j => have := ih j s (by simpa using h); omega
        exact this sh _ s hsx
      omega
    have hlen := kb_len q.kids
    rw [ints_len] at hlen
    obtain ⟨H2, ns2, Q2, n', d1, d2, d3, d4, d5, d6, d7, d8⟩ := size_loop (b := b) (w := w) (fl := fl) (sh := sh) (rt := rt) (r := r) (vis := vis) (T := T) hZS hBZ hkl (i := rt i) s.kids [] (hih s hsx) rfl H1 ns1 Q 1 c2 c3 hm1 hq q.kids (by omega)
    have hsz : tsz (T (rt i)) = 1 + sumT T s.kids := by
      by_cases hk : s.kind = 1
      · rw [hv1 _ s hsx hk (ok.idem i hi), ok.var _ s hsx hk]; rfl
      · rw [hT.2 _ s hsx hk, tsz, tszs_map]
    rw [← hsz, ← hTi] at d8
    rw [d8] at d1
    have hput := mn_put d4 (rt i) (cap (tsz (T i)))
    have hZl := hlt_of d4 (by simp)
    refine ⟨H2.set Z (.map (encM nV nV (mset Q2 (rt i) (cap (tsz (T i)))).1) (mset Q2 (rt i) (cap (tsz (T i)))).2), ns2, mset Q2 (rt i) (cap (tsz (T i))), doCall_same md49 ?_ (by rw [List.length_set]; omega), sp_mapN d2 hZS d4 _, d3.ku hBZ hBZ ⟨by rw [List.length_set]; exact Nat.le_refl _, fun j o e z1 z2 z3 z4 z5 => by rw [hget_set_ne (fun q => z3 q.symm)]; exact e⟩, hget_set_eq hZl, fun k n hk => ?_, ?_, by rw [List.length_set]; omega⟩
    · obtain ⟨A, g, h1, h2⟩ := sp_arr c2 (ne_of_at hx)
      have hlt := lt_of_at hx
      have ht : (((rt i : Nat) : Int)).toNat = rt i := by omega
      obtain ⟨k, p, m, ks, l, t, mk⟩ := n
      dsimp only at hlen d1
      simp only [List.length_nil, Int.natCast_zero, show ((1 : Nat) : Int) = 1 from rfl] at d1
      rw [aval_of Tryd.func49 body49 Tryd.results49 Tryd.ntmps49 ok49]
      simp (implicitDefEqProofs := false) (disch := omega) only [go_sem, seval, rgn Tryd.f49 0 rfl, rgn Tryd.f49 1 rfl, rgn Tryd.f49 2 rfl, rgn Tryd.f49 3 rfl, rgn Tryd.f49 5 rfl, rgn Tryd.f49 6 rfl, rgn Tryd.f49 11 rfl, rgn Tryd.f49 12 rfl, c1, aop_lookup, lk, h1, h2, List.getElem?_map, ht, hx, Option.map_some, ndV_mk, hlen, d1, hput, aop_mapUpdate]
    · rw [mg_mset] at hk
      split at hk
      · rename_i e; cases hk; rw [e, hTi]
      · exact d5 k n hk
    · have k := (c4.ku Z Z).trans d6
      exact ⟨by rw [List.length_set]; exact k.1, fun j o e z1 z2 z3 z4 z5 => by rw [hget_set_ne (fun q => z3 q.symm)]; exact k.2 j o e z1 z2 z3 z4 z5⟩
theorem size_all (ok : Ok sh rt r) (hT : Mod sh rt T) (hv1 : ∀ (v : Nat) (s : Sh), sh[v]? = some s → s.kind = 1 → rt v = v → tsz (T v) = 1) (hkc : kc sh ≤ 100000) (hZS : Z ≠ S) (hBZ : B ≤ Z) : ∀ (N i : Nat), r i < N → i < sh.length → SzOk S B Z b w fl sh rt r vis T i
  | 0, i, h, _ => by omega
  | N + 1, i, h, hi => size_step ok hT hv1 hkc hZS hBZ hi fun s hs k hk => by
    obtain ⟨a, b⟩ := ok.kid _ s k hs hk
    have := ok.le i hi
    exact size_all ok hT hv1 hkc hZS hBZ N k (by omega) a
end
theorem fin_sp {h H : AHeap} {r : AV} {S : Nat} {ns0 ns : List Nd} {b0 b : Int} {f0 f1 : Bool} {w0 w : Int} (h0 : SP h S ns0 b0 f0 w0) (h1 : SP H S ns b f1 w) (hl : h.length ≤ H.length) :
    ∃ H', (H' = H.take h.length ∧ below h.length r = true ∧ GcOk h.length h H ∨ H' = H ∧ ¬ (below h.length r = true ∧ GcOk h.length h H)) ∧ SP H' S ns b f1 w ∧ h.length ≤ H'.length ∧ ∀ j, j < h.length → hget H' j = hget H j := by
  obtain ⟨nv0, a1, a2⟩ := h0
  have hS := hlt_of a1 (by simp)
  by_cases hg : below h.length r = true ∧ GcOk h.length h H
  · obtain ⟨nv, c1, c2⟩ := h1
    refine ⟨_, .inl ⟨rfl, hg⟩, ⟨nv, by rw [hget_take hS]; exact c1, ?_⟩, by rw [List.length_take]; omega, fun j hj => hget_take hj⟩
    rcases c2 with c2 | ⟨A, g, rfl, c2⟩
    · exact .inl c2
    · refine .inr ⟨A, g, rfl, ?_⟩
      have hA : A < h.length := by
        rcases hg.2 S hS with e1 | e1
        · have := hget_of_at e1
          rw [c1, a1] at this
          simp only [AObj.vars.injEq, List.cons.injEq] at this
          rcases a2 with ⟨_, a2⟩ | ⟨A', g', a2, a3⟩
          · rw [a2] at this; cases this.1
          · rw [a2] at this
            have h5 := this.1
            simp only [AV.arr.injEq] at h5
            rw [h5.1]; exact hlt_of a3 (by simp)
        · rw [c1] at e1
          simp only [belowO, belowL, below, Bool.and_eq_true, decide_eq_true_eq] at e1
          exact e1.1
      rw [hget_take hA]; exact c2
  · exact ⟨_, .inr ⟨rfl, hg⟩, h1, hl, fun _ _ => rfl⟩
theorem doCall_rate5 {f : FuncId} {vs : List AV} {h H : AHeap} {r r' : AV} {ids : List Nat} {S : Nat} {ns0 ns : List Nd} {b0 b : Int} {f0 f1 : Bool} {w0 w : Int} (hm : md f = 3) (e : aval Tryd.prog md fg f vs h = some (r, H)) (h0 : SP h S ns0 b0 f0 w0) (h1 : SP H S ns b f1 w) (hl : h.length ≤ H.length) (hx : exp1 H expDepth r = some (r', ids)) (hids : ids = [] ∨ ∃ K es g, ids = [K] ∧ h.length ≤ K ∧ hget H K = .arr 5 es g) :
    ∃ H', doCall md (aval Tryd.prog md fg) f vs h = some (r', H') ∧ SP H' S ns b f1 w ∧ h.length ≤ H'.length ∧ ∀ j, j < h.length → hget H' j = hget H j := by
  have hS : S < h.length := by obtain ⟨_, q, _⟩ := h0; exact hlt_of q (by simp)
  have key : canFrz H ids = true ∧ SP (frzAll H ids) S ns b f1 w ∧ h.length ≤ (frzAll H ids).length ∧ ∀ j, j < h.length → hget (frzAll H ids) j = hget H j := by
    rcases hids with rfl | ⟨K, es, g, rfl, hK, hg⟩
    · exact ⟨rfl, h1, hl, fun _ _ => rfl⟩
    · have e1 : frzAll H [K] = H.set K (.frz 5 es g) := by simp only [frzAll, frz1, hg]
      refine ⟨by simp [canFrz, hg], ?_, by rw [e1, List.length_set]; exact hl, fun j hj => by rw [e1, hget_set_ne (by omega)]⟩
      rw [e1]
      obtain ⟨nv, z1, z2⟩ := h1
      refine ⟨nv, by rw [hget_set_ne (by omega)]; exact z1, ?_⟩
      rcases z2 with z2 | ⟨A', g', z2, z3⟩
      · exact .inl z2
      · exact .inr ⟨A', g', z2, by rw [hget_set_ne (by rintro rfl; rw [hg] at z3; simp at z3)]; exact z3⟩
  obtain ⟨k1, k2, k3, k4⟩ := key
  obtain ⟨H', c1, c2, c3, c4⟩ := fin_sp (r := r') h0 k2 k3
  refine ⟨H', ?_, c2, c3, fun j hj => by rw [c4 j hj, k4 j hj]⟩
  rw [doCall_0 (by omega)]
  unfold doCall0
  rw [if_neg (by omega)]
  unfold rated
  rw [if_pos hm, e]
  dsimp only
  rw [hx]
  dsimp only
  rw [if_pos k1]
  dsimp only
  rcases c1 with ⟨c1, c5⟩ | ⟨c1, c5⟩
  · rw [if_pos c5, c1]
  · rw [if_neg c5, c1]
theorem callD_64 {env : Env} {d d2 : Option Tmp} {ty : TypeId} {pos : String} {aft : Array Edge} {g : Option (Nat × Bool)} (cs : Array Operand) (ts : Array TypeId) (h0 h' : AHeap) (v : AV) (k : Env → AHeap → Option (Env × AHeap)) : callD Tryd.prog md ⟨d, .call ⟨.value (.func 64), cs, ts⟩, ty, pos, aft, g⟩ h0 (some (v, h')) d2 k env = k (aput env d2 v) h' := by
  have : effOp Tryd.prog md ⟨d, .call ⟨.value (.func 64), cs, ts⟩, ty, pos, aft, g⟩ = true := rfl
  simp [callD, this]
def fstN (P : SMap) (rt : Nat → Nat) (id : Nat) : List (List UInt8) → List UInt8
  | [] => []
  | n :: r => if rt (vmap P n) = id then n else fstN P rt id r
section
variable {S B V Zs : Nat} {b w : Int} {fl : Bool} {sh : List Sh} {rt r : Nat → Nat} {vis : Nat → Bool} {P : SMap} {nb : Bool} {N : List (List UInt8)}
set_option maxHeartbeats 8000000 in
theorem first_loop (hVS : V ≠ S) (hZS : Zs ≠ S) (hN : N.length ≤ 100000) {id : Nat} : ∀ (rem done : List (List UInt8)), N = done ++ rem → (∀ n ∈ rem, vmap P n < sh.length) → ∀ (h : AHeap) (ns : List Nd), SP h S ns b fl w → NR h S B sh rt r vis w ns → MS h V P → SO h Zs S V (.slc nb (N.map sV)) →
    ∃ H ns' res a4 a12 c, lrun Tryd.prog md fg (fg 56) (loopOf Tryd.f56 0) (fg 56 1) (((.ptr Zs 0) :: (.int id) :: .unk :: .unk :: (.val (.string ⟨#[]⟩)) :: .unk :: .unk :: .unk :: .unk :: .unk :: (.slc nb (N.map sV)) :: (.int N.length) :: (.int done.length) :: .unk :: .unk :: .unk :: .unk :: .unk :: .unk :: .unk :: .unk :: .unk :: .unk :: .unk :: .unk :: .unk :: .unk :: .unk :: .unk :: .unk :: .unk :: [] : List AV)) h = some (c, ((.ptr Zs 0) :: (.int id) :: .unk :: .unk :: (a4) :: .unk :: .unk :: .unk :: .unk :: .unk :: (.slc nb (N.map sV)) :: (.int N.length) :: (a12) :: .unk :: .unk :: .unk :: .unk :: .unk :: .unk :: .unk :: .unk :: .unk :: .unk :: .unk :: .unk :: .unk :: .unk :: .unk :: .unk :: .unk :: .unk :: [] : List AV), H) ∧ (c = .ret ∧ a4 = .str (txt (fstN P rt id rem)) ∨ c = .exit 0 ∧ res = true ∧ fstN P rt id rem = []) ∧ SP H S ns' b fl w ∧ NR H S B sh rt r vis w ns' ∧ Kf S h H ∧ H.length = h.length
  | [], done, he, hv, h, ns, hs, hn, hm, hz => by
    rw [List.append_nil] at he
    rw [← he]
    refine ⟨h, ns, true, .val (.string ⟨#[]⟩), .int N.length, .exit 0, ?_, .inr ⟨rfl, rfl, rfl⟩, hs, hn, Kf.refl S h, rfl⟩
    rw [lrun_atC loop56_0]
    simp (implicitDefEqProofs := false) (disch := omega) only [go_sem, seval, rgn Tryd.f56 2 rfl]
  | n :: rem, done, he, hv, h, ns, hs, hn, hm, hz => by
    obtain ⟨H1, ns1, c1, c2, c3, c4, c5⟩ := find_c (hv n (List.mem_cons_self ..)) hs hn
    have lk := (ms_look hm n).2
    change alookup _ _ _ _ _ _ = some (.int (vmap P n : Nat)) at lk
    have hll : N.length = done.length + (rem.length + 1) := by rw [he]; simp
    have hlt : (done.length : Int) < (N.length : Int) := by omega
    have htn : ((done.length : Int)).toNat = done.length := by omega
    have hat : (N.map sV)[done.length]? = some (.str (txt n)) := by rw [he]; simp [sV]
    unfold SO at hz
    have hz1 : hget H1 Zs = .vars [.ptr S 0, .mp V, .slc nb (N.map sV)] := c4.2 Zs _ hz (by simp) hZS (by simp)
    have lk1 : alookup Tryd.prog 68 H1 (.mp V) (.str (txt n)) false = some (.int (vmap P n : Nat)) := (ms_look (c4.2 V _ hm (by simp) hVS (by simp) : MS H1 V P) n).2
    by_cases hid : rt (vmap P n) = id
    · refine ⟨H1, ns1, true, .str (txt n), .int done.length, .ret, ?_, .inl ⟨rfl, by unfold fstN; rw [if_pos hid]⟩, c2, c3, c4, c5⟩
      have hid' : ((rt (vmap P n) : Nat) : Int) = (id : Int) := by rw [hid]
      rw [lrun_atC loop56_0]
      simp (implicitDefEqProofs := false) (disch := omega) only [go_sem, seval, rgn Tryd.f56 2 rfl, rgn Tryd.f56 3 rfl, rgn Tryd.f56 4 rfl, rgn Tryd.f56 5 rfl, hlt, htn, hat, hz, hz1, aop_lookup, lk, lk1, c1, hid', callD_64]
    · obtain ⟨H, ns', res, a4, a12, c, d1, d2, d3, d4, d5, d6⟩ := first_loop hVS hZS hN (id := id) rem (done ++ [n]) (by rw [he]; simp) (fun x hx => hv x (List.mem_cons_of_mem _ hx)) H1 ns1 c2 c3 (c4.2 V _ hm (by simp) hVS (by simp)) hz1
      have hlen : (done ++ [n]).length = done.length + 1 := by simp
      rw [hlen] at d1
      have hf : fstN P rt id (n :: rem) = fstN P rt id rem := if_neg hid
      refine ⟨H, ns', res, a4, a12, c, ?_, by rw [hf]; exact d2, d3, d4, c4.trans d5, by omega⟩
      rw [← d1]
      have hid' : ¬ ((rt (vmap P n) : Nat) : Int) = (id : Int) := by omega
      rw [lrun_atC loop56_0]
      simp (implicitDefEqProofs := false) (disch := omega) only [go_sem, seval, rgn Tryd.f56 2 rfl, rgn Tryd.f56 3 rfl, rgn Tryd.f56 4 rfl, rgn Tryd.f56 6 rfl, hlt, htn, hat, hz, hz1, aop_lookup, lk, lk1, c1, hid', callD_64]
      all_goals (congr 1 <;> simp only [List.cons.injEq, AV.val.injEq, Value.int.injEq, Value.bool.injEq, true_and, and_true] <;> omega)
theorem first_c (hVS : V ≠ S) (hZS : Zs ≠ S) (hN : N.length ≤ 100000) {id : Nat} (hv : ∀ n ∈ N, vmap P n < sh.length) {h : AHeap} {ns : List Nd} (hs : SP h S ns b fl w) (hn : NR h S B sh rt r vis w ns) (hm : MS h V P) (hz : SO h Zs S V (.slc nb (N.map sV))) :
    ∃ H ns', doCall md (aval Tryd.prog md fg) 56 [.ptr Zs 0, .int id] h = some (.str (txt (fstN P rt id N)), H) ∧ SP H S ns' b fl w ∧ NR H S B sh rt r vis w ns' ∧ Kf S h H ∧ H.length = h.length := by
  obtain ⟨H, ns', res, a4, a12, c, d1, d2, d3, d4, d5, d6⟩ := first_loop (id := id) hVS hZS hN N [] rfl hv h ns hs hn hm hz
  simp only [List.length_nil, Int.natCast_zero] at d1
  have hz' := hz
  unfold SO at hz'
  refine ⟨H, ns', doCall_same md56 ?_ d6, d3, d4, d5, d6⟩
  rcases d2 with ⟨rfl, rfl⟩ | ⟨rfl, rfl, e⟩
  · rw [aval_of Tryd.func56 body56 Tryd.results56 Tryd.ntmps56 ok56]
    simp (implicitDefEqProofs := false) (disch := omega) only [go_sem, seval, rgn Tryd.f56 0 rfl, rgn Tryd.f56 1 rfl, hz', List.length_map, d1]
  · rw [e, show AV.str (txt []) = .val (.string ⟨#[]⟩) from rfl]
    rw [aval_of Tryd.func56 body56 Tryd.results56 Tryd.ntmps56 ok56]
    simp (implicitDefEqProofs := false) (disch := omega) only [go_sem, seval, rgn Tryd.f56 0 rfl, rgn Tryd.f56 1 rfl, rgn Tryd.f56 7 rfl, hz', List.length_map, d1]
end
theorem exp_agg5 {H : AHeap} {v : AV} {us : List Tm} {ids : List Nat} (a b c d : Value) (hn : solid v = false) (e : exp1 H 59 v = some (.slc false (us.map tmV), ids)) : exp1 H expDepth (.agg [.val a, .val b, .val c, .val d, v]) = some (.agg [.val a, .val b, .val c, .val d, .slc false (us.map tmV)], ids) := by
  have hb : ∀ a : Value, exp1 H (58 + 1) (.val a) = some (.val a, []) := fun a => rfl
  show exp1 H (58 + 1 + 1) _ = _
  rw [exp1]
  have e : exp1 H (58 + 1) v = some (.slc false (us.map tmV), ids) := e
  simp only [solid, solidL, hn, Bool.false_and, Bool.and_false, Bool.true_and, if_false, Bool.false_eq_true, expL, hb, e, List.nil_append, List.append_nil, Option.map_some]
theorem headOk_tm (l : List Tm) : headOk 5 (l.map tmV) = true := by
  cases l with
  | nil => rfl
  | cons t r => obtain ⟨k, p, m, n, ks⟩ := t; rw [List.map_cons, tmV_mk]; rfl
theorem b31 : ((3 : Nat) == 1) = false := rfl
theorem solid_tmL : ∀ us : List Tm, solidL (us.map tmV) = true := fun us => by rw [← tmsV_eq]; exact solid_tms us
theorem call56 : callable Tryd.prog 56 = true := by kernel_rfl
def KT (h : AHeap) (n0 : Nat) (kt : AV) (l : List Tm) : Prop := (l = [] ∧ kt = .slc true []) ∨ ∃ K g, kt = .arr K 0 l.length g 5 ∧ hget h K = .arr 5 (l.map tmV) g ∧ n0 ≤ K
theorem kt_add {h : AHeap} {n0 : Nat} {kt : AV} {l : List Tm} (hk : KT h n0 kt l) (hl : l.length ≤ 100000) (h0 : n0 ≤ h.length) (t : Tm) : ∃ v H, (∀ z, appT (some (5, 72, z)) h kt (some [tmV t]) = some (v, H)) ∧ KT H n0 v (l ++ [t]) ∧ (h.length ≤ H.length ∧ ∀ j o, hget h j = o → o ≠ .dead → (n0 ≤ j → ∀ b c, o ≠ .arr 5 b c) → hget H j = o) ∧ fits 1 v = true ∧ v.cells = [v] := by
  have hh : headOk 5 [tmV t] = true := headOk_tm [t]
  rcases hk with ⟨rfl, rfl⟩ | ⟨K, g, rfl, h2, h3⟩
  · refine ⟨_, _, fun z => appT_slc _ _ _ _ _ hh rfl (by simp) (by simp), .inr ⟨h.length, 0, by simp, by rw [hget_last]; rfl, h0⟩, ⟨by simp, fun j o e h1 _ => by rw [hget_app _ (hlt_of e h1)]; exact e⟩, rfl, rfl⟩
  · refine ⟨_, _, fun z => appT_arr _ _ _ _ _ _ _ _ h2 (by simp) hh (by simp; omega), .inr ⟨K, g + 1, by simp, by rw [hget_set_eq (hlt_of h2 (by simp))]; simp, h3⟩, ⟨by simp, fun j o e h1 h4 => ?_⟩, rfl, rfl⟩
    rw [hget_set_ne (by rintro rfl; rw [h2] at e; exact h4 h3 _ _ e.symm)]; exact e
def Kt (S b8 n0 : Nat) (h H : AHeap) : Prop := h.length ≤ H.length ∧ ∀ j o, hget h j = o → o ≠ .dead → j ≠ S → j ≠ b8 → (∀ b c, o ≠ .arr 7 b c) → (n0 ≤ j → ∀ b c, o ≠ .arr 5 b c) → hget H j = o
theorem Kt.refl (S b8 n0 : Nat) (h : AHeap) : Kt S b8 n0 h h := ⟨Nat.le_refl _, fun _ _ e _ _ _ _ _ => e⟩
theorem Kt.trans {S b8 n0 : Nat} {a b c : AHeap} (x : Kt S b8 n0 a b) (y : Kt S b8 n0 b c) : Kt S b8 n0 a c := ⟨Nat.le_trans x.1 y.1, fun j o e h1 h2 h3 h4 h5 => y.2 j o (x.2 j o e h1 h2 h3 h4 h5) h1 h2 h3 h4 h5⟩
theorem Kf.kt {S : Nat} {a b : AHeap} (b8 n0 : Nat) (x : Kf S a b) : Kt S b8 n0 a b := ⟨x.1, fun j o e h1 h2 _ h4 _ => x.2 j o e h1 h2 h4⟩
section
variable {S B V Zs : Nat} {b w : Int} {fl : Bool} {sh : List Sh} {rt r : Nat → Nat} {vis : Nat → Bool} {P : SMap} {nb : Bool} {N : List (List UInt8)} {T : Nat → Tm}
def ToOk (S B V Zs : Nat) (b w : Int) (fl : Bool) (sh : List Sh) (rt r : Nat → Nat) (vis : Nat → Bool) (P : SMap) (nb : Bool) (N : List (List UInt8)) (T : Nat → Tm) (i : Nat) : Prop := ∀ (h : AHeap) (ns : List Nd), B ≤ h.length → SP h S ns b fl w → NR h S B sh rt r vis w ns → MS h V P → SO h Zs S V (.slc nb (N.map sV)) →
  ∃ H ns', doCall md (aval Tryd.prog md fg) 50 [.ptr S 0, .int (i : Nat), .clo 56 [.ptr Zs 0] []] h = some (tmV (T i), H) ∧ SP H S ns' b fl w ∧ NR H S B sh rt r vis w ns' ∧ Kf S h H
theorem KB.kt {h H : AHeap} {S B b8 n0 : Nat} (hB : B ≤ n0) (h8 : n0 ≤ b8) (k : Kt S b8 n0 h H) {v : AV} {kl : List Int} (x : KB h S B v kl) : KB H S B v kl := by
  rcases x with x | ⟨K, g, e1, e2, e3, e4⟩
  · exact .inl x
  · exact .inr ⟨K, g, e1, k.2 K _ e2 (by simp) e3 (by omega) (by simp) (by simp), e3, e4⟩
theorem NR.kt {h H : AHeap} {S B b8 n0 : Nat} (hB : B ≤ n0) (h8 : n0 ≤ b8) (k : Kt S b8 n0 h H) {sh : List Sh} {rt r : Nat → Nat} {vis : Nat → Bool} {w : Int} {ns : List Nd} (x : NR h S B sh rt r vis w ns) : NR H S B sh rt r vis w ns :=
  ⟨x.1, fun i n s h1 h2 => by
    have y := x.2 i n s h1 h2
    exact ⟨y.kind, y.pkg, y.name, y.kids.kt hB h8 k, y.to, y.mark, y.le⟩⟩
theorem sp_keep {h H : AHeap} {S : Nat} {ns : List Nd} {b : Int} {f : Bool} {w : Int} (hs : SP h S ns b f w) (h1 : hget H S = hget h S) (h2 : ∀ A es g, hget h A = .arr 7 es g → hget H A = .arr 7 es g) : SP H S ns b f w := by
  obtain ⟨nv, z1, z2⟩ := hs
  refine ⟨nv, by rw [h1]; exact z1, ?_⟩
  rcases z2 with z2 | ⟨A', g', z2, z3⟩
  · exact .inl z2
  · exact .inr ⟨A', g', z2, h2 _ _ _ z3⟩
set_option maxHeartbeats 8000000 in
theorem told_loop (hVS : V ≠ S) (hZS : Zs ≠ S) {n0 b6 b8 : Nat} (hSn : S < n0) (hVn : V < n0) (hZn : Zs < n0) (hB : B ≤ n0) (h68 : n0 ≤ b8) {kv : AV} {kl : List Nat} (hkl : kl.length ≤ 90000) (c0 c1 c2 c3 : AV) : ∀ (rem done : List Nat), (∀ k ∈ rem, ToOk S B V Zs b w fl sh rt r vis P nb N T k) → kl = done ++ rem → ∀ (h : AHeap) (ns : List Nd) (kt : AV), SP h S ns b fl w → NR h S B sh rt r vis w ns → MS h V P → SO h Zs S V (.slc nb (N.map sV)) → KB h S B kv (ints kl) → n0 ≤ h.length → hget h b8 = .vars [c0, c1, c2, c3, kt] → KT h n0 kt (done.map T) →
    ∃ H ns' kt', lrun Tryd.prog md fg (fg 50) (loopOf Tryd.f50 1) (fg 50 2) (((.ptr S 0) :: .unk :: (.clo 56 [.ptr Zs 0] []) :: .unk :: .unk :: .unk :: (.ptr b6 0) :: .unk :: (.ptr b8 0) :: .unk :: .unk :: .unk :: .unk :: .unk :: .unk :: .unk :: .unk :: .unk :: .unk :: .unk :: .unk :: .unk :: .unk :: .unk :: .unk :: .unk :: .unk :: .unk :: .unk :: .unk :: .unk :: .unk :: .unk :: .unk :: .unk :: .unk :: .unk :: .unk :: .unk :: .unk :: .unk :: .unk :: .unk :: (kv) :: (.int kl.length) :: (.int done.length) :: .unk :: .unk :: .unk :: .unk :: .unk :: .unk :: .unk :: .unk :: .unk :: .unk :: .unk :: .unk :: .unk :: .unk :: [] : List AV)) h = some (.exit 1, ((.ptr S 0) :: .unk :: (.clo 56 [.ptr Zs 0] []) :: .unk :: .unk :: .unk :: (.ptr b6 0) :: .unk :: (.ptr b8 0) :: .unk :: .unk :: .unk :: .unk :: .unk :: .unk :: .unk :: .unk :: .unk :: .unk :: .unk :: .unk :: .unk :: .unk :: .unk :: .unk :: .unk :: .unk :: .unk :: .unk :: .unk :: .unk :: .unk :: .unk :: .unk :: .unk :: .unk :: .unk :: .unk :: .unk :: .unk :: .unk :: .unk :: .unk :: (kv) :: (.int kl.length) :: (.int kl.length) :: .unk :: .unk :: .unk :: .unk :: .unk :: .unk :: .unk :: .unk :: .unk :: .unk :: .unk :: .unk :: .unk :: .unk :: [] : List AV), H) ∧ SP H S ns' b fl w ∧ NR H S B sh rt r vis w ns' ∧ Kt S b8 n0 h H ∧ hget H b8 = .vars [c0, c1, c2, c3, kt'] ∧ KT H n0 kt' (kl.map T)
  | [], done, hih, he, h, ns, kt, hs, hn, hm, hz, hkb, hl, h8, hkt => by
    rw [List.append_nil] at he
    subst he
    refine ⟨h, ns, kt, ?_, hs, hn, Kt.refl _ _ _ _, h8, hkt⟩
    rw [lrun_atC loop50_1]
    simp (implicitDefEqProofs := false) (disch := omega) only [go_sem, seval, rgn Tryd.f50 10 rfl]
  | k :: rem, done, hih, he, h, ns, kt, hs, hn, hm, hz, hkb, hl, h8, hkt => by
    obtain ⟨H1, ns1, d1, d2, d3, d4⟩ := hih k (List.mem_cons_self ..) h ns (by omega) hs hn hm hz
    have h8' : hget H1 b8 = .vars [c0, c1, c2, c3, kt] := d4.2 _ _ h8 (by simp) (by omega) (by simp)
    have hkt1 : KT H1 n0 kt (done.map T) := by
      rcases hkt with hkt | ⟨K, g, e1, e2, e3⟩
      · exact .inl hkt
      · exact .inr ⟨K, g, e1, d4.2 K _ e2 (by simp) (by omega) (by simp), e3⟩
    have hll : kl.length = done.length + (rem.length + 1) := by rw [he]; simp
    have hl1 := d4.1
    obtain ⟨v, H2, x1, x2, x3, x4, x5⟩ := kt_add hkt1 (by rw [List.length_map]; omega) (by omega) (T k)
    have h8l := hlt_of h8' (by simp)
    have h82 : hget H2 b8 = .vars [c0, c1, c2, c3, kt] := x3.2 _ _ h8' (by simp) (by simp)
    have kt2 : Kt S b8 n0 h (H2.set b8 (.vars [c0, c1, c2, c3, v])) := ⟨by rw [List.length_set]; have := x3.1; omega, fun j o e z1 z2 z3 z4 z5 => by
      rw [hget_set_ne (fun q => z3 q.symm)]
      exact x3.2 j o (d4.2 j o e z1 z2 z4) z1 z5⟩
    have s2 : SP (H2.set b8 (.vars [c0, c1, c2, c3, v])) S ns1 b fl w := sp_keep d2 (by
        rw [hget_set_ne (by omega)]
        obtain ⟨nv, q1, _⟩ := d2
        rw [q1]; exact x3.2 S _ q1 (by simp) (by simp)) (fun A es g q => by
        rw [hget_set_ne (by rintro rfl; rw [h8'] at q; cases q)]
        exact x3.2 A _ q (by simp) (by simp))
    have kt12 : Kt S b8 n0 H1 (H2.set b8 (.vars [c0, c1, c2, c3, v])) := ⟨by rw [List.length_set]; exact x3.1, fun j o e z1 z2 z3 z4 z5 => by
      rw [hget_set_ne (fun q => z3 q.symm)]; exact x3.2 j o e z1 z5⟩
    have hx2 : KT (H2.set b8 (.vars [c0, c1, c2, c3, v])) n0 v ((done ++ [k]).map T) := by
      rw [List.map_append, List.map_cons, List.map_nil]
      rcases x2 with ⟨q, _⟩ | ⟨K, g, e1, e2, e3⟩
      · simp at q
      · exact .inr ⟨K, g, e1, by rw [hget_set_ne (by rintro rfl; rw [h82] at e2; cases e2)]; exact e2, e3⟩
    have hm2 : MS (H2.set b8 (.vars [c0, c1, c2, c3, v])) V P := kt2.2 V _ hm (by simp) hVS (by omega) (by simp) (by simp)
    have hz2 : SO (H2.set b8 (.vars [c0, c1, c2, c3, v])) Zs S V (.slc nb (N.map sV)) := kt2.2 Zs _ hz (by simp) hZS (by omega) (by simp) (by simp)
    obtain ⟨H, ns', kt', e1, e2, e3, e4, e5, e6⟩ := told_loop hVS hZS hSn hVn hZn hB h68 hkl c0 c1 c2 c3 rem (done ++ [k]) (fun x hx => hih x (List.mem_cons_of_mem _ hx)) (by rw [he]; simp) _ ns1 v s2 (d3.kt hB h68 kt12) hm2 hz2 (hkb.kt hB h68 kt2) (by have := kt2.1; omega) (hget_set_eq (by have := x3.1; omega)) hx2
    refine ⟨H, ns', kt', ?_, e2, e3, kt2.trans e4, e5, e6⟩
    have hlen : (done ++ [k]).length = done.length + 1 := by simp
    rw [hlen] at e1
    rw [← e1]
    rcases hkb with ⟨_, hkb2⟩ | ⟨K, g, rfl, hK, hKS, hKB⟩
    · have := congrArg List.length hkb2; rw [he] at this; simp [ints] at this
    have hlt : (done.length : Int) < (kl.length : Int) := by omega
    have htn : ((done.length : Int)).toNat = done.length := by omega
    have hat : ((ints kl).map AV.int)[done.length]? = some (.int (k : Int)) := by rw [he]; simp [ints]
    generalize hTk : T k = tk at *
    obtain ⟨q1, q2, q3, q4, q5⟩ := tk
    rw [tmV_mk] at d1 x1
    rw [lrun_atC loop50_1]
    simp (implicitDefEqProofs := false) (disch := omega) only [go_sem, seval, rgn Tryd.f50 10 rfl, rgn Tryd.f50 11 rfl, rgn Tryd.f50 12 rfl, rgn Tryd.f50 13 rfl, hlt, htn, hK, hat, ints_len, h8, h8', h82, d1, x1, x4, x5, thenDraw_append, thenDraw_store, md50, b31, Bool.false_or, beq_self_eq_true, Bool.true_or]
    all_goals (congr 1 <;> simp only [List.cons.injEq, AV.val.injEq, Value.int.injEq, Value.bool.injEq, true_and, and_true] <;> omega)
set_option maxHeartbeats 8000000 in
theorem told_step (ok : Ok sh rt r) (hT : Mod sh rt T) (hTv : ∀ (v : Nat) (s : Sh), sh[v]? = some s → s.kind = 1 → rt v = v → T v = ⟨1, [], fstN P rt v N, 0, []⟩) (hkc : kc sh ≤ 90000) (hVS : V ≠ S) (hZS : Zs ≠ S) (hN : N.length ≤ 90000) (hNv : ∀ n ∈ N, vmap P n < sh.length) {i : Nat} (hi : i < sh.length) (hih : ∀ (s : Sh), sh[rt i]? = some s → ∀ k ∈ s.kids, ToOk S B V Zs b w fl sh rt r vis P nb N T k) : ToOk S B V Zs b w fl sh rt r vis P nb N T i := by
  intro h ns hB hs hn hm hz
  have hS : S < h.length := by obtain ⟨_, q, _⟩ := hs; exact hlt_of q (by simp)
  have hVl := hlt_of hm (by simp)
  have hZl := hlt_of hz (by simp)
  have k0 := kf_app S h [AObj.vars [.val (.int .i64 0), .val (.string ⟨#[]⟩), .val (.string ⟨#[]⟩), .val (.int .i64 0), .slc true []]]
  obtain ⟨H1, ns1, c1, c2, c3, c4, c5⟩ := find_c hi (sp_app hs [AObj.vars [.val (.int .i64 0), .val (.string ⟨#[]⟩), .val (.string ⟨#[]⟩), .val (.int .i64 0), .slc true []]]) (hn.kf k0)
  simp only [List.length_append, List.length_cons, List.length_nil] at c5
  have hTi := hT.1 i hi
  obtain ⟨n, s, hx, hsx, q⟩ := c3.at (ok.lt i hi)
  obtain ⟨A, g, h1, h2⟩ := sp_arr c2 (ne_of_at hx)
  have hlt := lt_of_at hx
  have ht : (((rt i : Nat) : Int)).toNat = rt i := by omega
  have hk5 : n.kind ≠ 5 := by rw [q.kind]; exact ok.rig _ s hsx
  have k01 := k0.trans c4
  have hb6 : hget H1 h.length = .vars [.val (.int .i64 0), .val (.string ⟨#[]⟩), .val (.string ⟨#[]⟩), .val (.int .i64 0), .slc true []] := c4.2 _ _ hget_last (by simp) (by omega) (by simp)
  by_cases hk : s.kind = 1
  · have hk1 : n.kind = 1 := by rw [q.kind]; exact hk
    obtain ⟨k, p, m, ks, l, t, mk⟩ := n
    dsimp only at hk1 hk5
    subst hk1
    have k1 := kf_app S H1 [AObj.vars [.int 1, .str (txt p), .str (txt m), ks, .int l, .int t, .int mk]]
    have kk := k01.trans k1
    obtain ⟨H2, ns2, d1, d2, d3, d4, d5⟩ := first_c (N := N) (nb := nb) (id := rt i) hVS hZS (by omega) hNv (sp_app c2 [AObj.vars [.int 1, .str (txt p), .str (txt m), ks, .int l, .int t, .int mk]]) (c3.kf k1) (kk.2 V _ hm (by simp) hVS (by simp)) (kk.2 Zs _ hz (by simp) hZS (by simp))
    have hb62 : hget H2 h.length = .vars [.val (.int .i64 0), .val (.string ⟨#[]⟩), .val (.string ⟨#[]⟩), .val (.int .i64 0), .slc true []] := (k1.trans d4).2 _ _ hb6 (by simp) (by omega) (by simp)
    have hb6l := hlt_of hb62 (by simp)
    have hall := k01.trans (k1.trans d4)
    have hTv' := hTv _ s hsx hk (ok.idem i hi)
    have e : aval Tryd.prog md fg 50 [.ptr S 0, .int (i : Nat), .clo 56 [.ptr Zs 0] []] h = some (.agg [.int 1, .val (.string ⟨#[]⟩), .str (txt (fstN P rt (rt i) N)), .val (.int .i64 0), .slc true []], H2.set h.length (.vars [.int 1, .val (.string ⟨#[]⟩), .str (txt (fstN P rt (rt i) N)), .val (.int .i64 0), .slc true []])) := by
      rw [aval_of Tryd.func50 body50 Tryd.results50 Tryd.ntmps50 ok50]
      simp (implicitDefEqProofs := false) (disch := first | omega | exact List.length_set) only [go_sem, seval, rgn Tryd.f50 0 rfl, rgn Tryd.f50 1 rfl, rgn Tryd.f50 2 rfl, rgn Tryd.f50 3 rfl, rgn Tryd.f50 4 rfl, rgn Tryd.f50 5 rfl, c1, h1, h2, List.getElem?_map, ht, hx, Option.map_some, ndV_mk, hget_last, set_last, hget_app, d1, hb62, hb6, hget_set_eq, call56, if_true, aresults, tupOf, List.nil_append, List.cons_append, List.append_nil]
    have s2 : SP (H2.set h.length (.vars [.int 1, .val (.string ⟨#[]⟩), .str (txt (fstN P rt (rt i) N)), .val (.int .i64 0), .slc true []])) S ns2 b fl w := sp_keep d2 (hget_set_ne (by omega)) (fun A es g q => by rw [hget_set_ne (by rintro rfl; rw [hb62] at q; cases q)]; exact q)
    obtain ⟨H, f1, f2, f3, f4⟩ := doCall_rate5 md50 e hs s2 (by rw [List.length_set]; exact hall.1) (exp_agg5 (us := []) _ _ _ _ rfl rfl) (.inl rfl)
    refine ⟨H, ns2, ?_, f2, d3.agree hB (fun j hj => by rw [f4 j hj, hget_set_ne (by omega)]), ⟨f3, fun j o e z1 z2 z3 => by
      have := hlt_of e z1
      rw [f4 j this, hget_set_ne (by omega)]
      exact hall.2 j o e z1 z2 z3⟩⟩
    rw [f1, hTi, hTv', tmV_mk]; rfl
  · have hk1 : ¬ n.kind = 1 := by rw [q.kind]; exact hk
    have hkk := q.kind
    have hpp := q.pkg
    have hmm := q.name
    have hkb := q.kids
    have hlen := kb_len q.kids
    rw [ints_len] at hlen
    obtain ⟨k, p, m, ks, l, t, mk⟩ := n
    dsimp only at hk1 hk5 hkk hpp hmm hkb hlen
    have hkl : s.kids.length ≤ 90000 := by
      have : ∀ (l : List Sh) (j : Nat) (s : Sh), l[j]? = some s → s.kids.length ≤ kc l := fun l => by
        induction l with
        | nil => intro j s h; simp at h
        | cons a r ih =>
          intro j s h
          have e : kc (a :: r) = a.kids.length + kc r := by simp [kc]
          rw [e]
          cases j with
          | zero => simp at h; subst h; omega
          | succ j => have := ih j s (by simpa using h); omega
      have := this sh _ s hsx
      omega
    have k1 := kf_app S H1 [AObj.vars [.int k, .str (txt p), .str (txt m), ks, .int l, .int t, .int mk], AObj.vars [.int k, .str (txt p), .str (txt m), .val (.int .i64 0), .slc true []]]
    have kk := k01.trans k1
    have hb61 : hget (H1 ++ [AObj.vars [.int k, .str (txt p), .str (txt m), ks, .int l, .int t, .int mk], AObj.vars [.int k, .str (txt p), .str (txt m), .val (.int .i64 0), .slc true []]]) h.length = _ := (hget_app _ (by omega)).trans hb6
    obtain ⟨H2, ns2, kt', d1, d2, d3, d4, d5, d6⟩ := told_loop (n0 := h.length) (b6 := h.length) (b8 := h.length + 2) (b := b) (w := w) (fl := fl) (sh := sh) (rt := rt) (r := r) (vis := vis) (P := P) (nb := nb) (N := N) (T := T) hVS hZS hS hVl hZl hB (by omega) hkl (.int k) (.str (txt p)) (.str (txt m)) (.val (.int .i64 0)) s.kids [] (hih s hsx) rfl (H1 ++ [AObj.vars [.int k, .str (txt p), .str (txt m), ks, .int l, .int t, .int mk], AObj.vars [.int k, .str (txt p), .str (txt m), .val (.int .i64 0), .slc true []]]) ns1 (.slc true []) (sp_app c2 _) (c3.kf k1) (kk.2 V _ hm (by simp) hVS (by simp)) (kk.2 Zs _ hz (by simp) hZS (by simp)) (hkb.kf k1) (by simp; omega) (by
      have : h.length + 2 = H1.length + 1 := by omega
      rw [this]; exact sb_get1 _ _ _ rfl) (.inl ⟨rfl, rfl⟩)
    have hb62 : hget H2 h.length = .vars [.val (.int .i64 0), .val (.string ⟨#[]⟩), .val (.string ⟨#[]⟩), .val (.int .i64 0), .slc true []] := d4.2 _ _ hb61 (by simp) (by omega) (by omega) (by simp) (by simp)
    have hb6l := hlt_of hb62 (by simp)
    have e : aval Tryd.prog md fg 50 [.ptr S 0, .int (i : Nat), .clo 56 [.ptr Zs 0] []] h = some (.agg [.int k, .str (txt p), .str (txt m), .val (.int .i64 0), kt'], H2.set h.length (.vars [.int k, .str (txt p), .str (txt m), .val (.int .i64 0), kt'])) := by
      simp only [List.length_nil, Int.natCast_zero] at d1
      have e2 : h.length + 2 = H1.length + 1 := by omega
      rw [e2] at d1 d5
      have a1 : ∀ a b : AObj, H1 ++ [a] ++ [b] = H1 ++ [a, b] := fun a b => by simp
      have a2 : ∀ a : AObj, (H1 ++ [a]).length = H1.length + 1 := fun a => by simp
      rw [aval_of Tryd.func50 body50 Tryd.results50 Tryd.ntmps50 ok50]
      simp (implicitDefEqProofs := false) (disch := first | omega | exact List.length_set) only [go_sem, seval, rgn Tryd.f50 0 rfl, rgn Tryd.f50 1 rfl, rgn Tryd.f50 2 rfl, rgn Tryd.f50 3 rfl, rgn Tryd.f50 4 rfl, rgn Tryd.f50 6 rfl, rgn Tryd.f50 8 rfl, rgn Tryd.f50 9 rfl, rgn Tryd.f50 14 rfl, c1, h1, h2, List.getElem?_map, ht, hx, Option.map_some, ndV_mk, hget_last, set_last, hget_app, sb_get0, sb_get1, hb62, hb6, hget_set_eq, aresults, tupOf, List.append_assoc, List.nil_append, List.cons_append, List.append_nil, hk1, hk5, hlen, d1, d5, List.length_append, List.length_cons, List.length_nil, sb_set1]
    have kf : h.length ≤ H2.length := by have := d4.1; simp at this; omega
    have s2 : SP (H2.set h.length (.vars [.int k, .str (txt p), .str (txt m), .val (.int .i64 0), kt'])) S ns2 b fl w := sp_keep d2 (hget_set_ne (by omega)) (fun A es g q => by rw [hget_set_ne (by rintro rfl; rw [hb62] at q; cases q)]; exact q)
    have hx : solid kt' = false ∧ ∃ ids, exp1 (H2.set h.length (.vars [.int k, .str (txt p), .str (txt m), .val (.int .i64 0), kt'])) 59 kt' = some (.slc false ((s.kids.map T).map tmV), ids) ∧ (ids = [] ∨ ∃ K es g, ids = [K] ∧ h.length ≤ K ∧ hget (H2.set h.length (.vars [.int k, .str (txt p), .str (txt m), .val (.int .i64 0), kt'])) K = .arr 5 es g) := by
      rcases d6 with ⟨e1, e2⟩ | ⟨K, g, e1, e2, e3⟩
      · rw [e1, e2]; exact ⟨rfl, [], rfl, .inl rfl⟩
      · have hg : hget (H2.set h.length (.vars [.int k, .str (txt p), .str (txt m), .val (.int .i64 0), kt'])) K = .arr 5 ((s.kids.map T).map tmV) g := by rw [hget_set_ne (by rintro rfl; rw [hb62] at e2; cases e2)]; exact e2
        have := arr_exp hg (solid_tmL _) 58
        rw [e1] at hg ⊢
        refine ⟨rfl, [K], ?_, .inr ⟨K, _, g, rfl, e3, hg⟩⟩
        rw [List.length_map (f := tmV), e1] at this
        exact this
    obtain ⟨x1, ids, x2, x3⟩ := hx
    obtain ⟨H, f1, f2, f3, f4⟩ := doCall_rate5 md50 e hs s2 (by rw [List.length_set]; exact kf) (exp_agg5 _ _ _ _ x1 x2) x3
    have kall : ∀ j o, hget h j = o → o ≠ .dead → j ≠ S → (∀ b c, o ≠ .arr 7 b c) → hget H2 j = o := fun j o e z1 z2 z3 => by
      have := hlt_of e z1
      exact d4.2 j o (kk.2 j o e z1 z2 z3) z1 z2 (by omega) z3 (by omega)
    refine ⟨H, ns2, ?_, f2, d3.agree hB (fun j hj => by rw [f4 j hj, hget_set_ne (by omega)]), ⟨f3, fun j o e z1 z2 z3 => by
      have := hlt_of e z1
      rw [f4 j this, hget_set_ne (by omega)]
      exact kall j o e z1 z2 z3⟩⟩
    rw [f1, hTi, hT.2 _ s hsx hk, tmV_mk, hkk, hpp, hmm]
theorem told_all (ok : Ok sh rt r) (hT : Mod sh rt T) (hTv : ∀ (v : Nat) (s : Sh), sh[v]? = some s → s.kind = 1 → rt v = v → T v = ⟨1, [], fstN P rt v N, 0, []⟩) (hkc : kc sh ≤ 90000) (hVS : V ≠ S) (hZS : Zs ≠ S) (hN : N.length ≤ 90000) (hNv : ∀ n ∈ N, vmap P n < sh.length) : ∀ (M i : Nat), r i < M → i < sh.length → ToOk S B V Zs b w fl sh rt r vis P nb N T i
  | 0, i, h, _ => by omega
  | M + 1, i, h, hi => told_step ok hT hTv hkc hVS hZS hN hNv hi fun s hs k hk => by
    obtain ⟨a, b⟩ := ok.kid _ s k hs hk
    have := ok.le i hi
    exact told_all ok hT hTv hkc hVS hZS hN hNv M k (by omega) a
end
theorem fits_clo (f : FuncId) (a b : List AV) : fits 1 (.clo f a b) = true := rfl
theorem cells_clo (f : FuncId) (a b : List AV) : (AV.clo f a b).cells = [.clo f a b] := rfl
theorem vs_loop (ks : List Tm) (hl : ks.length ≤ 9223372036854775807) (hV : ∀ t ∈ ks, VT t) : ∀ (r : List Tm) (i : Nat) (h : AHeap) (out : List (List UInt8)), ks.drop i = r → i ≤ ks.length → WN h 0 out → hget h 1 = walkV → out.length + tszs r ≤ 100000 → ∃ h',
    lrun Tryd.prog md fg (fg 53) (loopOf Tryd.f53 0) (fg 53 1) ([.unk, .unk, .unk, .ptr 0 0, .ptr 1 0, .unk, .unk, .unk, .slc false (ks.map tmV), .int ks.length, .int i, .unk, .unk, .unk, .unk, .unk, .unk, .unk, .unk]) h = some (.exit 0, [.unk, .unk, .unk, .ptr 0 0, .ptr 1 0, .unk, .unk, .unk, .slc false (ks.map tmV), .int ks.length, .int ks.length, .unk, .unk, .unk, .unk, .unk, .unk, .unk, .unk], h') ∧ WN h' 0 (vsL out r) ∧ FrN 0 h h'
  | [], i, h, out, hdr, hi, hw, h1, hn => by
    have : i = ks.length := by have := congrArg List.length hdr; simp at this; omega
    subst this
    refine ⟨h, ?_, by rw [vsL]; exact hw, FrN.refl _ _⟩
    rw [lrun_atC loop53_0]
    simp (implicitDefEqProofs := false) (disch := omega) only [go_sem, seval, rgn Tryd.f53 5 rfl]
  | ⟨k2, p2, m2, n2, l2⟩ :: r, i, h, out, hdr, hi, hw, h1, hn => by
    have hx : ks[i]? = some ⟨k2, p2, m2, n2, l2⟩ := by have := congrArg (·[0]?) hdr; simpa using this
    have hlt : i < ks.length := (List.getElem?_eq_some_iff.1 hx).1
    have hd' : ks.drop (i + 1) = r := by rw [← List.tail_drop, hdr]; rfl
    have ht : ((i : Int)).toNat = i := by omega
    simp only [tszs] at hn
    have hvl := vsT_len ⟨k2, p2, m2, n2, l2⟩ out
    have g1 : ∀ l, hget (h ++ l) 1 = walkV := fun l => by rw [hget_app l (hlt_of h1 (by simp))]; exact h1
    obtain ⟨h2, e2, w2, f2⟩ := hV _ (List.mem_of_getElem? hx) (h ++ [.vars [.int k2, .str (txt p2), .str (txt m2), .int n2, .slc false (l2.map tmV)]]) out (wn_app h _ hw) (g1 _) (by omega)
    rw [tmV_mk] at e2
    obtain ⟨h3, e3, w3, f3⟩ := vs_loop ks hl hV r (i + 1) h2 (vsT out ⟨k2, p2, m2, n2, l2⟩) hd' (by omega) w2 (f2.2 1 _ (by decide) (g1 _)) (by omega)
    refine ⟨h3, ?_, by rw [vsL]; exact w3, (frN_app 0 h _).trans (f2.trans f3)⟩
    rw [← e3]
    rw [lrun_atC loop53_0]
    simp (implicitDefEqProofs := false) (disch := first | omega | exact List.length_set) only [go_sem, seval, rgn Tryd.f53 5 rfl, rgn Tryd.f53 6 rfl, rgn Tryd.f53 7 rfl, rgn Tryd.f53 8 rfl, List.getElem?_map, ht, hx, Option.map_some, tmV_mk, hget_last, set_last, g1, e2, List.nil_append, List.cons_append, callable_69]
    all_goals (congr 1 <;> simp only [List.cons.injEq, AV.val.injEq, Value.int.injEq, Value.bool.injEq, true_and, and_true] <;> omega)
set_option maxHeartbeats 4000000 in
theorem varsL_p (ts : List Tm) (ht : Tm.fits ts) (hl : ts.length ≤ 9223372036854775807) (hz : tszs ts ≤ 100000) : pcall Tryd.prog md fg 53 [.slc false (ts.map tmV)] = some (.slc false ((vsL [] ts).map sV)) := by
  have e : ∃ bv h, aval Tryd.prog md fg 53 [.slc false (ts.map tmV)] [] = some (bv, h) ∧ WN h 0 (vsL [] ts) ∧ hget h 0 = .vars [bv] := by
    obtain ⟨h2, e2, w2, f2⟩ := vs_loop ts hl (VT_alls ts ht) ts 0 [.vars [.slc true []], walkV] [] (by simp) (by omega) ⟨by simp, .inl ⟨rfl, rfl⟩⟩ rfl (by simpa using hz)
    have hb : ∃ bv, hget h2 0 = .vars [bv] := by
      obtain ⟨_, ⟨hb, _⟩ | ⟨k, g, _, _, hb, _⟩⟩ := w2
      · exact ⟨_, hb⟩
      · exact ⟨_, hb⟩
    obtain ⟨bv, hb⟩ := hb
    refine ⟨bv, h2, ?_, w2, hb⟩
    clear w2 f2
    simp only [Int.natCast_zero] at e2
    rw [aval_of Tryd.func53 body53 Tryd.results53 Tryd.ntmps53 ok53]
    simp (implicitDefEqProofs := false) (disch := omega) only [go_sem, seval, rgn Tryd.f53 0 rfl, rgn Tryd.f53 1 rfl, rgn Tryd.f53 2 rfl, rgn Tryd.f53 3 rfl, rgn Tryd.f53 4 rfl, List.length_map, fits_clo, cells_clo]
    simp (implicitDefEqProofs := false) (disch := omega) only [go_sem, seval, rgn Tryd.f53 9 rfl, e2, hb]
  obtain ⟨bv, h, e, w, hb⟩ := e
  obtain ⟨bv', ids, x1, x2, x3⟩ := names_exp w
  rw [hb] at x1
  cases x1
  rw [pcall_eq, e]
  unfold pureRes
  dsimp only
  rw [x2]
  dsimp only
  rw [if_pos x3]
def KV (h : AHeap) (n0 : Nat) (kt : AV) (l : List AV) : Prop := (l = [] ∧ kt = .slc true []) ∨ ∃ K g, kt = .arr K 0 l.length g 5 ∧ hget h K = .arr 5 l g ∧ n0 ≤ K
def Kb (n0 : Nat) (h H : AHeap) : Prop := h.length ≤ H.length ∧ ∀ j, j < n0 → hget H j = hget h j
theorem Kb.refl (n0 : Nat) (h : AHeap) : Kb n0 h h := ⟨Nat.le_refl _, fun _ _ => rfl⟩
theorem Kb.trans {n0 : Nat} {a b c : AHeap} (x : Kb n0 a b) (y : Kb n0 b c) : Kb n0 a c := ⟨Nat.le_trans x.1 y.1, fun j h => (y.2 j h).trans (x.2 j h)⟩
theorem kb_app' (h l : AHeap) : Kb h.length h (h ++ l) := ⟨by simp, fun j hj => hget_app l hj⟩
theorem kv_add {h : AHeap} {n0 : Nat} {kt : AV} {l : List AV} (hk : KV h n0 kt l) (hl : l.length ≤ 100000) (h0 : n0 ≤ h.length) (es : List AV) (hes : headOk 5 es = true) (hne : es ≠ []) (hel : es.length ≤ 10) : ∃ v H, (∀ z, appT (some (5, 72, z)) h kt (some es) = some (v, H)) ∧ KV H n0 v (l ++ es) ∧ Kb n0 h H ∧ fits 1 v = true ∧ v.cells = [v] := by
  rcases hk with ⟨rfl, rfl⟩ | ⟨K, g, rfl, h2, h3⟩
  · refine ⟨_, _, fun z => appT_slc _ _ _ _ _ hes rfl hne (by simp; omega), .inr ⟨h.length, 0, by simp, by rw [hget_last], h0⟩, ⟨by simp, fun j hj => hget_app _ (by omega)⟩, rfl, rfl⟩
  · refine ⟨_, _, fun z => appT_arr _ _ _ _ _ _ _ _ h2 rfl hes (by omega), .inr ⟨K, g + 1, by simp, by rw [hget_set_eq (hlt_of h2 (by simp))], h3⟩, ⟨by simp, fun j hj => hget_set_ne (by omega)⟩, rfl, rfl⟩
def vtV (n : List UInt8) : AV := .agg [.int 1, .val (.string ⟨#[]⟩), .val (.string (txt n)), .val (.int .i64 0), .slc true []]
set_option maxHeartbeats 4000000 in
theorem vt_loop (nb : Bool) (N : List (List UInt8)) (hN : N.length ≤ 90000) (n0 : Nat) : ∀ (rem done : List (List UInt8)), N = done ++ rem → ∀ (h : AHeap) (kt : AV), n0 ≤ h.length → KV h n0 kt (done.map vtV) →
    ∃ H kt', lrun Tryd.prog md fg (fg 54) (loopOf Tryd.f54 0) (fg 54 1) ([.unk, .unk, .unk, kt, .unk, .unk, .slc nb (N.map sV), .int N.length, .int done.length, .unk, .unk, .unk, .unk, .unk, .unk, .unk, .unk, .unk, .unk]) h = some (.exit 0, [.unk, .unk, .unk, kt', .unk, .unk, .slc nb (N.map sV), .int N.length, .int N.length, .unk, .unk, .unk, .unk, .unk, .unk, .unk, .unk, .unk, .unk], H) ∧ KV H n0 kt' (N.map vtV) ∧ Kb n0 h H
  | [], done, he, h, kt, h0, hk => by
    rw [List.append_nil] at he
    subst he
    refine ⟨h, kt, ?_, hk, Kb.refl _ _⟩
    rw [lrun_atC loop54_0]
    simp (implicitDefEqProofs := false) (disch := omega) only [go_sem, seval, rgn Tryd.f54 3 rfl]
  | n :: rem, done, he, h, kt, h0, hk => by
    have hll : N.length = done.length + (rem.length + 1) := by rw [he]; simp
    obtain ⟨v, H1, x1, x2, x3, x4, x5⟩ := kv_add hk (by rw [List.length_map]; omega) h0 [vtV n] rfl (by simp) (by simp)
    obtain ⟨H, kt', e1, e2, e3⟩ := vt_loop nb N hN n0 rem (done ++ [n]) (by rw [he]; simp) H1 v (by have := x3.1; omega) (by rw [List.map_append]; exact x2)
    refine ⟨H, kt', ?_, e2, x3.trans e3⟩
    have hlen : (done ++ [n]).length = done.length + 1 := by simp
    rw [hlen] at e1
    rw [← e1]
    have hlt : (done.length : Int) < (N.length : Int) := by omega
    have htn : ((done.length : Int)).toNat = done.length := by omega
    have hat : (N.map sV)[done.length]? = some (.val (.string (txt n))) := by rw [he]; simp [sV]
    unfold vtV at x1
    rw [lrun_atC loop54_0]
    simp (implicitDefEqProofs := false) (disch := omega) only [go_sem, seval, rgn Tryd.f54 3 rfl, rgn Tryd.f54 4 rfl, rgn Tryd.f54 5 rfl, rgn Tryd.f54 6 rfl, hlt, htn, hat, x1, x4, x5]
    all_goals (congr 1 <;> simp only [List.cons.injEq, AV.val.injEq, Value.int.injEq, Value.bool.injEq, true_and, and_true] <;> omega)
theorem varTerms_c (nb : Bool) (N : List (List UInt8)) (hN : N.length ≤ 90000) (h : AHeap) : ∃ H v, doCall md (aval Tryd.prog md fg) 54 [.slc nb (N.map sV)] h = some (v, H) ∧ KV H h.length v (N.map vtV) ∧ Kb h.length h H := by
  obtain ⟨H, kt', e1, e2, e3⟩ := vt_loop nb N hN h.length N [] rfl h (.slc true []) (Nat.le_refl _) (.inl ⟨rfl, rfl⟩)
  simp only [List.length_nil, Int.natCast_zero] at e1
  have e : aval Tryd.prog md fg 54 [.slc nb (N.map sV)] h = some (kt', H) := by
    rw [aval_of Tryd.func54 body54 Tryd.results54 Tryd.ntmps54 ok54]
    simp (implicitDefEqProofs := false) (disch := omega) only [go_sem, seval, rgn Tryd.f54 0 rfl, rgn Tryd.f54 1 rfl, rgn Tryd.f54 2 rfl, rgn Tryd.f54 7 rfl, List.length_map, e1]
  by_cases hne : N = []
  · subst hne
    rcases e2 with ⟨_, rfl⟩ | ⟨K, g, rfl, q1, q2⟩
    · rw [doCall_0 (by decide)]
      unfold doCall0
      rw [if_neg (by decide), rated_id (by decide), e]
      dsimp only
      split
      · exact ⟨_, _, rfl, .inl ⟨rfl, rfl⟩, by rw [List.length_take]; have := e3.1; omega, fun j hj => by rw [hget_take hj]; exact e3.2 j hj⟩
      · exact ⟨_, _, rfl, .inl ⟨rfl, rfl⟩, e3⟩
    · rw [doCall_0 (by decide)]
      unfold doCall0
      rw [if_neg (by decide), rated_id (by decide), e]
      dsimp only
      rw [if_neg (fun q => by have := q.1; simp [below] at this; omega)]
      exact ⟨_, _, rfl, .inr ⟨K, g, rfl, q1, q2⟩, e3⟩
  · rcases e2 with ⟨q, _⟩ | ⟨K, g, rfl, q1, q2⟩
    · simp at q; exact absurd q hne
    · rw [doCall_0 (by decide)]
      unfold doCall0
      rw [if_neg (by decide), rated_id (by decide), e]
      dsimp only
      rw [if_neg (fun q => by have := q.1; simp [below] at this; omega)]
      exact ⟨_, _, rfl, .inr ⟨K, g, rfl, q1, q2⟩, e3⟩
def vTm (n : List UInt8) : Tm := ⟨1, [], n, 0, []⟩
theorem exp_vt (h : AHeap) (n : List UInt8) : exp1 h 59 (vtV n) = some (tmV (vTm n), []) := by
  have hb : ∀ a : Value, exp1 h (57 + 1) (.val a) = some (.val a, []) := fun a => rfl
  have hs : exp1 h (57 + 1) (.slc true []) = some (.slc false [], []) := rfl
  show exp1 h (57 + 1 + 1) _ = _
  unfold vtV
  rw [exp1]
  unfold vTm
  rw [tmV_mk]
  simp only [solid, solidL, Bool.not_true, Bool.false_and, Bool.and_false, Bool.true_and, if_false, Bool.false_eq_true, expL, hb, hs, List.nil_append, List.append_nil, Option.map_some]
  rfl
theorem expL_app {α : Type} {F : AV → Option (AV × List Nat)} : ∀ {a b a' b' : List AV} {i j : List Nat}, expL F a = some (a', i) → expL F b = some (b', j) → expL F (a ++ b) = some (a' ++ b', i ++ j)
  | [], b, a', b', i, j, h1, h2 => by
    simp only [expL, Option.some.injEq, Prod.mk.injEq] at h1
    obtain ⟨rfl, rfl⟩ := h1
    exact h2
  | x :: r, b, a', b', i, j, h1, h2 => by
    rw [List.cons_append]
    unfold expL at h1 ⊢
    cases hx : F x with
    | none => rw [hx] at h1; simp at h1
    | some p =>
      rw [hx] at h1
      cases hr : expL F r with
      | none => rw [hr] at h1; simp at h1
      | some q =>
        obtain ⟨q1, q2⟩ := q
        rw [hr] at h1
        simp only [Option.some.injEq, Prod.mk.injEq] at h1
        obtain ⟨rfl, rfl⟩ := h1
        rw [expL_app (α := α) hr h2]
        simp
theorem expL_vt (h : AHeap) : ∀ N : List (List UInt8), expL (exp1 h 59) (N.map vtV) = some ((N.map vTm).map tmV, [])
  | [] => rfl
  | n :: r => by
    rw [List.map_cons, List.map_cons, List.map_cons]
    unfold expL
    rw [exp_vt, expL_vt h r]
    rfl
theorem solidL_one (t : Tm) (l : List AV) : solidL (tmV t :: l) = solidL l := by
  have := solid_tm t
  simp [solidL, this]
theorem arr_exp' {h : AHeap} {id g k : Nat} {es es' : List AV} (ho : hget h id = .arr k es g) (d : Nat) (hx : expL (exp1 h d) es = some (es', [])) : exp1 h (d + 1) (.arr id 0 es.length g k) = some (.slc false es', [id]) := by
  have hv : sview h (.arr id 0 es.length g k) = some es := sview_arr _ _ _ _ _ ho rfl
  simp only [exp1, hv, hx]
  rfl
theorem vars_hand {h : AHeap} {K g : Nat} {N : List (List UInt8)} {A B : Tm} (hK : hget h K = .arr 5 (N.map vtV ++ [tmV A, tmV B]) g) (hf : Tm.fits (N.map vTm ++ [A, B])) (hl : N.length ≤ 90000) (hz : tszs (N.map vTm ++ [A, B]) ≤ 100000) : ∃ H, doCall md (aval Tryd.prog md fg) 53 [.arr K 0 (N.map vtV ++ [tmV A, tmV B]).length g 5] h = some (.slc false ((vsL [] (N.map vTm ++ [A, B])).map sV), H) ∧ H.length = h.length ∧ (∀ j, j ≠ K → hget H j = hget h j) := by
  have hv : sview h (.arr K 0 (N.map vtV ++ [tmV A, tmV B]).length g 5) = some (N.map vtV ++ [tmV A, tmV B]) := sview_arr _ _ _ _ _ hK rfl
  have hx : expL (exp1 h 59) (N.map vtV ++ [tmV A, tmV B]) = some ((N.map vTm ++ [A, B]).map tmV, []) := by
    have h2 : expL (exp1 h 59) [tmV A, tmV B] = some ([tmV A, tmV B], []) := expL_solid (by rw [solidL_one, solidL_one]; rfl)
    have := expL_app (α := Nat) (expL_vt h N) h2
    rw [this]; simp
  have hs : expL (exp1 h expDepth) [.arr K 0 (N.map vtV ++ [tmV A, tmV B]).length g 5] = some ([.slc false ((N.map vTm ++ [A, B]).map tmV)], [K]) := by
    have h1 : exp1 h (59 + 1) (.arr K 0 (N.map vtV ++ [tmV A, tmV B]).length g 5) = some (.slc false ((N.map vTm ++ [A, B]).map tmV), [K]) := arr_exp' hK 59 hx
    show expL (exp1 h (59 + 1)) _ = _
    unfold expL
    rw [h1]
    rfl
  have hc : canFrz h [K] = true := by simp [canFrz, hK]
  rw [doCall_0 (by decide)]; unfold doCall0
  rw [if_pos (.inr (by decide)), hs]
  simp only [hc, if_true]
  rw [← pcall_eq, varsL_p _ hf (by simp; omega) hz]
  by_cases hfl : flat (.slc false ((vsL [] (N.map vTm ++ [A, B])).map sV)) = true
  · exact ⟨h, by simp [hfl], rfl, fun _ _ => rfl⟩
  · refine ⟨h.set K (.frz 5 (N.map vtV ++ [tmV A, tmV B]) g), by simp [hfl, frzAll, frz1, hK], by simp, fun j hj => hget_set_ne (fun q => hj q.symm)⟩
end Go.Proofs.YtncjbccjpneoiaaDoor
