/- Parts of the proof, each with its own heading: walk in general. walk as a whole. become in general. top and same in general. Unify: the pairs of kids. Unify: a round of its loop. Unify: its loop, and as a whole. Unify as a whole, in general. Making nodes: what a call by reference keeps. Making nodes: variables, types of others. -/
import Derived.Test.YtncjbccjpneoiaaDoorPart10
set_option linter.unusedSimpArgs false
set_option linter.unusedVariables false
namespace Go.Proofs.YtncjbccjpneoiaaDoor
open Go Go.Ab Go.Proofs
open AV renaming unk → U
open Bool renaming false → J, true → O
set_option maxRecDepth 100000
set_option linter.unusedSimpArgs false
set_option linter.unusedVariables false
def wt : List Sh → (Nat → Bool) → Nat → Nat
  | [], _, _ => 0
  | s :: r, P, i => (if P i = true then 0 else s.kids.length) + wt r P (i + 1)
def upd (P : Nat → Bool) (x : Nat) : Nat → Bool := fun k => if k = x then true else P k
theorem wt_upd_out : ∀ (sh : List Sh) (P : Nat → Bool) (i x : Nat), x < i → wt sh (upd P x) i = wt sh P i
  | [], P, i, x, _ => rfl
  | s :: r, P, i, x, h => by
    unfold wt
    rw [wt_upd_out r P (i + 1) x (by omega)]
    have : upd P x i = P i := if_neg (by omega)
    rw [this]
theorem wt_upd : ∀ (sh : List Sh) (P : Nat → Bool) (i x : Nat) (s : Sh), sh[x]? = some s → P (i + x) = false → wt sh (upd P (i + x)) i + s.kids.length = wt sh P i
  | [], P, i, x, s, h, _ => by simp at h
  | a :: r, P, i, 0, s, h, hp => by
    simp at h
    subst h
    rw [Nat.add_zero] at hp ⊢
    unfold wt
    rw [wt_upd_out r P (i + 1) i (by omega), hp]
    have : upd P i i = true := if_pos rfl
    rw [this]; simp; omega
  | a :: r, P, i, x + 1, s, h, hp => by
    have := wt_upd r P (i + 1) x s (by simpa using h) (by rw [← hp]; congr 1; omega)
    unfold wt
    have e : i + (x + 1) = i + 1 + x := by omega
    have : upd P (i + (x + 1)) i = P i := if_neg (by omega)
    rw [this, e]; omega
theorem wt_le : ∀ (sh : List Sh) (P : Nat → Bool) (i : Nat), wt sh P i ≤ wt sh (fun _ => false) i
  | [], P, i => Nat.le_refl _
  | s :: r, P, i => by
    unfold wt
    have := wt_le r P (i + 1)
    split
    · simp; omega
    · simp; omega
theorem ints_append (a b : List Nat) : ints (a ++ b) = ints a ++ ints b := List.map_append
section
variable {h hF : AHeap} {S T gT : Nat} {ns : List Nd} {b w : Int} {fl : Bool} {st : List Nat} {rest : List Int} {x i : Nat}
set_option maxHeartbeats 8000000
theorem w2_skip (cf : doCall md (aval Tryd.prog md fg) 64 [.ptr S 0, .int x] h = some (.int i, hF)) (hs : SP hF S ns b fl w) (f : FuncId) (caps : List AV) (hT : TI h T gT (ints (st ++ [x]) ++ rest)) (hTF : TI hF T gT (ints (st ++ [x]) ++ rest)) (hst : st.length ≤ 100000) {n : Nd} (hx : ns[i]? = some n) (hmk : n.mark = w) :
    lrun Tryd.prog md fg (fg 65) (loopOf Tryd.f65 0) (fg 65 1) (((.ptr S 0) :: .unk :: (.clo f [] caps) :: U::U::U::(.val (.bool false)) :: (.arr T 0 (st ++ [x]).length gT 1) :: U::U::U::U::U::U::U::U::U::U::U::U::U::U::U::U::U::U::U::U::U::U::U::U::U::U::U::U::U::U::U::U::U::U::U::U::U::U::U::U::U::U::U::U::U::U::U::U::U::U::U::U::U::U::U::U::U::U::U::U::U::U::U::U::[] : List AV)) h = lrun Tryd.prog md fg (fg 65) (loopOf Tryd.f65 0) (fg 65 1) (((.ptr S 0) :: .unk :: (.clo f [] caps) :: U::U::U::(.val (.bool false)) :: (.arr T 0 st.length gT 1) :: U::U::U::U::U::U::U::U::U::U::U::U::U::U::U::U::U::U::U::U::U::U::U::U::U::U::U::U::U::U::U::U::U::U::U::U::U::U::U::U::U::U::U::U::U::U::U::U::U::U::U::U::U::U::U::U::U::U::U::U::U::U::U::U::[] : List AV)) hF := by
  obtain ⟨A, g, h1, h2'⟩ := sp_arr hs (ne_of_at hx)
  have hlt := (List.getElem?_eq_some_iff.1 hx).1
  have ht : ((i : Int)).toNat = i := by omega
  unfold TI at hT hTF
  have hlen : (st ++ [x]).length = st.length + 1 := by simp
  have hlast : ((ints (st ++ [x]) ++ rest).map AV.int)[st.length]? = some (.int x) := by simp [ints]
  obtain ⟨k, p, m, ks, l, t, mk⟩ := n
  dsimp only at hmk
  subst hmk
  have hl1 : (((st.length + 1 : Nat) : Int) - 1).toNat = st.length := by omega
  have hl2 : (((st.length : Nat) : Int) + 1 - 1).toNat = st.length := by omega
  rw [hlen]
  rw [lrun_atC loop65_0]
  simp (implicitDefEqProofs := false) (disch := omega) only [go_sem, seval, rgn Tryd.f65 3 rfl, rgn Tryd.f65 4 rfl, rgn Tryd.f65 5 rfl, rgn Tryd.f65 6 rfl, hT, hTF, hlast, hl1, hl2, cf, h1, h2', List.getElem?_map, ht, hx, Option.map_some, ndV_mk, Nat.sub_zero]
theorem w2_false (cf : doCall md (aval Tryd.prog md fg) 64 [.ptr S 0, .int x] h = some (.int i, hF)) (hs : SP hF S ns b fl w) (f : FuncId) (caps : List AV) (hc : callable Tryd.prog f = true) (hT : TI h T gT (ints (st ++ [x]) ++ rest)) (hTF : TI hF T gT (ints (st ++ [x]) ++ rest)) (hst : st.length ≤ 100000) {n : Nd} (hx : ns[i]? = some n) (hmk : n.mark ≠ w)
    (ns2 : List Nd) (hcl : ∀ h1, SP h1 S (ns.set i (mkN w n)) b fl w → Kf S hF h1 → ∃ h2, doCall md (aval Tryd.prog md fg) f (.int i :: caps) h1 = some (.val (.bool false), h2) ∧ SP h2 S ns2 b fl w ∧ Kf S h1 h2) :
    (∃ h2 a7, lrun Tryd.prog md fg (fg 65) (loopOf Tryd.f65 0) (fg 65 1) (((.ptr S 0) :: .unk :: (.clo f [] caps) :: U::U::U::(.val (.bool false)) :: (.arr T 0 (st ++ [x]).length gT 1) :: U::U::U::U::U::U::U::U::U::U::U::U::U::U::U::U::U::U::U::U::U::U::U::U::U::U::U::U::U::U::U::U::U::U::U::U::U::U::U::U::U::U::U::U::U::U::U::U::U::U::U::U::U::U::U::U::U::U::U::U::U::U::U::U::[] : List AV)) h = some (.ret, ((.ptr S 0) :: .unk :: (.clo f [] caps) :: U::U::U::(.val (.bool false)) :: (a7) :: U::U::U::U::U::U::U::U::U::U::U::U::U::U::U::U::U::U::U::U::U::U::U::U::U::U::U::U::U::U::U::U::U::U::U::U::U::U::U::U::U::U::U::U::U::U::U::U::U::U::U::U::U::U::U::U::U::U::U::U::U::U::U::U::[] : List AV), h2) ∧ SP h2 S ns2 b fl w ∧ Kf S hF h2) := by
  obtain ⟨A, g, h1, h2'⟩ := sp_arr hs (ne_of_at hx)
  have hlt := (List.getElem?_eq_some_iff.1 hx).1
  have ht : ((i : Int)).toNat = i := by omega
  obtain ⟨s1, s2⟩ := sp_set h1 h2' i (mkN w n)
  obtain ⟨h3, c1, c2, c3⟩ := hcl _ s1 s2
  unfold TI at hT hTF
  have hlen : (st ++ [x]).length = st.length + 1 := by simp
  have hlast : ((ints (st ++ [x]) ++ rest).map AV.int)[st.length]? = some (.int x) := by simp [ints]
  obtain ⟨k, p, m, ks, l, t, mk⟩ := n
  dsimp only at hmk
  have hgt : (ns.map ndV)[i]? = some (.agg [.int k, .str (txt p), .str (txt m), ks, .int l, .int t, .int mk]) := by rw [List.getElem?_map, hx]; rfl
  have hstp : septr true 1 (.int w) g 7 i 6 hF A (.arr 7 (ns.map ndV) g) = some (hF.set A (.arr 7 ((ns.set i (mkN w ⟨k, p, m, ks, l, t, mk⟩)).map ndV) g)) := by
    rw [← map_set']
    simp [septr, hgt, AV.cells, patch, putAt, ndV, mkN]
  have hl1 : (((st.length + 1 : Nat) : Int) - 1).toNat = st.length := by omega
  have hl2 : (((st.length : Nat) : Int) + 1 - 1).toNat = st.length := by omega
  refine ⟨h3, .arr T 0 st.length gT 1, ?_, c2, s2.trans c3⟩
  rw [hlen]
  rw [lrun_atC loop65_0]
  simp (implicitDefEqProofs := false) (disch := omega) only [go_sem, seval, rgn Tryd.f65 3 rfl, rgn Tryd.f65 4 rfl, rgn Tryd.f65 5 rfl, rgn Tryd.f65 6 rfl, rgn Tryd.f65 7 rfl, rgn Tryd.f65 8 rfl, rgn Tryd.f65 9 rfl, hT, hTF, hlast, hl1, hl2, cf, h1, h2', List.getElem?_map, ht, hx, Option.map_some, ndV_mk, hmk, hstp, hc, List.nil_append, List.cons_append, c1, thenDraw_store, Nat.sub_zero]
theorem w2_true (cf : doCall md (aval Tryd.prog md fg) 64 [.ptr S 0, .int x] h = some (.int i, hF)) (hs : SP hF S ns b fl w) (f : FuncId) (caps : List AV) (hc : callable Tryd.prog f = true) (hT : TI h T gT (ints (st ++ [x]) ++ rest)) (hTF : TI hF T gT (ints (st ++ [x]) ++ rest)) (hst : st.length ≤ 100000) (hTS : T ≠ S) {n : Nd} (hx : ns[i]? = some n) (hmk : n.mark ≠ w)
    (ns2 : List Nd) (hcl : ∀ h1, SP h1 S (ns.set i (mkN w n)) b fl w → Kf S hF h1 → ∃ h2, doCall md (aval Tryd.prog md fg) f (.int i :: caps) h1 = some (.val (.bool true), h2) ∧ SP h2 S ns2 b fl w ∧ Kf S h1 h2) {n2 : Nd} (hx2 : ns2[i]? = some n2) {kl : List Nat} (hkl : kl.length ≤ 100000) (hkd : ∀ h1 h2, Kf S hF h1 → Kf S h1 h2 → KD h2 n2.kids (ints kl)) :
    ∃ h4, lrun Tryd.prog md fg (fg 65) (loopOf Tryd.f65 0) (fg 65 1) (((.ptr S 0) :: .unk :: (.clo f [] caps) :: U::U::U::(.val (.bool false)) :: (.arr T 0 (st ++ [x]).length gT 1) :: U::U::U::U::U::U::U::U::U::U::U::U::U::U::U::U::U::U::U::U::U::U::U::U::U::U::U::U::U::U::U::U::U::U::U::U::U::U::U::U::U::U::U::U::U::U::U::U::U::U::U::U::U::U::U::U::U::U::U::U::U::U::U::U::[] : List AV)) h = lrun Tryd.prog md fg (fg 65) (loopOf Tryd.f65 0) (fg 65 1) (((.ptr S 0) :: .unk :: (.clo f [] caps) :: U::U::U::(.val (.bool false)) :: (.arr T 0 (st ++ kl).length (gT + 1) 1) :: U::U::U::U::U::U::U::U::U::U::U::U::U::U::U::U::U::U::U::U::U::U::U::U::U::U::U::U::U::U::U::U::U::U::U::U::U::U::U::U::U::U::U::U::U::U::U::U::U::U::U::U::U::U::U::U::U::U::U::U::U::U::U::U::[] : List AV)) h4 ∧ TI h4 T (gT + 1) (ints (st ++ kl)) ∧ SP h4 S ns2 b fl w ∧ Kw S T hF h4 := by
  obtain ⟨A, g, h1, h2'⟩ := sp_arr hs (ne_of_at hx)
  have hlt := (List.getElem?_eq_some_iff.1 hx).1
  have ht : ((i : Int)).toNat = i := by omega
  obtain ⟨s1, s2⟩ := sp_set h1 h2' i (mkN w n)
  obtain ⟨h3, c1, c2, c3⟩ := hcl _ s1 s2
  unfold TI at hT hTF
  have hlen : (st ++ [x]).length = st.length + 1 := by simp
  have hlast : ((ints (st ++ [x]) ++ rest).map AV.int)[st.length]? = some (.int x) := by simp [ints]
  obtain ⟨k, p, m, ks, l, t, mk⟩ := n
  dsimp only at hmk
  have hgt : (ns.map ndV)[i]? = some (.agg [.int k, .str (txt p), .str (txt m), ks, .int l, .int t, .int mk]) := by rw [List.getElem?_map, hx]; rfl
  have hstp : septr true 1 (.int w) g 7 i 6 hF A (.arr 7 (ns.map ndV) g) = some (hF.set A (.arr 7 ((ns.set i (mkN w ⟨k, p, m, ks, l, t, mk⟩)).map ndV) g)) := by
    rw [← map_set']
    simp [septr, hgt, AV.cells, patch, putAt, ndV, mkN]
  have hl1 : (((st.length + 1 : Nat) : Int) - 1).toNat = st.length := by omega
  have hl2 : (((st.length : Nat) : Int) + 1 - 1).toNat = st.length := by omega
  have hT3 : hget h3 T = .arr 1 ((ints (st ++ [x]) ++ rest).map AV.int) gT := (s2.trans c3).2 T _ hTF (by simp) hTS (by simp)
  have hTl := hlt_of hT3 (by simp)
  have hkd := hkd _ _ s2 c3
  obtain ⟨A2, g2, d1, d2⟩ := sp_arr c2 (ne_of_at hx2)
  have happ : ∀ z, appT (some (1, 8, z)) h3 (.arr T 0 st.length gT 1) (some ((ints kl).map AV.int)) = some (.arr T 0 (st ++ kl).length (gT + 1) 1, h3.set T (.arr 1 ((ints (st ++ kl)).map AV.int) (gT + 1))) := fun z => by
    rw [appT_arr2 _ _ _ _ _ _ _ _ hT3 (by simp [ints]) (headOk_ints (ints kl)) (by simp [ints]; omega)]
    congr 2
    · simp [ints]
    · have : ((ints (st ++ [x]) ++ rest).map AV.int).take st.length = (ints st).map AV.int := by simp [ints]
      rw [this, ints_append, List.map_append]
  have hkv : aelems h3 n2.kids = some ((ints kl).map AV.int) := by
    rcases hkd with ⟨e1, e2⟩ | ⟨K, g', e1, e2⟩
    · rw [e1, e2]; rfl
    · rw [e1, aelems_arr]; exact sview_arr _ _ _ _ _ e2 (by simp)
  refine ⟨_, ?_, hget_set_eq hTl, ?_, ?_⟩
  · rw [hlen]
    obtain ⟨k5, p5, m5, ks5, l5, t5, mk5⟩ := n2
    dsimp only at hkv
    have hks5 : (∃ K g' l, ks5 = .arr K 0 l g' 1) ∨ ks5 = .slc true [] := by
      rcases hkd with ⟨e1, _⟩ | ⟨K, g', e1, _⟩
      · exact .inr e1
      · exact .inl ⟨K, g', _, e1⟩
    have hlt2 := (List.getElem?_eq_some_iff.1 hx2).1
    rcases hks5 with ⟨K, g', l, rfl⟩ | rfl
    · rw [aelems_arr] at hkv
      rw [lrun_atC loop65_0]
      simp (implicitDefEqProofs := false) (disch := omega) only [go_sem, seval, rgn Tryd.f65 3 rfl, rgn Tryd.f65 4 rfl, rgn Tryd.f65 5 rfl, rgn Tryd.f65 6 rfl, rgn Tryd.f65 7 rfl, rgn Tryd.f65 8 rfl, rgn Tryd.f65 10 rfl, hT, hTF, hlast, hl1, hl2, cf, h1, h2', List.getElem?_map, ht, hx, hx2, d1, d2, Option.map_some, ndV_mk, hmk, hstp, hc, List.nil_append, List.cons_append, c1, thenDraw_store, Nat.sub_zero, hkv, happ]
    · have hkn : kl = [] := by
        rw [aelems_slc] at hkv
        simpa [ints] using hkv.symm
      subst hkn
      rw [show ints [] = [] from rfl, List.map_nil] at happ
      rw [lrun_atC loop65_0]
      simp (implicitDefEqProofs := false) (disch := omega) only [go_sem, seval, rgn Tryd.f65 3 rfl, rgn Tryd.f65 4 rfl, rgn Tryd.f65 5 rfl, rgn Tryd.f65 6 rfl, rgn Tryd.f65 7 rfl, rgn Tryd.f65 8 rfl, rgn Tryd.f65 10 rfl, hT, hTF, hlast, hl1, hl2, cf, h1, h2', List.getElem?_map, ht, hx, hx2, d1, d2, Option.map_some, ndV_mk, hmk, hstp, hc, List.nil_append, List.cons_append, c1, thenDraw_store, Nat.sub_zero, happ]
  · obtain ⟨nv, z1, z2⟩ := c2
    refine ⟨nv, by rw [hget_set_ne hTS]; exact z1, ?_⟩
    rcases z2 with z2 | ⟨A', g', z2, z3⟩
    · exact .inl z2
    · exact .inr ⟨A', g', z2, by rw [hget_set_ne (by rintro rfl; rw [hT3] at z3; simp at z3)]; exact z3⟩
  · have kf := s2.trans c3
    refine ⟨by rw [List.length_set]; exact kf.1, fun j o e q1 q2 q3 q4 => ?_⟩
    rw [hget_set_ne (by omega)]
    exact kf.2 j o e q1 q2 q4
end
theorem NR.mark' {h : AHeap} {S B : Nat} {sh : List Sh} {rt r : Nat → Nat} {vis : Nat → Bool} {w : Int} {ns : List Nd} (x : NR h S B sh rt r vis w ns) {i : Nat} {n n' : Nd} (hx : ns[i]? = some n) (hn : n' = { n with level := n'.level, mark := w }) : NR h S B sh rt r (upd vis i) w (ns.set i n') := by
  refine ⟨by rw [List.length_set]; exact x.1, fun j m s h1 h2 => ?_⟩
  by_cases e : i = j
  · subst e
    rw [List.getElem?_set_self (lt_of_at hx)] at h1
    cases h1
    have y := x.2 i n s hx h2
    rw [hn]
    exact ⟨y.kind, y.pkg, y.name, y.kids, y.to, by simp [upd], Int.le_refl _⟩
  · rw [List.getElem?_set_ne e] at h1
    have y := x.2 j m s h1 h2
    have : upd vis i j = vis j := if_neg (fun q => e q.symm)
    exact ⟨y.kind, y.pkg, y.name, y.kids, y.to, by rw [this]; exact y.mark, y.le⟩
set_option maxHeartbeats 4000000 in
theorem walk_loop2 {h0 : AHeap} {S B T : Nat} {b w : Int} {fl : Bool} {sh : List Sh} {rt r : Nat → Nat} (ok : Ok sh rt r) (f : FuncId) (caps : List AV) (hc : callable Tryd.prog f = true) (hTS : T ≠ S) (hBT : B ≤ T) (F : Nat → Bool) (G : Nat → Nd → Nd) (hG : ∀ i n, G i n = { n with level := (G i n).level })
    (hcl : ∀ (h1 : AHeap) (ns1 : List Nd) (i : Nat) (n : Nd), Kw S T h0 h1 → SP h1 S ns1 b fl w → ns1[i]? = some n → n.kind ≠ 5 → ∃ h2, doCall md (aval Tryd.prog md fg) f (.int i :: caps) h1 = some (.val (.bool (F i)), h2) ∧ SP h2 S (ns1.set i (G i n)) b fl w ∧ Kf S h1 h2) :
    ∀ (N : Nat) (st : List Nat) (vis : Nat → Bool) (h : AHeap) (ns : List Nd) (gT : Nat) (rest : List Int), N ≤ 100000 → wt sh vis 0 + st.length ≤ N → (∀ x ∈ st, x < sh.length) → SP h S ns b fl w → NR h S B sh rt r vis w ns → TI h T gT (ints st ++ rest) → Kw S T h0 h →
    ∃ h' ns' vis' a7 c, lrun Tryd.prog md fg (fg 65) (loopOf Tryd.f65 0) (fg 65 1) (((.ptr S 0) :: .unk :: (.clo f [] caps) :: U::U::U::(.val (.bool false)) :: (.arr T 0 st.length gT 1) :: U::U::U::U::U::U::U::U::U::U::U::U::U::U::U::U::U::U::U::U::U::U::U::U::U::U::U::U::U::U::U::U::U::U::U::U::U::U::U::U::U::U::U::U::U::U::U::U::U::U::U::U::U::U::U::U::U::U::U::U::U::U::U::U::[] : List AV)) h = some (c, ((.ptr S 0) :: .unk :: (.clo f [] caps) :: U::U::U::(.val (.bool false)) :: (a7) :: U::U::U::U::U::U::U::U::U::U::U::U::U::U::U::U::U::U::U::U::U::U::U::U::U::U::U::U::U::U::U::U::U::U::U::U::U::U::U::U::U::U::U::U::U::U::U::U::U::U::U::U::U::U::U::U::U::U::U::U::U::U::U::U::[] : List AV), h') ∧ SP h' S ns' b fl w ∧ NR h' S B sh rt r vis' w ns' ∧ Kw S T h h' ∧
      ((c = .exit 0 ∧ (∀ i, vis i = true → vis' i = true) ∧ (∀ x ∈ st, vis' (rt x) = true) ∧ ∀ i, vis' i = true → vis i = false → F i = true ∧ ∀ s : Sh, sh[i]? = some s → ∀ k ∈ s.kids, vis' (rt k) = true) ∨ (c = .ret ∧ ∃ x ∈ st, ∃ i, Rch sh rt (rt x) i ∧ F i = false)) := by
  intro N
  induction N with
  | zero =>
    intro st vis h ns gT rest hN hm hst hs hn hT hk
    have : st = [] := List.eq_nil_of_length_eq_zero (by omega)
    subst this
    refine ⟨h, ns, vis, .arr T 0 0 gT 1, .exit 0, ?_, hs, hn, Kw.refl _ _ _, .inl ⟨rfl, fun _ e => e, by simp, fun i h1 h2 => by rw [h1] at h2; cases h2⟩⟩
    rw [List.length_nil]
    rw [lrun_atC loop65_0]
    simp (implicitDefEqProofs := false) (disch := omega) only [go_sem, seval, rgn Tryd.f65 3 rfl]
  | succ N ih =>
    intro st vis h ns gT rest hN hm hst hs hn hT hk
    rcases List.eq_nil_or_concat st with rfl | ⟨st, x, rfl⟩
    · refine ⟨h, ns, vis, .arr T 0 0 gT 1, .exit 0, ?_, hs, hn, Kw.refl _ _ _, .inl ⟨rfl, fun _ e => e, by simp, fun i h1 h2 => by rw [h1] at h2; cases h2⟩⟩
      rw [List.length_nil]
      rw [lrun_atC loop65_0]
      simp (implicitDefEqProofs := false) (disch := omega) only [go_sem, seval, rgn Tryd.f65 3 rfl]
    rw [List.concat_eq_append] at *
    rw [List.length_append, List.length_singleton] at hm
    have hxl := hst x (by simp)
    obtain ⟨hF, ns1, cf, s1, n1, k1, l1⟩ := find_c hxl hs hn
    have hT1 : TI hF T gT (ints (st ++ [x]) ++ rest) := k1.2 T _ hT (by simp) hTS (by simp)
    obtain ⟨n, s, hx, hsx, q⟩ := n1.at (ok.lt x hxl)
    have hk5 : n.kind ≠ 5 := by rw [q.kind]; exact ok.rig _ s hsx
    have hkF := hk.trans (k1.kw T)
    by_cases hv : vis (rt x) = true
    · have hmk := q.mark.2 hv
      rw [w2_skip cf s1 f caps hT hT1 (by omega) hx hmk]
      have hT2 : TI hF T gT (ints st ++ (ints [x] ++ rest)) := by rw [ints_append, List.append_assoc] at hT1; exact hT1
      obtain ⟨h', ns', vis', a7, c, e1, e2, e3, e4, e5⟩ := ih st vis hF ns1 gT _ (by omega) (by omega) (fun y hy => hst y (by simp [hy])) s1 n1 hT2 hkF
      refine ⟨h', ns', vis', a7, c, e1, e2, e3, (k1.kw T).trans e4, ?_⟩
      rcases e5 with ⟨e5, e6, e7, e8⟩ | ⟨e5, y, hy, e6⟩
      · refine .inl ⟨e5, e6, fun y hy => ?_, e8⟩
        rcases List.mem_append.1 hy with hy | hy
        · exact e7 y hy
        · rw [List.mem_singleton.1 hy]; exact e6 _ hv
      · exact .inr ⟨e5, y, by simp [hy], e6⟩
    · have hvf : vis (rt x) = false := by simpa using hv
      have hmk : n.mark ≠ w := fun e => hv (q.mark.1 e)
      have hlt := lt_of_at hx
      have hG2 : G (rt x) (mkN w n) = { n with level := (G (rt x) (mkN w n)).level, mark := w } := hG _ _
      have hmkd := n1.mark' hx hG2
      by_cases hFi : F (rt x) = true
      · obtain ⟨h4, e1, e2, e3, e4⟩ := w2_true (kl := s.kids) cf s1 f caps hc hT hT1 (by omega) hTS hx hmk (ns1.set (rt x) (G (rt x) (mkN w n))) (fun h1 z1 z2 => by
          obtain ⟨h2, c1, c2, c3⟩ := hcl h1 _ (rt x) (mkN w n) (hkF.trans (z2.kw T)) z1 (List.getElem?_set_self hlt) hk5
          rw [hFi] at c1
          rw [List.set_set] at c2
          exact ⟨h2, c1, c2, c3⟩) (n2 := G (rt x) (mkN w n)) (List.getElem?_set_self hlt) (by
            have := wt_upd sh vis 0 (rt x) s hsx (by simpa using hvf)
            omega) (fun h1 h2 z1 z2 => by
            rw [hG2]
            exact ((q.kids.kf z1).kf z2).kd)
        have hw := wt_upd sh vis 0 (rt x) s hsx (by simpa using hvf)
        rw [Nat.zero_add] at hw
        obtain ⟨h', ns', vis', a7, c, y1, y2, y3, y4, y5⟩ := ih (st ++ s.kids) (upd vis (rt x)) h4 _ (gT + 1) [] (by omega) (by rw [List.length_append]; omega) (fun y hy => by
          rcases List.mem_append.1 hy with hy | hy
          · exact hst y (by simp [hy])
          · exact (ok.kid _ s y hsx hy).1) e3 (hmkd.kw hBT e4) (by rw [List.append_nil]; exact e2) (hkF.trans e4)
        rw [e1]
        refine ⟨h', ns', vis', a7, c, y1, y2, y3, (k1.kw T).trans (e4.trans y4), ?_⟩
        rcases y5 with ⟨y5, y6, y7, y8⟩ | ⟨y5, y, hy, i, y6, y7⟩
        · have hroot : vis' (rt x) = true := y6 _ (by simp [upd])
          refine .inl ⟨y5, fun i hi => y6 i (by unfold upd; split; rfl; exact hi), fun y hy => ?_, fun i h1 h2 => ?_⟩
          · rcases List.mem_append.1 hy with hy | hy
            · exact y7 y (by simp [hy])
            · rw [List.mem_singleton.1 hy]; exact hroot
          · by_cases hi : i = rt x
            · subst hi
              refine ⟨hFi, fun s' hs' k hk' => ?_⟩
              rw [hsx] at hs'; cases hs'
              exact y7 k (by simp [hk'])
            · exact y8 i h1 (by unfold upd; rw [if_neg hi]; exact h2)
        · refine .inr ⟨y5, ?_⟩
          rcases List.mem_append.1 hy with hy | hy
          · exact ⟨y, by simp [hy], i, y6, y7⟩
          · exact ⟨x, by simp, i, .kid hsx hy y6, y7⟩
      · have hFf : F (rt x) = false := by simpa using hFi
        obtain ⟨h2, a7, e1, e2, e3⟩ := w2_false cf s1 f caps hc hT hT1 (by omega) hx hmk (ns1.set (rt x) (G (rt x) (mkN w n))) (fun h1 z1 z2 => by
          obtain ⟨h2, c1, c2, c3⟩ := hcl h1 _ (rt x) (mkN w n) (hkF.trans (z2.kw T)) z1 (List.getElem?_set_self hlt) hk5
          rw [hFf] at c1
          rw [List.set_set] at c2
          exact ⟨h2, c1, c2, c3⟩)
        exact ⟨h2, _, _, a7, .ret, e1, e2, hmkd.kf e3, (k1.kw T).trans (e3.kw T), .inr ⟨rfl, x, by simp, _, .refl _, hFf⟩⟩
theorem closed_all {sh : List Sh} {rt : Nat → Nat} {F : Nat → Bool} {vis' : Nat → Bool} (hc : ∀ i, vis' i = true → F i = true ∧ ∀ s : Sh, sh[i]? = some s → ∀ k ∈ s.kids, vis' (rt k) = true) {x v : Nat} (h : Rch sh rt x v) (hx : vis' x = true) : F v = true := by
  induction h with
  | refl x => exact (hc x hx).1
  | kid h1 h2 _ ih => exact ih ((hc _ hx).2 _ h1 _ h2)
set_option maxHeartbeats 4000000 in
theorem walk_c2 {h : AHeap} {S B : Nat} {b w : Int} {fl : Bool} {sh : List Sh} {rt r : Nat → Nat} {vis : Nat → Bool} {ns : List Nd} (ok : Ok sh rt r) (hs : SP h S ns b fl w) (hn : NR h S B sh rt r vis w ns) (hB : B ≤ h.length) (hwl : 0 ≤ w ∧ w ≤ 1000000000) (hsz : wt sh (fun _ => false) 0 < 100000) (f : FuncId) (caps : List AV) (hc : callable Tryd.prog f = true) (F : Nat → Bool) (G : Nat → Nd → Nd) (hG : ∀ i n, G i n = { n with level := (G i n).level })
    (hcl : ∀ (h1 : AHeap) (ns1 : List Nd) (i : Nat) (n : Nd), Kw S h.length h h1 → SP h1 S ns1 b fl (w + 1) → ns1[i]? = some n → n.kind ≠ 5 → ∃ h2, doCall md (aval Tryd.prog md fg) f (.int i :: caps) h1 = some (.val (.bool (F i)), h2) ∧ SP h2 S (ns1.set i (G i n)) b fl (w + 1) ∧ Kf S h1 h2)
    {x : Nat} (hx : x < sh.length) :
    ∃ H ns' vis' res, doCall md (aval Tryd.prog md fg) 65 [.ptr S 0, .int x, .clo f [] caps] h = some (.val (.bool res), H) ∧ SP H S ns' b fl (w + 1) ∧ NR H S B sh rt r vis' (w + 1) ns' ∧ Kf S h H ∧ (if res then ∀ v, Rch sh rt (rt x) v → F v = true else ∃ v, Rch sh rt (rt x) v ∧ F v = false) := by
  have hs0 := hs
  obtain ⟨nv, h1, h2⟩ := hs
  have hS := hlt_of h1 (by simp)
  have s1 : SP (h.set S (.vars [nv, .int b, .val (.bool fl), .int (w + 1)])) S ns b fl (w + 1) := ⟨nv, hget_set_eq hS, nn_set h2 h1⟩
  have hl : (h.set S (.vars [nv, .int b, .val (.bool fl), .int (w + 1)])).length = h.length := List.length_set
  have s2 := sp_app s1 [.arr 1 [.int x] 0]
  have k2 : Kw S h.length h (h.set S (.vars [nv, .int b, .val (.bool fl), .int (w + 1)]) ++ [.arr 1 [.int x] 0]) := ⟨by simp, fun j o e z1 z2 z3 z4 => by
    rw [hget_app _ (by rw [hl]; exact hlt_of e z1), hget_set_ne (fun z => z2 z.symm)]; exact e⟩
  have t2 : TI (h.set S (.vars [nv, .int b, .val (.bool fl), .int (w + 1)]) ++ [.arr 1 [.int x] 0]) h.length 0 (ints [x] ++ []) := by
    unfold TI
    have := @hget_last (h.set S (.vars [nv, .int b, .val (.bool fl), .int (w + 1)])) (.arr 1 [.int x] 0)
    rw [hl] at this
    exact this
  obtain ⟨h', ns', vis', a7, c, z1, z2, z3, z4, z5⟩ := walk_loop2 ok f caps hc (by omega) hB F G hG hcl _ [x] (fun _ => false) _ ns 0 [] (by simp; omega) (Nat.le_refl _) (by simp [hx]) s2 (hn.next.kw hB k2) t2 k2
  have kf : Kf S h h' := by
    have k := k2.trans z4
    exact ⟨k.1, fun j o e y1 y2 y3 => k.2 j o e y1 y2 (by have := hlt_of e y1; omega) y3⟩
  rw [List.length_singleton] at z1
  rcases z5 with ⟨rfl, e6, e7, e8⟩ | ⟨rfl, y, hy, v, e6, e7⟩
  · have e : aval Tryd.prog md fg 65 [.ptr S 0, .int x, .clo f [] caps] h = some (.val (.bool true), h') := by
      rw [aval_of Tryd.func65 body65 Tryd.results65 Tryd.ntmps65 ok65]
      simp (implicitDefEqProofs := false) (disch := omega) only [go_sem, seval, rgn Tryd.f65 0 rfl, rgn Tryd.f65 1 rfl, rgn Tryd.f65 2 rfl, rgn Tryd.f65 11 rfl, h1, hl, z1]
    obtain ⟨H, c1, c2, c3, c4⟩ := doCall_sp5 md65 e hs0 z2 kf.1
    exact ⟨H, ns', vis', true, c1, c2, z3.agree hB c4, kf.agree c3 c4, by
      rw [if_pos rfl]
      exact fun v hv => closed_all (fun i hi => e8 i hi rfl) hv (e7 x (by simp))⟩
  · have e : aval Tryd.prog md fg 65 [.ptr S 0, .int x, .clo f [] caps] h = some (.val (.bool false), h') := by
      rw [aval_of Tryd.func65 body65 Tryd.results65 Tryd.ntmps65 ok65]
      simp (implicitDefEqProofs := false) (disch := omega) only [go_sem, seval, rgn Tryd.f65 0 rfl, rgn Tryd.f65 1 rfl, rgn Tryd.f65 2 rfl, rgn Tryd.f65 11 rfl, h1, hl, z1]
    obtain ⟨H, c1, c2, c3, c4⟩ := doCall_sp5 md65 e hs0 z2 kf.1
    rw [List.mem_singleton.1 hy] at e6
    exact ⟨H, ns', vis', false, c1, c2, z3.agree hB c4, kf.agree c3 c4, by rw [if_neg (by simp)]; exact ⟨v, e6, e7⟩⟩
theorem NR.bind {h : AHeap} {S B : Nat} {sh : List Sh} {rt r : Nat → Nat} {vis : Nat → Bool} {w : Int} {ns : List Nd} (x : NR h S B sh rt r vis w ns) {v t : Nat} {n : Nd} (hv : ns[v]? = some n) (hr : rt v = v) (htl : t < sh.length) (ht : rt t = t) (hn : ¬ Rch sh rt t v) : NR h S B sh (bnd rt v t) (bndR sh rt r v t) vis w (ns.set v { n with to := (t : Int) }) := by
  have hne : t ≠ v := fun e => hn (e ▸ .refl t)
  have e1 : bnd rt v t v = t := if_pos hr
  have e2 : bnd rt v t t = t := by unfold bnd; rw [ht, if_neg hne]
  refine ⟨by rw [List.length_set]; exact x.1, fun j m s h1 h2 => ?_⟩
  by_cases e : v = j
  · subst e
    rw [List.getElem?_set_self (lt_of_at hv)] at h1
    cases h1
    have y := x.2 v n s hv h2
    exact ⟨y.kind, y.pkg, y.name, y.kids, ⟨t, rfl, htl, by rw [e1, e2], .inr (bndR_t hr ht hn), fun e => by rw [e1] at e; exact e, fun e => absurd e hne⟩, y.mark, y.le⟩
  · rw [List.getElem?_set_ne e] at h1
    have y := x.2 j m s h1 h2
    obtain ⟨j', z1, z2, z3, z4, z5, z6⟩ := y.to
    refine ⟨y.kind, y.pkg, y.name, y.kids, ⟨j', z1, z2, by unfold bnd; rw [z3], ?_, fun e3 => ?_, fun e3 => ?_⟩, y.mark, y.le⟩
    · rcases z4 with z4 | z4
      · exact .inl z4
      · exact .inr (bndR_lt z3 z4)
    · by_cases hj : rt j = v
      · have : bnd rt v t j = t := if_pos hj
        rw [this] at e3
        rw [← e3, ht] at hj
        exact absurd hj hne
      · have : bnd rt v t j = rt j := if_neg hj
        rw [this] at e3
        exact z5 e3
    · have := z6 e3
      unfold bnd
      rw [this, if_neg (fun q => e q.symm)]
section
variable {h : AHeap} {S B : Nat} {b w : Int} {fl : Bool} {sh : List Sh} {rt r : Nat → Nat} {vis : Nat → Bool} {ns : List Nd}
theorem walk_may2 (ok : Ok sh rt r) (hs : SP h S ns b fl w) (hn : NR h S B sh rt r vis w ns) (hB : B ≤ h.length) (hwl : 0 ≤ w ∧ w ≤ 1000000000) (hsz : wt sh (fun _ => false) 0 < 100000) {q q2 s v : Nat} {L : Int} (hq : hget h q = .vars [.ptr S 0]) (hr : hget h q2 = .vars [.int v]) (hl : hget h s = .vars [.int L]) (hqS : q ≠ S ∧ q2 ≠ S ∧ s ≠ S) {x : Nat} (hx : x < sh.length) :
    ∃ H ns' vis' res, doCall md (aval Tryd.prog md fg) 65 [.ptr S 0, .int x, .clo 66 [] [.ptr q 0, .ptr q2 0, .ptr s 0]] h = some (.val (.bool res), H) ∧ SP H S ns' b fl (w + 1) ∧ NR H S B sh rt r vis' (w + 1) ns' ∧ Kf S h H ∧ (if res then ∀ u, Rch sh rt (rt x) u → decide (u ≠ v) = true else ∃ u, Rch sh rt (rt x) u ∧ decide (u ≠ v) = false) := by
  refine walk_c2 ok hs hn hB hwl hsz 66 _ rfl (fun i => decide (i ≠ v)) (fun _ n => n) (fun _ _ => rfl) (fun h1 ns1 j n k1 s1 hx hk => ⟨h1, ?_, by rw [set_same hx]; exact s1, Kf.refl _ _⟩) hx
  have lq := hlt_of hq (by simp)
  have lr := hlt_of hr (by simp)
  have ls := hlt_of hl (by simp)
  have e := may_c s1 (k1.2 q _ hq (by simp) hqS.1 (by omega) (by simp)) (k1.2 q2 _ hr (by simp) hqS.2.1 (by omega) (by simp)) (k1.2 s _ hl (by simp) hqS.2.2 (by omega) (by simp)) hx
  have : mayIn v L j n = decide (j ≠ v) := by
    unfold mayIn
    rw [decide_eq_true hk, Bool.true_or, Bool.and_true]
    exact decide_eq_decide.2 (by omega)
  rw [this] at e
  exact e
theorem walk_low2 (ok : Ok sh rt r) (hs : SP h S ns b fl w) (hn : NR h S B sh rt r vis w ns) (hB : B ≤ h.length) (hwl : 0 ≤ w ∧ w ≤ 1000000000) (hsz : wt sh (fun _ => false) 0 < 100000) {q s : Nat} {L : Int} (hq : hget h q = .vars [.ptr S 0]) (hl : hget h s = .vars [.int L]) (hqS : q ≠ S ∧ s ≠ S) {x : Nat} (hx : x < sh.length) :
    ∃ H ns' vis', doCall md (aval Tryd.prog md fg) 65 [.ptr S 0, .int x, .clo 67 [] [.ptr q 0, .ptr s 0]] h = some (.val (.bool true), H) ∧ SP H S ns' b fl (w + 1) ∧ NR H S B sh rt r vis' (w + 1) ns' ∧ Kf S h H := by
  obtain ⟨H, ns', vis', res, c1, c2, c3, c4, c5⟩ := walk_c2 ok hs hn hB hwl hsz 67 [.ptr q 0, .ptr s 0] rfl (fun _ => true) (fun _ => lowN L) (fun _ n => by unfold lowN; split <;> rfl) (fun h1 ns1 j n k1 s1 hx hk => by
    have lq := hlt_of hq (by simp)
    have ls := hlt_of hl (by simp)
    exact low_c s1 (k1.2 q _ hq (by simp) hqS.1 (by omega) (by simp)) (k1.2 s _ hl (by simp) hqS.2 (by omega) (by simp)) hx) hx
  cases res
  · obtain ⟨u, _, h⟩ := c5
    cases h
  · exact ⟨H, ns', vis', c1, c2, c3, c4⟩
set_option maxHeartbeats 8000000 in
theorem become_c2 (ok : Ok sh rt r) (hs : SP h S ns b fl w) (hn : NR h S B sh rt r vis w ns) (hB : B ≤ h.length) (hwl : 0 ≤ w ∧ w ≤ 900000000) (hsz : wt sh (fun _ => false) 0 < 100000) {v t : Nat} (hvl : v < sh.length) (hr : rt v = v) (htl : t < sh.length) (ht : rt t = t) :
    ∃ H ns' vis' res w', doCall md (aval Tryd.prog md fg) 47 [.ptr S 0, .int v, .int t] h = some (.val (.bool res), H) ∧ SP H S ns' b fl w' ∧ w ≤ w' ∧ w' ≤ w + 2 ∧ Kf S h H ∧ (if res then ¬ Rch sh rt t v ∧ NR H S B sh (bnd rt v t) (bndR sh rt r v t) vis' w' ns' else Rch sh rt t v ∧ NR H S B sh rt r vis' w' ns') := by
  have hs0 := hs
  obtain ⟨nv, sv, hv, hsv, qv⟩ := hn.at hvl
  have hkf := kf_app S h [.vars [.ptr S 0], .vars [.int (v : Int)], .vars [.int nv.level]]
  have hS : S < h.length := by obtain ⟨_, h1, _⟩ := hs; exact hlt_of h1 (by simp)
  obtain ⟨H1, ns1, vis1, res, c1, c2, c3, c4, c5⟩ := walk_may2 ok (sp_app hs [.vars [.ptr S 0], .vars [.int (v : Int)], .vars [.int nv.level]]) (hn.kf hkf) (by simp; omega) (by omega) hsz (bx_get0 _ _ _) (bx_get1 _ _ _) (bx_get2 _ _ _) (by omega) htl
  have y0 : hget H1 h.length = .vars [.ptr S 0] := c4.2 _ _ (bx_get0 _ _ _) (by simp) (by omega) (by simp)
  have y1 : hget H1 (h.length + 1) = .vars [.int (v : Int)] := c4.2 _ _ (bx_get1 _ _ _) (by simp) (by omega) (by simp)
  have y2 : hget H1 (h.length + 2) = .vars [.int nv.level] := c4.2 _ _ (bx_get2 _ _ _) (by simp) (by omega) (by simp)
  obtain ⟨A, g, h1, h2⟩ := sp_arr hs (ne_of_at hv)
  have hA := hlt_of h2 (by simp)
  have hlt := (List.getElem?_eq_some_iff.1 hv).1
  have htt : ((v : Int)).toNat = v := by omega
  have hkf1 := hkf.trans c4
  cases res
  · obtain ⟨u, u1, u2⟩ := c5
    have : u = v := by simpa using u2
    subst this
    rw [ht] at u1
    obtain ⟨k, p, m, ks, l, t', mk⟩ := nv
    dsimp only at c1 c2 c3 c4 hkf
    have e : aval Tryd.prog md fg 47 [.ptr S 0, .int u, .int t] h = some (.val (.bool false), H1) := by
      rw [aval_of Tryd.func47 body47 Tryd.results47 Tryd.ntmps47 ok47]
      simp (implicitDefEqProofs := false) (disch := omega) only [go_sem, seval, rgn Tryd.f47 0 rfl, rgn Tryd.f47 1 rfl, rgn Tryd.f47 2 rfl, rgn Tryd.f47 3 rfl, rgn Tryd.f47 4 rfl, c1, List.append_assoc, List.cons_append, List.nil_append, bx_get0, bx_get1, bx_get2, hget_app, h1, h2, htt, List.getElem?_map, hv, Option.map_some, ndV_mk, bx_set2, thenDraw_store, List.length_append, List.length_cons, List.length_nil]
    obtain ⟨H, z1, z2, z3, z4⟩ := doCall_sp5 md47 e hs0 c2 hkf1.1
    exact ⟨H, ns1, vis1, false, w + 1, z1, z2, by omega, by omega, hkf1.agree z3 z4, u1, c3.agree hB z4⟩
  · have hno : ¬ Rch sh rt t v := fun e => by
      have := c5 v (by rw [ht]; exact e)
      simp at this
    have e12 : w + 1 + 1 = w + 2 := by omega
    have lH1 := c4.1
    simp only [List.length_append, List.length_cons, List.length_nil] at lH1
    obtain ⟨H2, ns2, vis2, d1, d2, d3, d4⟩ := walk_low2 ok c2 c3 (by omega) (by omega) hsz y0 y2 (by omega) htl
    rw [e12] at d2 d3
    have z0 : hget H2 h.length = .vars [.ptr S 0] := d4.2 _ _ y0 (by simp) (by omega) (by simp)
    have z1 : hget H2 (h.length + 1) = .vars [.int (v : Int)] := d4.2 _ _ y1 (by simp) (by omega) (by simp)
    obtain ⟨n2, s2, hv2, hsv2, qv2⟩ := d3.at hvl
    obtain ⟨A2, g2, k1, k2⟩ := sp_arr d2 (ne_of_at hv2)
    have hlt2 := (List.getElem?_eq_some_iff.1 hv2).1
    obtain ⟨s1, s2'⟩ := sp_set k1 k2 v { n2 with to := (t : Int) }
    have hNR := d3.bind hv2 hr htl ht hno
    obtain ⟨k, p, m, ks, l, t', mk⟩ := nv
    obtain ⟨k', p', m', ks', l', t'', mk'⟩ := n2
    dsimp only at c1 c2 c3 c4 hkf d1 y2 s1 s2' hNR
    have hgt : (ns2.map ndV)[v]? = some (.agg [.int k', .str (txt p'), .str (txt m'), ks', .int l', .int t'', .int mk']) := by rw [List.getElem?_map, hv2]; rfl
    have hstp : septr true 1 (.int (t : Int)) g2 7 v 5 H2 A2 (.arr 7 (ns2.map ndV) g2) = some (H2.set A2 (.arr 7 ((ns2.set v ⟨k', p', m', ks', l', (t : Int), mk'⟩).map ndV) g2)) := by
      rw [← map_set']
      simp [septr, hgt, AV.cells, patch, putAt, ndV]
    have hkf2 := hkf1.trans (d4.trans s2')
    have e : aval Tryd.prog md fg 47 [.ptr S 0, .int v, .int t] h = some (.val (.bool true), H2.set A2 (.arr 7 ((ns2.set v ⟨k', p', m', ks', l', (t : Int), mk'⟩).map ndV) g2)) := by
      rw [aval_of Tryd.func47 body47 Tryd.results47 Tryd.ntmps47 ok47]
      simp (implicitDefEqProofs := false) (disch := omega) only [go_sem, seval, rgn Tryd.f47 0 rfl, rgn Tryd.f47 1 rfl, rgn Tryd.f47 2 rfl, rgn Tryd.f47 3 rfl, rgn Tryd.f47 5 rfl, rgn Tryd.f47 6 rfl, rgn Tryd.f47 7 rfl, c1, List.append_assoc, List.cons_append, List.nil_append, bx_get0, bx_get1, bx_get2, hget_app, h1, h2, htt, List.getElem?_map, hv, Option.map_some, ndV_mk, bx_set2, thenDraw_store, List.length_append, List.length_cons, List.length_nil, y0, d1, z0, z1, k1, k2, hv2, hstp]
    obtain ⟨H, w1, w2, w3, w4⟩ := doCall_sp5 md47 e hs0 s1 hkf2.1
    exact ⟨H, _, vis2, true, w + 2, w1, w2, by omega, by omega, hkf2.agree w3 w4, hno, (hNR.kf s2').agree hB w4⟩
end
def og : List (Nat × Nat) → Nat → Option Nat
  | [], _ => none
  | p :: r, x => if x = p.1 then some p.2 else og r x
def prs (P : NMap) : List (Nat × Nat) := P.1.map fun e => (e.1, e.2.1)
theorem mg_og : ∀ (es : List (Nat × Nat × Nat)) (c x : Nat), mg (es, c) x = og (es.map fun e => (e.1, e.2.1)) x
  | [], c, x => rfl
  | e :: r, c, x => by
    rw [mg_cons, mg_og r c x]; rfl
theorem og_skip : ∀ (pre suf : List (Nat × Nat)) (x : Nat), (∀ p ∈ pre, x ≠ p.1) → og (pre ++ suf) x = og suf x
  | [], suf, x, _ => rfl
  | p :: r, suf, x, h => by
    rw [List.cons_append]; unfold og
    rw [if_neg (h p (List.mem_cons_self ..)), og_skip r suf x fun q hq => h q (List.mem_cons_of_mem _ hq)]
    cases suf <;> rfl
theorem ord_split : ∀ (pre : List (Nat × Nat)) (p : Nat × Nat) (suf : List (Nat × Nat)), Ord (pre ++ p :: suf) → (∀ q ∈ pre, p.2 ≠ q.1) ∧ p.2 ≠ p.1
  | [], p, suf, h => ⟨by simp, h.1⟩
  | a :: r, p, suf, h => by
    obtain ⟨h1, h2, h3⟩ := h
    obtain ⟨k1, k2⟩ := ord_split r p suf h3
    refine ⟨fun q hq => ?_, k2⟩
    rcases List.mem_cons.1 hq with rfl | hq
    · exact (h2 p (by simp)).2
    · exact k1 q hq
section
variable {S B M : Nat} {b w : Int} {fl : Bool} {sh : List Sh} {rt r : Nat → Nat} {vis : Nat → Bool} {P : NMap}
set_option maxHeartbeats 4000000 in
theorem top_loop2 (ok : Ok sh rt r) (ho : Ord (prs P)) (hp : ∀ p ∈ prs P, p.2 < sh.length ∧ rt p.2 = p.2) (hMS : M ≠ S) : ∀ (suf pre : List (Nat × Nat)) (x : Nat) (h : AHeap) (ns : List Nd) (a6 : AV), prs P = pre ++ suf → (∀ p ∈ pre, x ≠ p.1) → SP h S ns b fl w → NR h S B sh rt r vis w ns → MN h M P →
    ∃ H ns', lrun Tryd.prog md fg (fg 46) (loopOf Tryd.f46 0) (fg 46 1) ([.ptr S 0, .int x, .mp M, .unk, .unk, .unk, a6, .unk, .unk, .unk, .unk, .unk, .unk, .unk, .unk, .unk, .unk, .unk, .unk, .unk, .unk, .unk, .unk, .unk]) h = some (.ret, [.ptr S 0, .int (topO suf x : Nat), .mp M, .unk, .unk, .unk, .int (topO suf x : Nat), .unk, .unk, .unk, .unk, .unk, .unk, .unk, .unk, .unk, .unk, .unk, .unk, .unk, .unk, .unk, .unk, .unk], H) ∧ SP H S ns' b fl w ∧ NR H S B sh rt r vis w ns' ∧ Kf S h H ∧ H.length = h.length
  | [], pre, x, h, ns, a6, he, hx, hs, hn, hm => by
    have lk := mn_look hm x
    have : mg P x = none := by
      have := mg_og P.1 P.2 x
      rw [show P.1.map (fun e => (e.1, e.2.1)) = prs P from rfl, he, og_skip pre [] x hx] at this
      exact this
    rw [this] at lk
    refine ⟨h, ns, ?_, hs, hn, Kf.refl S h, rfl⟩
    simp only [topO]
    simp only [Option.isSome_none, Option.getD_none] at lk
    rw [lrun_atC loop46_0]
    simp (implicitDefEqProofs := false) (disch := omega) only [go_sem, seval, rgn Tryd.f46 2 rfl, rgn Tryd.f46 3 rfl, rgn Tryd.f46 4 rfl, aop_lookup, lk]
  | p :: suf, pre, x, h, ns, a6, he, hx, hs, hn, hm => by
    obtain ⟨o1, o2⟩ := ord_split pre p suf (he ▸ ho)
    obtain ⟨p1, p2⟩ := hp p (by rw [he]; simp)
    have he' : prs P = (pre ++ [p]) ++ suf := by rw [he]; simp
    by_cases hxp : x = p.1
    · have lk := mn_look hm x
      have : mg P x = some p.2 := by
        have := mg_og P.1 P.2 x
        rw [show P.1.map (fun e => (e.1, e.2.1)) = prs P from rfl, he, og_skip pre _ x hx] at this
        rw [show mg P x = mg (P.1, P.2) x from rfl, this]
        exact if_pos hxp
      rw [this] at lk
      simp only [Option.isSome_some, Option.getD_some] at lk
      obtain ⟨H1, ns1, c1, c2, c3, c4, c5⟩ := find_c p1 hs hn
      rw [p2] at c1
      obtain ⟨H, ns', e1, e2, e3, e4, e5⟩ := top_loop2 ok ho hp hMS suf (pre ++ [p]) p.2 H1 ns1 a6 he' (fun q hq => by
        rcases List.mem_append.1 hq with hq | hq
        · exact o1 q hq
        · rw [List.mem_singleton.1 hq]; exact o2) c2 c3 (c4.2 M _ hm (by simp) hMS (by simp))
      refine ⟨H, ns', ?_, e2, e3, c4.trans e4, by rw [e5, c5]⟩
      have : topO (p :: suf) x = topO suf p.2 := if_pos hxp
      rw [this, ← e1]
      rw [lrun_atC loop46_0]
      simp (implicitDefEqProofs := false) (disch := omega) only [go_sem, seval, rgn Tryd.f46 2 rfl, rgn Tryd.f46 3 rfl, rgn Tryd.f46 5 rfl, aop_lookup, lk, c1]
    · obtain ⟨H, ns', e1, e2, e3, e4, e5⟩ := top_loop2 ok ho hp hMS suf (pre ++ [p]) x h ns a6 he' (fun q hq => by
        rcases List.mem_append.1 hq with hq | hq
        · exact hx q hq
        · rw [List.mem_singleton.1 hq]; exact hxp) hs hn hm
      have : topO (p :: suf) x = topO suf x := if_neg hxp
      rw [this]
      exact ⟨H, ns', e1, e2, e3, e4, e5⟩
theorem top_c2 (ok : Ok sh rt r) (ho : Ord (prs P)) (hp : ∀ p ∈ prs P, p.2 < sh.length ∧ rt p.2 = p.2) (hMS : M ≠ S) {x : Nat} {h : AHeap} {ns : List Nd} (hx : x < sh.length) (hs : SP h S ns b fl w) (hn : NR h S B sh rt r vis w ns) (hm : MN h M P) :
    ∃ H ns', doCall md (aval Tryd.prog md fg) 46 [.ptr S 0, .int x, .mp M] h = some (.int (topO (prs P) (rt x) : Nat), H) ∧ SP H S ns' b fl w ∧ NR H S B sh rt r vis w ns' ∧ Kf S h H ∧ H.length = h.length := by
  obtain ⟨H1, ns1, c1, c2, c3, c4, c5⟩ := find_c hx hs hn
  obtain ⟨H, ns', e1, e2, e3, e4, e5⟩ := top_loop2 ok ho hp hMS (prs P) [] (rt x) H1 ns1 (.int 0) rfl (by simp) c2 c3 (c4.2 M _ hm (by simp) hMS (by simp))
  refine ⟨H, ns', doCall_same md46 ?_ (by rw [e5, c5]), e2, e3, c4.trans e4, by rw [e5, c5]⟩
  rw [aval_of Tryd.func46 body46 Tryd.results46 Tryd.ntmps46 ok46]
  simp (implicitDefEqProofs := false) (disch := omega) only [go_sem, seval, rgn Tryd.f46 0 rfl, rgn Tryd.f46 1 rfl, c1, e1]
end
theorem kb_len {h : AHeap} {S B : Nat} {v : AV} {kl : List Int} (x : KB h S B v kl) : ∀ h2, abuiltin Tryd.prog .len #[85] h2 [v] = some (.int kl.length, h2) := fun h2 => by
  rcases x with ⟨rfl, rfl⟩ | ⟨K, g, rfl, _⟩
  · simp only [abuiltin_len_slc, alen_slc, tarr_85, tslice_85, lenT_slc, Option.map_some, List.length_nil]
  · simp only [abuiltin_len_arr, alen_arr, tarr_85, tslice_85, lenT_arr, Option.map_some]
instance (s s' : Sh) : Decidable (sigEq s s') := by unfold sigEq; infer_instance
set_option maxHeartbeats 8000000 in
theorem same_c2 {h : AHeap} {S B : Nat} {ns : List Nd} {b : Int} {f : Bool} {w : Int} {sh : List Sh} {rt r : Nat → Nat} {vis : Nat → Bool} (ok : Ok sh rt r) (hs : SP h S ns b f w) (hn : NR h S B sh rt r vis w ns) {i j : Nat} {s s' : Sh} (hsx : sh[i]? = some s) (hsy : sh[j]? = some s') : doCall md (aval Tryd.prog md fg) 48 [.ptr S 0, .int i, .int j] h = some (.val (.bool (decide (sigEq s s'))), h) := by
  obtain ⟨n, hx⟩ := at_of_lt (l := ns) (i := i) (by rw [hn.1]; exact lt_of_at hsx)
  obtain ⟨m, hy⟩ := at_of_lt (l := ns) (i := j) (by rw [hn.1]; exact lt_of_at hsy)
  have qx := hn.2 i n s hx hsx
  have qy := hn.2 j m s' hy hsy
  obtain ⟨A, g, h1, h2⟩ := sp_arr hs (ne_of_at hx)
  have hlt := (List.getElem?_eq_some_iff.1 hx).1
  have hlt2 := (List.getElem?_eq_some_iff.1 hy).1
  have ht : ((i : Int)).toNat = i := by omega
  have ht2 : ((j : Int)).toNat = j := by omega
  have k5 : s.kind ≠ 5 := ok.rig _ s hsx
  have l1 := kb_len qx.kids
  have l2 := kb_len qy.kids
  rw [ints_len] at l1 l2
  obtain ⟨k, p, m1, ks, l, t, mk⟩ := n
  obtain ⟨k2, p2, m2, ks2, lv2, t2, mk2⟩ := m
  obtain ⟨sk, sp, sm, skl⟩ := s
  obtain ⟨sk2, sp2, sm2, skl2⟩ := s'
  obtain ⟨e1, e2, e3, _, _, _, _⟩ := qx
  obtain ⟨d1, d2, d3, _, _, _, _⟩ := qy
  dsimp only at e1 e2 e3 d1 d2 d3 k5 l1 l2
  subst e1; subst e2; subst e3; subst d1; subst d2; subst d3
  refine doCall_same md48 ?_ rfl
  by_cases c1 : k = k2
  · by_cases c2 : p = p2
    · by_cases c3 : m1 = m2
      · by_cases c4 : skl.length = skl2.length
        · rw [decide_eq_true (p := sigEq _ _) ⟨c1, c2, c3, c4⟩]
          subst c1; subst c2; subst c3
          have c4' : (skl.length : Int) = (skl2.length : Int) := by omega
          rw [aval_of Tryd.func48 body48 Tryd.results48 Tryd.ntmps48 ok48]
          simp (implicitDefEqProofs := false) (disch := omega) only [go_sem, seval, rgn Tryd.f48 0 rfl, rgn Tryd.f48 1 rfl, rgn Tryd.f48 2 rfl, h1, h2, List.getElem?_map, ht, ht2, hx, hy, Option.map_some, ndV_mk, k5, l1, l2, c4']
        · rw [decide_eq_false (p := sigEq _ _) (fun q => c4 q.2.2.2)]
          subst c1; subst c2; subst c3
          have c4' : ¬ (skl.length : Int) = (skl2.length : Int) := by omega
          rw [aval_of Tryd.func48 body48 Tryd.results48 Tryd.ntmps48 ok48]
          simp (implicitDefEqProofs := false) (disch := omega) only [go_sem, seval, rgn Tryd.f48 0 rfl, rgn Tryd.f48 1 rfl, rgn Tryd.f48 2 rfl, h1, h2, List.getElem?_map, ht, ht2, hx, hy, Option.map_some, ndV_mk, k5, l1, l2, c4']
      · rw [decide_eq_false (p := sigEq _ _) (fun q => c3 q.2.2.1)]
        subst c1; subst c2
        rw [aval_of Tryd.func48 body48 Tryd.results48 Tryd.ntmps48 ok48]
        simp (implicitDefEqProofs := false) (disch := omega) only [go_sem, seval, rgn Tryd.f48 0 rfl, rgn Tryd.f48 1 rfl, rgn Tryd.f48 2 rfl, h1, h2, List.getElem?_map, ht, ht2, hx, hy, Option.map_some, ndV_mk, k5, str_eq, c3]
    · rw [decide_eq_false (p := sigEq _ _) (fun q => c2 q.2.1)]
      subst c1
      rw [aval_of Tryd.func48 body48 Tryd.results48 Tryd.ntmps48 ok48]
      simp (implicitDefEqProofs := false) (disch := omega) only [go_sem, seval, rgn Tryd.f48 0 rfl, rgn Tryd.f48 1 rfl, rgn Tryd.f48 2 rfl, h1, h2, List.getElem?_map, ht, ht2, hx, hy, Option.map_some, ndV_mk, k5, str_eq, c2]
  · rw [decide_eq_false (p := sigEq _ _) (fun q => c1 q.1)]
    rw [aval_of Tryd.func48 body48 Tryd.results48 Tryd.ntmps48 ok48]
    simp (implicitDefEqProofs := false) (disch := omega) only [go_sem, seval, rgn Tryd.f48 0 rfl, rgn Tryd.f48 1 rfl, rgn Tryd.f48 2 rfl, h1, h2, List.getElem?_map, ht, ht2, hx, hy, Option.map_some, ndV_mk, c1]
def prV (p : Nat × Nat) : AV := .agg [.int (p.1 : Int), .int (p.2 : Int)]
def TP (h : AHeap) (T g : Nat) (l : List (Nat × Nat)) : Prop := hget h T = .arr 2 (l.map prV) g
theorem abuild_91' (x y : Int) : abuild Tryd.prog 91 [(0, .int x), (1, .int y)] = some (.agg [.int x, .int y]) := by kernel_rfl
theorem own92 : ownT Tryd.prog 92 = true := by kernel_rfl
theorem thenDraw_bs92 {md : FuncId → Nat} {env : Env} {d : Option Tmp} {ty : TypeId} {pos : String} {aft : Array Edge} {g : Option (Nat × Bool)} (n : Nat) (es : Array (Nat × Operand)) (h0 : AHeap) (v : AV) (h' : AHeap) (call : CallF) (k : Env → AHeap → Option (Env × AHeap)) : thenDraw Tryd.prog ⟨d, .buildSlice 92 n es, ty, pos, aft, g⟩ h0 (some (.value v h')) md call d k env = k (aput env d v) h' := thenDraw_eff _ _ _ _ _ _ own92
section
variable {S B M T : Nat} {b w : Int} {fl : Bool} {sh : List Sh} {rt r : Nat → Nat} {vis : Nat → Bool} {ns : List Nd}
set_option maxHeartbeats 8000000 in
theorem push_loop {x y : Nat} {s s' : Sh} (hsx : sh[x]? = some s) (hsy : sh[y]? = some s') (hlen : s.kids.length = s'.kids.length) (hTS : T ≠ S) (hBT : B ≤ T) {kv : AV} : ∀ (k : Nat) (h : AHeap) (g : Nat) (todo rest : List (Nat × Nat)), k ≤ s.kids.length → todo.length + k ≤ 100000 → SP h S ns b fl w → NR h S B sh rt r vis w ns → KB h S B kv (ints s.kids) → TP h T g (todo ++ rest) →
    ∃ H g' rest', lrun Tryd.prog md fg (fg 29) (loopOf Tryd.f29 3) (fg 29 4) (((.ptr S 0) :: U::U::U::U::U::U::(.mp M) :: (.arr T 0 todo.length g 2) :: .unk :: (.int x) :: (.int y) :: (kv) :: (.int ((k : Int) - 1)) :: U::U::U::U::U::U::U::U::U::U::U::U::U::U::U::U::U::U::U::U::U::U::U::U::U::U::U::U::U::U::U::U::U::U::U::U::U::U::U::U::U::U::U::U::U::U::U::U::U::U::U::U::U::U::U::U::U::U::U::U::U::U::U::U::U::U::U::U::U::U::U::U::U::U::U::U::U::U::U::U::U::U::U::U::U::U::U::U::U::U::U::U::U::U::U::U::U::U::U::U::U::U::U::U::U::U::U::U::U::U::U::U::[] : List AV)) h = some (.exit 3, ((.ptr S 0) :: U::U::U::U::U::U::(.mp M) :: (.arr T 0 (todo ++ ((s.kids.zip s'.kids).take k).reverse).length g' 2) :: .unk :: (.int x) :: (.int y) :: (kv) :: (.int (-1)) :: U::U::U::U::U::U::U::U::U::U::U::U::U::U::U::U::U::U::U::U::U::U::U::U::U::U::U::U::U::U::U::U::U::U::U::U::U::U::U::U::U::U::U::U::U::U::U::U::U::U::U::U::U::U::U::U::U::U::U::U::U::U::U::U::U::U::U::U::U::U::U::U::U::U::U::U::U::U::U::U::U::U::U::U::U::U::U::U::U::U::U::U::U::U::U::U::U::U::U::U::U::U::U::U::U::U::U::U::U::U::U::U::[] : List AV), H) ∧ TP H T g' ((todo ++ ((s.kids.zip s'.kids).take k).reverse) ++ rest') ∧ Kw S T h H ∧ SP H S ns b fl w
  | 0, h, g, todo, rest, hk, ht, hs, hn, hkb, hT => by
    refine ⟨h, g, rest, ?_, by simpa using hT, Kw.refl _ _ _, hs⟩
    have e1 : (((0 : Nat) : Int) - 1) = -1 := rfl
    have e2 : (todo ++ ((s.kids.zip s'.kids).take 0).reverse).length = todo.length := by simp
    rw [e1, e2]
    rw [lrun_atC loop29_3]
    simp (implicitDefEqProofs := false) (disch := omega) only [go_sem, seval, rgn Tryd.f29 11 rfl]
  | k + 1, h, g, todo, rest, hk, ht, hs, hn, hkb, hT => by
    obtain ⟨m, hy⟩ := at_of_lt (l := ns) (i := y) (by rw [hn.1]; exact lt_of_at hsy)
    have qy := hn.2 y m s' hy hsy
    obtain ⟨A, gA, h1, h2⟩ := sp_arr hs (ne_of_at hy)
    have hlt := lt_of_at hy
    have ht2 : ((y : Int)).toNat = y := by omega
    have htk : ((k : Int)).toNat = k := by omega
    have e1 : (((k + 1 : Nat) : Int) - 1) = (k : Int) := by omega
    obtain ⟨a, ha⟩ := at_of_lt (l := s.kids) (i := k) (by omega)
    obtain ⟨c, hc⟩ := at_of_lt (l := s'.kids) (i := k) (by omega)
    rcases hkb with ⟨_, hkb2⟩ | ⟨K, gK, rfl, hK, hKS, hKB⟩
    · have := congrArg List.length hkb2; simp [ints] at this; rw [this] at hk; simp at hk
    rcases qy.kids with ⟨_, hkb2⟩ | ⟨K2, gK2, hkv2, hK2, hKS2, hKB2⟩
    · have := congrArg List.length hkb2; simp [ints] at this; rw [this] at hlen; rw [hlen] at hk; simp at hk
    have hat : ((ints s.kids).map AV.int)[k]? = some (.int (a : Int)) := by simp [ints, ha]
    have hat2 : ((ints s'.kids).map AV.int)[k]? = some (.int (c : Int)) := by simp [ints, hc]
    have hzip : (s.kids.zip s'.kids)[k]? = some (a, c) := List.getElem?_zip_eq_some.2 ⟨ha, hc⟩
    have htake : ((s.kids.zip s'.kids).take (k + 1)).reverse = (a, c) :: ((s.kids.zip s'.kids).take k).reverse := by
      rw [List.take_add_one, hzip]; simp
    have hl0 : h.length ≤ (h ++ [AObj.arr 2 [.agg [.int (a : Int), .int (c : Int)]] 0]).length := by simp
    have hTl := hlt_of hT (by simp)
    have hT1 : hget (h ++ [AObj.arr 2 [.agg [.int (a : Int), .int (c : Int)]] 0]) T = .arr 2 ((todo ++ rest).map prV) g := by rw [hget_app _ hTl]; exact hT
    have happ : ∀ z, appT (some (2, 16, z)) (h ++ [AObj.arr 2 [.agg [.int (a : Int), .int (c : Int)]] 0]) (.arr T 0 todo.length g 2) (some [.agg [.int (a : Int), .int (c : Int)]]) = some (.arr T 0 (todo ++ [(a, c)]).length (g + 1) 2, (h ++ [AObj.arr 2 [.agg [.int (a : Int), .int (c : Int)]] 0]).set T (.arr 2 ((todo ++ [(a, c)] ++ []).map prV) (g + 1))) := fun z => by
      rw [appT_arr2 _ _ _ _ _ _ _ _ hT1 (by simp) rfl (by simp; omega)]
      simp [prV]
    have hsv : sview (h ++ [AObj.arr 2 [.agg [.int (a : Int), .int (c : Int)]] 0]) (AV.arr h.length 0 1 0 2) = some [.agg [.int (a : Int), .int (c : Int)]] := sview_arr _ _ _ _ _ hget_last rfl
    have kw1 : Kw S T h ((h ++ [AObj.arr 2 [.agg [.int (a : Int), .int (c : Int)]] 0]).set T (.arr 2 ((todo ++ [(a, c)] ++ []).map prV) (g + 1))) := ⟨by rw [List.length_set]; exact hl0, fun j o e z1 z2 z3 z4 => by rw [hget_set_ne (fun q => z3 q.symm), hget_app _ (hlt_of e z1)]; exact e⟩
    have hs1 : SP ((h ++ [AObj.arr 2 [.agg [.int (a : Int), .int (c : Int)]] 0]).set T (.arr 2 ((todo ++ [(a, c)] ++ []).map prV) (g + 1))) S ns b fl w := by
      obtain ⟨nv, z1, z2⟩ := sp_app hs [AObj.arr 2 [.agg [.int (a : Int), .int (c : Int)]] 0]
      refine ⟨nv, by rw [hget_set_ne hTS]; exact z1, ?_⟩
      rcases z2 with z2 | ⟨A', g', z2, z3⟩
      · exact .inl z2
      · exact .inr ⟨A', g', z2, by rw [hget_set_ne (by rintro rfl; rw [hT1] at z3; simp at z3)]; exact z3⟩
    obtain ⟨H, g', rest', c1, c2, c3, c4⟩ := push_loop hsx hsy hlen hTS hBT k _ (g + 1) (todo ++ [(a, c)]) [] (by omega) (by simp; omega) hs1 (hn.kw hBT kw1) (KB.kw hBT kw1 (.inr ⟨K, gK, rfl, hK, hKS, hKB⟩)) (hget_set_eq (by rw [List.length_append]; omega))
    refine ⟨H, g', rest', ?_, ?_, kw1.trans c3, c4⟩
    · rw [htake, e1]
      rw [show todo ++ (a, c) :: ((s.kids.zip s'.kids).take k).reverse = (todo ++ [(a, c)]) ++ ((s.kids.zip s'.kids).take k).reverse by simp]
      rw [← c1]
      obtain ⟨k1, p1, m1, ks1, l1, t1, mk1⟩ := m
      dsimp only at hkv2
      subst hkv2
      rw [lrun_atC loop29_3]
      simp (implicitDefEqProofs := false) (disch := omega) only [go_sem, seval, rgn Tryd.f29 11 rfl, rgn Tryd.f29 12 rfl, rgn Tryd.f29 13 rfl, h1, h2, hK, hK2, hat, hat2, List.getElem?_map, htk, ht2, hy, Option.map_some, ndV_mk, abuild_91', happ, hsv, ints_len, hl0, thenDraw_bs92, thenDraw_append]
    · rw [htake]
      rw [show todo ++ (a, c) :: ((s.kids.zip s'.kids).take k).reverse = (todo ++ [(a, c)]) ++ ((s.kids.zip s'.kids).take k).reverse by simp]
      exact c2
end
def Ku (S M T : Nat) (h H : AHeap) : Prop := h.length ≤ H.length ∧ ∀ j o, hget h j = o → o ≠ .dead → j ≠ S → j ≠ M → j ≠ T → (∀ b c, o ≠ .arr 7 b c) → hget H j = o
theorem Ku.refl (S M T : Nat) (h : AHeap) : Ku S M T h h := ⟨Nat.le_refl _, fun _ _ e _ _ _ _ _ => e⟩
theorem Ku.trans {S M T : Nat} {a b c : AHeap} (x : Ku S M T a b) (y : Ku S M T b c) : Ku S M T a c := ⟨Nat.le_trans x.1 y.1, fun j o e h1 h2 h3 h4 h5 => y.2 j o (x.2 j o e h1 h2 h3 h4 h5) h1 h2 h3 h4 h5⟩
theorem Kf.ku {S : Nat} {a b : AHeap} (M T : Nat) (x : Kf S a b) : Ku S M T a b := ⟨x.1, fun j o e h1 h2 _ _ h4 => x.2 j o e h1 h2 h4⟩
theorem Kw.ku {S T : Nat} {a b : AHeap} (M : Nat) (x : Kw S T a b) : Ku S M T a b := ⟨x.1, fun j o e h1 h2 _ h4 h5 => x.2 j o e h1 h2 h4 h5⟩
theorem KB.ku {h H : AHeap} {S B M T : Nat} (hM : B ≤ M) (hT : B ≤ T) (k : Ku S M T h H) {v : AV} {kl : List Int} (x : KB h S B v kl) : KB H S B v kl := by
  rcases x with x | ⟨K, g, e1, e2, e3, e4⟩
  · exact .inl x
  · exact .inr ⟨K, g, e1, k.2 K _ e2 (by simp) e3 (by omega) (by omega) (by simp), e3, e4⟩
theorem NR.ku {h H : AHeap} {S B M T : Nat} (hM : B ≤ M) (hT : B ≤ T) (k : Ku S M T h H) {sh : List Sh} {rt r : Nat → Nat} {vis : Nat → Bool} {w : Int} {ns : List Nd} (x : NR h S B sh rt r vis w ns) : NR H S B sh rt r vis w ns :=
  ⟨x.1, fun i n s h1 h2 => by
    have y := x.2 i n s h1 h2
    exact ⟨y.kind, y.pkg, y.name, y.kids.ku hM hT k, y.to, y.mark, y.le⟩⟩
def keys (one : List (Nat × Nat)) : Nat → Bool := fun i => one.any fun p => p.1 == i
theorem keys_add (one : List (Nat × Nat)) (x y : Nat) : keys (one ++ [(x, y)]) = upd (keys one) x := by
  funext i
  unfold keys upd
  rw [List.any_append]
  by_cases h : i = x
  · subst h; simp
  · rw [if_neg h]
    have : (x == i) = false := by simpa using fun e => h e.symm
    simp [this]
theorem keys_no {one : List (Nat × Nat)} {x : Nat} (h : ∀ p ∈ one, x ≠ p.1) : keys one x = false := by
  unfold keys
  rw [List.any_eq_false]
  intro p hp e
  exact h p hp (by simpa using (beq_iff_eq.1 e).symm)
theorem prs_mset {P : NMap} {x y : Nat} (h : ∀ p ∈ prs P, x ≠ p.1) : prs (mset P x y) = prs P ++ [(x, y)] ∧ ∀ c, mset P x y = (P.1 ++ [(x, y, P.2)], c) ∨ True := by
  have : mf x P.1 0 = none := by
    have h2 : mg P x = none := by
      rw [show mg P x = mg (P.1, P.2) x from rfl, mg_og]
      have := og_skip (prs P) [] x h
      rw [List.append_nil] at this
      exact this
    unfold mg at h2
    exact Option.map_eq_none_iff.1 h2
  refine ⟨?_, fun _ => .inr trivial⟩
  unfold mset
  rw [this]
  simp [prs]
section
variable {S B M T : Nat} {b w : Int} {fl : Bool} {sh : List Sh} {rt r : Nat → Nat} {vis : Nat → Bool} {ns : List Nd} {P : NMap} {h : AHeap} {g : Nat} {todo rest : List (Nat × Nat)} {p q : Nat}
theorem two_tops (ok : Ok sh rt r) (ho : Ord (prs P)) (hp : ∀ z ∈ prs P, z.2 < sh.length ∧ rt z.2 = z.2) (hMS : M ≠ S) (hTS : T ≠ S) (hpl : p < sh.length) (hql : q < sh.length) (hs : SP h S ns b fl w) (hn : NR h S B sh rt r vis w ns) (hm : MN h M P) (hT : TP h T g (todo ++ [(p, q)] ++ rest)) :
    ∃ H1 H2 ns2, doCall md (aval Tryd.prog md fg) 46 [.ptr S 0, .int p, .mp M] (h ++ [.vars [.int p, .int q]]) = some (.int (topO (prs P) (rt p) : Nat), H1) ∧ doCall md (aval Tryd.prog md fg) 46 [.ptr S 0, .int q, .mp M] H1 = some (.int (topO (prs P) (rt q) : Nat), H2) ∧ hget H1 h.length = .vars [.int p, .int q] ∧ hget H2 h.length = .vars [.int p, .int q] ∧ SP H2 S ns2 b fl w ∧ NR H2 S B sh rt r vis w ns2 ∧ MN H2 M P ∧ TP H2 T g (todo ++ [(p, q)] ++ rest) ∧ Kf S h H2 := by
  have k0 := kf_app S h [.vars [.int (p : Int), .int (q : Int)]]
  have hSl : S < h.length := by obtain ⟨_, h1, _⟩ := hs; exact hlt_of h1 (by simp)
  obtain ⟨H1, ns1, c1, c2, c3, c4, c5⟩ := top_c2 ok ho hp hMS hpl (sp_app hs [.vars [.int (p : Int), .int (q : Int)]]) (hn.kf k0) (k0.2 M _ hm (by simp) hMS (by simp))
  obtain ⟨H2, ns2, d1, d2, d3, d4, d5⟩ := top_c2 ok ho hp hMS hql c2 c3 (c4.2 M _ (k0.2 M _ hm (by simp) hMS (by simp)) (by simp) hMS (by simp))
  have k2 := k0.trans (c4.trans d4)
  exact ⟨H1, H2, ns2, c1, d1, c4.2 _ _ hget_last (by simp) (by omega) (by simp), d4.2 _ _ (c4.2 _ _ hget_last (by simp) (by omega) (by simp)) (by simp) (by omega) (by simp), d2, d3, k2.2 M _ hm (by simp) hMS (by simp), k2.2 T _ hT (by simp) hTS (by simp), k2⟩
theorem e_last {todo rest : List (Nat × Nat)} {p q : Nat} : ((todo ++ [(p, q)] ++ rest).map prV)[todo.length]? = some (.agg [.int (p : Int), .int (q : Int)]) := by simp [prV]
set_option maxHeartbeats 8000000
variable {H1 H2 : AHeap} {x y : Nat} {a6 : AV} (htl : todo.length ≤ 100000) (hT : TP h T g (todo ++ [(p, q)] ++ rest)) (c1 : doCall md (aval Tryd.prog md fg) 46 [.ptr S 0, .int p, .mp M] (h ++ [.vars [.int p, .int q]]) = some (.int (x : Nat), H1)) (c2 : doCall md (aval Tryd.prog md fg) 46 [.ptr S 0, .int q, .mp M] H1 = some (.int (y : Nat), H2)) (c3 : hget H1 h.length = .vars [.int p, .int q]) (c4 : hget H2 h.length = .vars [.int p, .int q])
include htl hT c1 c2 c3 c4
theorem r_same (hxy : x = y) : lrun Tryd.prog md fg (fg 29) (loopOf Tryd.f29 0) (fg 29 1) (((.ptr S 0) :: U::U::U::U::U::(a6) :: (.mp M) :: (.arr T 0 (todo ++ [(p, q)]).length g 2) :: U::U::U::U::U::U::U::U::U::U::U::U::U::U::U::U::U::U::U::U::U::U::U::U::U::U::U::U::U::U::U::U::U::U::U::U::U::U::U::U::U::U::U::U::U::U::U::U::U::U::U::U::U::U::U::U::U::U::U::U::U::U::U::U::U::U::U::U::U::U::U::U::U::U::U::U::U::U::U::U::U::U::U::U::U::U::U::U::U::U::U::U::U::U::U::U::U::U::U::U::U::U::U::U::U::U::U::U::U::U::U::U::U::U::U::U::U::[] : List AV)) h = lrun Tryd.prog md fg (fg 29) (loopOf Tryd.f29 0) (fg 29 1) (((.ptr S 0) :: U::U::U::U::U::(a6) :: (.mp M) :: (.arr T 0 todo.length g 2) :: U::U::U::U::U::U::U::U::U::U::U::U::U::U::U::U::U::U::U::U::U::U::U::U::U::U::U::U::U::U::U::U::U::U::U::U::U::U::U::U::U::U::U::U::U::U::U::U::U::U::U::U::U::U::U::U::U::U::U::U::U::U::U::U::U::U::U::U::U::U::U::U::U::U::U::U::U::U::U::U::U::U::U::U::U::U::U::U::U::U::U::U::U::U::U::U::U::U::U::U::U::U::U::U::U::U::U::U::U::U::U::U::U::U::U::U::U::[] : List AV)) H2 := by
  subst hxy
  unfold TP at hT
  have hT1 : hget (h ++ [.vars [.int (p : Int), .int (q : Int)]]) T = _ := (hget_app _ (hlt_of hT (by simp))).trans hT
  have hl1 : (((todo.length + 1 : Nat) : Int) - 1).toNat = todo.length := by omega
  have hl2 : (((todo.length : Nat) : Int) + 1 - 1).toNat = todo.length := by omega
  have hel := @e_last todo rest p q
  have hlen : (todo ++ [(p, q)]).length = todo.length + 1 := by simp
  rw [hlen]
  rw [lrun_atC loop29_0]
  simp (implicitDefEqProofs := false) (disch := omega) only [go_sem, seval, rgn Tryd.f29 5 rfl, rgn Tryd.f29 6 rfl, rgn Tryd.f29 7 rfl, rgn Tryd.f29 8 rfl, rgn Tryd.f29 15 rfl, hT, hT1, c1, c2, c3, c4, hl1, hl2, hel, hget_last, set_last, md46, beq_self_eq_true, Bool.true_or, Nat.sub_zero]
theorem r_var {ns2 : List Nd} (hs : SP H2 S ns2 b fl w) {n : Nd} (hx : ns2[x]? = some n) (hk : n.kind = 1) (hxy : x ≠ y) {res : Bool} {H3 : AHeap} (cb : doCall md (aval Tryd.prog md fg) 47 [.ptr S 0, .int x, .int y] H2 = some (.val (.bool res), H3)) :
    lrun Tryd.prog md fg (fg 29) (loopOf Tryd.f29 0) (fg 29 1) (((.ptr S 0) :: U::U::U::U::U::(a6) :: (.mp M) :: (.arr T 0 (todo ++ [(p, q)]).length g 2) :: U::U::U::U::U::U::U::U::U::U::U::U::U::U::U::U::U::U::U::U::U::U::U::U::U::U::U::U::U::U::U::U::U::U::U::U::U::U::U::U::U::U::U::U::U::U::U::U::U::U::U::U::U::U::U::U::U::U::U::U::U::U::U::U::U::U::U::U::U::U::U::U::U::U::U::U::U::U::U::U::U::U::U::U::U::U::U::U::U::U::U::U::U::U::U::U::U::U::U::U::U::U::U::U::U::U::U::U::U::U::U::U::U::U::U::U::U::[] : List AV)) h = if res then lrun Tryd.prog md fg (fg 29) (loopOf Tryd.f29 0) (fg 29 1) (((.ptr S 0) :: U::U::U::U::U::(a6) :: (.mp M) :: (.arr T 0 todo.length g 2) :: U::U::U::U::U::U::U::U::U::U::U::U::U::U::U::U::U::U::U::U::U::U::U::U::U::U::U::U::U::U::U::U::U::U::U::U::U::U::U::U::U::U::U::U::U::U::U::U::U::U::U::U::U::U::U::U::U::U::U::U::U::U::U::U::U::U::U::U::U::U::U::U::U::U::U::U::U::U::U::U::U::U::U::U::U::U::U::U::U::U::U::U::U::U::U::U::U::U::U::U::U::U::U::U::U::U::U::U::U::U::U::U::U::U::U::U::U::[] : List AV)) H3 else some (.ret, ((.ptr S 0) :: U::U::U::U::U::(.val (.bool false)) :: (.mp M) :: (.arr T 0 todo.length g 2) :: U::U::U::U::U::U::U::U::U::U::U::U::U::U::U::U::U::U::U::U::U::U::U::U::U::U::U::U::U::U::U::U::U::U::U::U::U::U::U::U::U::U::U::U::U::U::U::U::U::U::U::U::U::U::U::U::U::U::U::U::U::U::U::U::U::U::U::U::U::U::U::U::U::U::U::U::U::U::U::U::U::U::U::U::U::U::U::U::U::U::U::U::U::U::U::U::U::U::U::U::U::U::U::U::U::U::U::U::U::U::U::U::U::U::U::U::U::[] : List AV), H3) := by
  unfold TP at hT
  have hT1 : hget (h ++ [.vars [.int (p : Int), .int (q : Int)]]) T = _ := (hget_app _ (hlt_of hT (by simp))).trans hT
  have hl1 : (((todo.length + 1 : Nat) : Int) - 1).toNat = todo.length := by omega
  have hl2 : (((todo.length : Nat) : Int) + 1 - 1).toNat = todo.length := by omega
  have hel := @e_last todo rest p q
  have hlen : (todo ++ [(p, q)]).length = todo.length + 1 := by simp
  rw [hlen]
  obtain ⟨A, gA, h1, h2⟩ := sp_arr hs (ne_of_at hx)
  have hlt := lt_of_at hx
  have ht : ((x : Int)).toNat = x := by omega
  have hne : ¬ (x : Int) = (y : Int) := by omega
  obtain ⟨k, p1, m1, ks, l, t, mk⟩ := n
  dsimp only at hk
  subst hk
  cases res
  · simp only [Bool.false_eq_true, if_false]
    rw [lrun_atC loop29_0]
    simp (implicitDefEqProofs := false) (disch := omega) only [go_sem, seval, rgn Tryd.f29 5 rfl, rgn Tryd.f29 6 rfl, rgn Tryd.f29 7 rfl, rgn Tryd.f29 8 rfl, rgn Tryd.f29 15 rfl, rgn Tryd.f29 16 rfl, rgn Tryd.f29 17 rfl, rgn Tryd.f29 18 rfl, hT, hT1, c1, c2, c3, c4, hl1, hl2, hel, hget_last, set_last, md46, beq_self_eq_true, Bool.true_or, Nat.sub_zero, hne, h1, h2, List.getElem?_map, ht, hx, Option.map_some, ndV_mk, cb]
  · simp only [if_true]
    rw [lrun_atC loop29_0]
    simp (implicitDefEqProofs := false) (disch := omega) only [go_sem, seval, rgn Tryd.f29 5 rfl, rgn Tryd.f29 6 rfl, rgn Tryd.f29 7 rfl, rgn Tryd.f29 8 rfl, rgn Tryd.f29 15 rfl, rgn Tryd.f29 16 rfl, rgn Tryd.f29 17 rfl, hT, hT1, c1, c2, c3, c4, hl1, hl2, hel, hget_last, set_last, md46, beq_self_eq_true, Bool.true_or, Nat.sub_zero, hne, h1, h2, List.getElem?_map, ht, hx, Option.map_some, ndV_mk, cb]
theorem r_var2 {ns2 : List Nd} (hs : SP H2 S ns2 b fl w) {n m : Nd} (hx : ns2[x]? = some n) (hk : n.kind ≠ 1) (hy : ns2[y]? = some m) (hk2 : m.kind = 1) (hxy : x ≠ y) {res : Bool} {H3 : AHeap} (cb : doCall md (aval Tryd.prog md fg) 47 [.ptr S 0, .int y, .int x] H2 = some (.val (.bool res), H3)) :
    lrun Tryd.prog md fg (fg 29) (loopOf Tryd.f29 0) (fg 29 1) (((.ptr S 0) :: U::U::U::U::U::(a6) :: (.mp M) :: (.arr T 0 (todo ++ [(p, q)]).length g 2) :: U::U::U::U::U::U::U::U::U::U::U::U::U::U::U::U::U::U::U::U::U::U::U::U::U::U::U::U::U::U::U::U::U::U::U::U::U::U::U::U::U::U::U::U::U::U::U::U::U::U::U::U::U::U::U::U::U::U::U::U::U::U::U::U::U::U::U::U::U::U::U::U::U::U::U::U::U::U::U::U::U::U::U::U::U::U::U::U::U::U::U::U::U::U::U::U::U::U::U::U::U::U::U::U::U::U::U::U::U::U::U::U::U::U::U::U::U::[] : List AV)) h = if res then lrun Tryd.prog md fg (fg 29) (loopOf Tryd.f29 0) (fg 29 1) (((.ptr S 0) :: U::U::U::U::U::(a6) :: (.mp M) :: (.arr T 0 todo.length g 2) :: U::U::U::U::U::U::U::U::U::U::U::U::U::U::U::U::U::U::U::U::U::U::U::U::U::U::U::U::U::U::U::U::U::U::U::U::U::U::U::U::U::U::U::U::U::U::U::U::U::U::U::U::U::U::U::U::U::U::U::U::U::U::U::U::U::U::U::U::U::U::U::U::U::U::U::U::U::U::U::U::U::U::U::U::U::U::U::U::U::U::U::U::U::U::U::U::U::U::U::U::U::U::U::U::U::U::U::U::U::U::U::U::U::U::U::U::U::[] : List AV)) H3 else some (.ret, ((.ptr S 0) :: U::U::U::U::U::(.val (.bool false)) :: (.mp M) :: (.arr T 0 todo.length g 2) :: U::U::U::U::U::U::U::U::U::U::U::U::U::U::U::U::U::U::U::U::U::U::U::U::U::U::U::U::U::U::U::U::U::U::U::U::U::U::U::U::U::U::U::U::U::U::U::U::U::U::U::U::U::U::U::U::U::U::U::U::U::U::U::U::U::U::U::U::U::U::U::U::U::U::U::U::U::U::U::U::U::U::U::U::U::U::U::U::U::U::U::U::U::U::U::U::U::U::U::U::U::U::U::U::U::U::U::U::U::U::U::U::U::U::U::U::U::[] : List AV), H3) := by
  unfold TP at hT
  have hT1 : hget (h ++ [.vars [.int (p : Int), .int (q : Int)]]) T = _ := (hget_app _ (hlt_of hT (by simp))).trans hT
  have hl1 : (((todo.length + 1 : Nat) : Int) - 1).toNat = todo.length := by omega
  have hl2 : (((todo.length : Nat) : Int) + 1 - 1).toNat = todo.length := by omega
  have hel := @e_last todo rest p q
  have hlen : (todo ++ [(p, q)]).length = todo.length + 1 := by simp
  rw [hlen]
  obtain ⟨A, gA, h1, h2⟩ := sp_arr hs (ne_of_at hx)
  have hlt := lt_of_at hx
  have ht : ((x : Int)).toNat = x := by omega
  have hne : ¬ (x : Int) = (y : Int) := by omega
  obtain ⟨k, p1, m1, ks, l, t, mk⟩ := n
  dsimp only at hk
  have hlt2 := lt_of_at hy
  have ht2 : ((y : Int)).toNat = y := by omega
  obtain ⟨k2, p2, m2, ks2, l2, t2, mk2⟩ := m
  dsimp only at hk2
  subst hk2
  cases res
  · simp only [Bool.false_eq_true, if_false]
    rw [lrun_atC loop29_0]
    simp (implicitDefEqProofs := false) (disch := omega) only [go_sem, seval, rgn Tryd.f29 5 rfl, rgn Tryd.f29 6 rfl, rgn Tryd.f29 7 rfl, rgn Tryd.f29 8 rfl, rgn Tryd.f29 15 rfl, rgn Tryd.f29 16 rfl, rgn Tryd.f29 19 rfl, rgn Tryd.f29 20 rfl, rgn Tryd.f29 21 rfl, hT, hT1, c1, c2, c3, c4, hl1, hl2, hel, hget_last, set_last, md46, beq_self_eq_true, Bool.true_or, Nat.sub_zero, hne, h1, h2, List.getElem?_map, ht, hx, Option.map_some, ndV_mk, ht2, hy, hk, cb]
  · simp only [if_true]
    rw [lrun_atC loop29_0]
    simp (implicitDefEqProofs := false) (disch := omega) only [go_sem, seval, rgn Tryd.f29 5 rfl, rgn Tryd.f29 6 rfl, rgn Tryd.f29 7 rfl, rgn Tryd.f29 8 rfl, rgn Tryd.f29 15 rfl, rgn Tryd.f29 16 rfl, rgn Tryd.f29 19 rfl, rgn Tryd.f29 20 rfl, hT, hT1, c1, c2, c3, c4, hl1, hl2, hel, hget_last, set_last, md46, beq_self_eq_true, Bool.true_or, Nat.sub_zero, hne, h1, h2, List.getElem?_map, ht, hx, Option.map_some, ndV_mk, ht2, hy, hk, cb]
theorem r_no {ns2 : List Nd} (hs : SP H2 S ns2 b fl w) {n m : Nd} (hx : ns2[x]? = some n) (hk : n.kind ≠ 1) (hy : ns2[y]? = some m) (hk2 : m.kind ≠ 1) (hxy : x ≠ y) (cb : doCall md (aval Tryd.prog md fg) 48 [.ptr S 0, .int x, .int y] H2 = some (.val (.bool false), H2)) :
    lrun Tryd.prog md fg (fg 29) (loopOf Tryd.f29 0) (fg 29 1) (((.ptr S 0) :: U::U::U::U::U::(a6) :: (.mp M) :: (.arr T 0 (todo ++ [(p, q)]).length g 2) :: U::U::U::U::U::U::U::U::U::U::U::U::U::U::U::U::U::U::U::U::U::U::U::U::U::U::U::U::U::U::U::U::U::U::U::U::U::U::U::U::U::U::U::U::U::U::U::U::U::U::U::U::U::U::U::U::U::U::U::U::U::U::U::U::U::U::U::U::U::U::U::U::U::U::U::U::U::U::U::U::U::U::U::U::U::U::U::U::U::U::U::U::U::U::U::U::U::U::U::U::U::U::U::U::U::U::U::U::U::U::U::U::U::U::U::U::U::[] : List AV)) h = some (.ret, ((.ptr S 0) :: U::U::U::U::U::(.val (.bool false)) :: (.mp M) :: (.arr T 0 todo.length g 2) :: U::U::U::U::U::U::U::U::U::U::U::U::U::U::U::U::U::U::U::U::U::U::U::U::U::U::U::U::U::U::U::U::U::U::U::U::U::U::U::U::U::U::U::U::U::U::U::U::U::U::U::U::U::U::U::U::U::U::U::U::U::U::U::U::U::U::U::U::U::U::U::U::U::U::U::U::U::U::U::U::U::U::U::U::U::U::U::U::U::U::U::U::U::U::U::U::U::U::U::U::U::U::U::U::U::U::U::U::U::U::U::U::U::U::U::U::U::[] : List AV), H2) := by
  unfold TP at hT
  have hT1 : hget (h ++ [.vars [.int (p : Int), .int (q : Int)]]) T = _ := (hget_app _ (hlt_of hT (by simp))).trans hT
  have hl1 : (((todo.length + 1 : Nat) : Int) - 1).toNat = todo.length := by omega
  have hl2 : (((todo.length : Nat) : Int) + 1 - 1).toNat = todo.length := by omega
  have hel := @e_last todo rest p q
  have hlen : (todo ++ [(p, q)]).length = todo.length + 1 := by simp
  rw [hlen]
  obtain ⟨A, gA, h1, h2⟩ := sp_arr hs (ne_of_at hx)
  have hlt := lt_of_at hx
  have ht : ((x : Int)).toNat = x := by omega
  have hne : ¬ (x : Int) = (y : Int) := by omega
  obtain ⟨k, p1, m1, ks, l, t, mk⟩ := n
  dsimp only at hk
  have hlt2 := lt_of_at hy
  have ht2 : ((y : Int)).toNat = y := by omega
  obtain ⟨k2, p2, m2, ks2, l2, t2, mk2⟩ := m
  dsimp only at hk2
  rw [lrun_atC loop29_0]
  simp (implicitDefEqProofs := false) (disch := omega) only [go_sem, seval, rgn Tryd.f29 5 rfl, rgn Tryd.f29 6 rfl, rgn Tryd.f29 7 rfl, rgn Tryd.f29 8 rfl, rgn Tryd.f29 15 rfl, rgn Tryd.f29 16 rfl, rgn Tryd.f29 19 rfl, rgn Tryd.f29 22 rfl, rgn Tryd.f29 23 rfl, hT, hT1, c1, c2, c3, c4, hl1, hl2, hel, hget_last, set_last, md46, beq_self_eq_true, Bool.true_or, Nat.sub_zero, hne, h1, h2, List.getElem?_map, ht, hx, Option.map_some, ndV_mk, ht2, hy, hk, hk2, cb]
end
section
variable {S B M T : Nat} {b w : Int} {fl : Bool} {sh : List Sh} {rt r : Nat → Nat} {vis : Nat → Bool} {ns : List Nd} {P : NMap} {h : AHeap} {g : Nat} {todo rest : List (Nat × Nat)} {p q : Nat}
set_option maxHeartbeats 8000000 in
theorem r_push {H1 H2 : AHeap} {a6 : AV} {x y : Nat} (htl : todo.length ≤ 100000) (hT : TP h T g (todo ++ [(p, q)] ++ rest)) (c1 : doCall md (aval Tryd.prog md fg) 46 [.ptr S 0, .int p, .mp M] (h ++ [.vars [.int p, .int q]]) = some (.int (x : Nat), H1)) (c2 : doCall md (aval Tryd.prog md fg) 46 [.ptr S 0, .int q, .mp M] H1 = some (.int (y : Nat), H2)) (c3 : hget H1 h.length = .vars [.int p, .int q]) (c4 : hget H2 h.length = .vars [.int p, .int q])
    {ns2 : List Nd} (hs : SP H2 S ns2 b fl w) (hn : NR H2 S B sh rt r vis w ns2) {s s' : Sh} (hsx : sh[x]? = some s) (hsy : sh[y]? = some s') (hk : s.kind ≠ 1) (hk2 : s'.kind ≠ 1) (hxy : x ≠ y) (hlen : s.kids.length = s'.kids.length) (hkl : s.kids.length + todo.length ≤ 100000) (hTS : T ≠ S) (hMT : M ≠ T) (hMS : M ≠ S) (hBT : B ≤ T) (hm : MN H2 M P) (hT2 : TP H2 T g (todo ++ [(p, q)] ++ rest)) (cb : doCall md (aval Tryd.prog md fg) 48 [.ptr S 0, .int x, .int y] H2 = some (.val (.bool true), H2)) :
    ∃ H4 g' rest', lrun Tryd.prog md fg (fg 29) (loopOf Tryd.f29 0) (fg 29 1) (((.ptr S 0) :: U::U::U::U::U::(a6) :: (.mp M) :: (.arr T 0 (todo ++ [(p, q)]).length g 2) :: U::U::U::U::U::U::U::U::U::U::U::U::U::U::U::U::U::U::U::U::U::U::U::U::U::U::U::U::U::U::U::U::U::U::U::U::U::U::U::U::U::U::U::U::U::U::U::U::U::U::U::U::U::U::U::U::U::U::U::U::U::U::U::U::U::U::U::U::U::U::U::U::U::U::U::U::U::U::U::U::U::U::U::U::U::U::U::U::U::U::U::U::U::U::U::U::U::U::U::U::U::U::U::U::U::U::U::U::U::U::U::U::U::U::U::U::U::[] : List AV)) h = lrun Tryd.prog md fg (fg 29) (loopOf Tryd.f29 0) (fg 29 1) (((.ptr S 0) :: U::U::U::U::U::U::(.mp M) :: (.arr T 0 (todo ++ (s.kids.zip s'.kids).reverse).length g' 2) :: U::U::U::U::U::U::U::U::U::U::U::U::U::U::U::U::U::U::U::U::U::U::U::U::U::U::U::U::U::U::U::U::U::U::U::U::U::U::U::U::U::U::U::U::U::U::U::U::U::U::U::U::U::U::U::U::U::U::U::U::U::U::U::U::U::U::U::U::U::U::U::U::U::U::U::U::U::U::U::U::U::U::U::U::U::U::U::U::U::U::U::U::U::U::U::U::U::U::U::U::U::U::U::U::U::U::U::U::U::U::U::U::U::U::U::U::U::[] : List AV)) H4 ∧ TP H4 T g' (todo ++ (s.kids.zip s'.kids).reverse ++ rest') ∧ MN H4 M (mset P x y) ∧ SP H4 S ns2 b fl w ∧ Ku S M T H2 H4 := by
  obtain ⟨n, hx⟩ := at_of_lt (l := ns2) (i := x) (by rw [hn.1]; exact lt_of_at hsx)
  obtain ⟨m, hy⟩ := at_of_lt (l := ns2) (i := y) (by rw [hn.1]; exact lt_of_at hsy)
  have qx := hn.2 x n s hx hsx
  have qy := hn.2 y m s' hy hsy
  have htk : (s.kids.zip s'.kids).take s.kids.length = s.kids.zip s'.kids := List.take_of_length_le (by rw [List.length_zip]; omega)
  rw [List.append_assoc] at hT2
  obtain ⟨H3, g', rest', e1, e2, e3, e4⟩ := push_loop (M := M) hsx hsy hlen hTS hBT s.kids.length H2 g todo ([(p, q)] ++ rest) (Nat.le_refl _) (by omega) hs hn qx.kids hT2
  rw [htk] at e1 e2
  have hm3 : MN H3 M P := e3.2 M _ hm (by simp) hMS hMT (by simp)
  have hMl := hlt_of hm3 (by simp)
  have hput := mn_put hm3 x y
  refine ⟨_, g', rest', ?_, ?_, hget_set_eq hMl, ?_, ?_⟩
  · unfold TP at hT
    have hT1 : hget (h ++ [.vars [.int (p : Int), .int (q : Int)]]) T = _ := (hget_app _ (hlt_of hT (by simp))).trans hT
    have hl1 : (((todo.length + 1 : Nat) : Int) - 1).toNat = todo.length := by omega
    have hl2 : (((todo.length : Nat) : Int) + 1 - 1).toNat = todo.length := by omega
    have hel := @e_last todo rest p q
    have hlen' : (todo ++ [(p, q)]).length = todo.length + 1 := by simp
    obtain ⟨A, gA, h1, h2⟩ := sp_arr hs (ne_of_at hx)
    have hlt := lt_of_at hx
    have ht : ((x : Int)).toNat = x := by omega
    have hne : ¬ (x : Int) = (y : Int) := by omega
    have hlt2 := lt_of_at hy
    have ht2 : ((y : Int)).toNat = y := by omega
    have hkk := qx.kind
    have hkk2 := qy.kind
    have hkln := kb_len qx.kids
    rw [ints_len] at hkln
    obtain ⟨k, p1, m1, ks, l, t, mk⟩ := n
    obtain ⟨k2, p2, m2, ks2, l2, t2, mk2⟩ := m
    dsimp only at hkk hkk2 hkln e1
    have hk' : ¬ k = 1 := by rw [hkk]; exact hk
    have hk2' : ¬ k2 = 1 := by rw [hkk2]; exact hk2
    rw [hlen']
    rw [lrun_atC loop29_0]
    simp (implicitDefEqProofs := false) (disch := omega) only [go_sem, seval, rgn Tryd.f29 5 rfl, rgn Tryd.f29 6 rfl, rgn Tryd.f29 7 rfl, rgn Tryd.f29 8 rfl, rgn Tryd.f29 15 rfl, rgn Tryd.f29 16 rfl, rgn Tryd.f29 19 rfl, rgn Tryd.f29 22 rfl, rgn Tryd.f29 9 rfl, rgn Tryd.f29 10 rfl, rgn Tryd.f29 14 rfl, hT, hT1, c1, c2, c3, c4, hl1, hl2, hel, hget_last, set_last, md46, beq_self_eq_true, Bool.true_or, Nat.sub_zero, hne, h1, h2, List.getElem?_map, ht, hx, Option.map_some, ndV_mk, ht2, hy, hk', hk2', cb, hkln, e1, hput, aop_mapUpdate]
  · unfold TP
    rw [hget_set_ne hMT]; exact e2
  · obtain ⟨nv, z1, z2⟩ := e4
    exact ⟨nv, by rw [hget_set_ne hMS]; exact z1, by
      rcases z2 with z2 | ⟨A', g', z2, z3⟩
      · exact .inl z2
      · exact .inr ⟨A', g', z2, by rw [hget_set_ne (by rintro rfl; unfold MN at hm3; rw [hm3] at z3; simp at z3)]; exact z3⟩⟩
  · have k := e3.ku M
    exact ⟨by rw [List.length_set]; exact k.1, fun j o e z1 z2 z3 z4 z5 => by rw [hget_set_ne (fun q => z3 q.symm)]; exact k.2 j o e z1 z2 z3 z4 z5⟩
theorem un_end2 (h : AHeap) (a6 : AV) (S M T g : Nat) : lrun Tryd.prog md fg (fg 29) (loopOf Tryd.f29 0) (fg 29 1) (((.ptr S 0) :: U::U::U::U::U::(a6) :: (.mp M) :: (.arr T 0 ([] : List (Nat × Nat)).length g 2) :: U::U::U::U::U::U::U::U::U::U::U::U::U::U::U::U::U::U::U::U::U::U::U::U::U::U::U::U::U::U::U::U::U::U::U::U::U::U::U::U::U::U::U::U::U::U::U::U::U::U::U::U::U::U::U::U::U::U::U::U::U::U::U::U::U::U::U::U::U::U::U::U::U::U::U::U::U::U::U::U::U::U::U::U::U::U::U::U::U::U::U::U::U::U::U::U::U::U::U::U::U::U::U::U::U::U::U::U::U::U::U::U::U::U::U::U::U::[] : List AV)) h = some (.exit 0, ((.ptr S 0) :: U::U::U::U::U::(a6) :: (.mp M) :: (.arr T 0 0 g 2) :: U::U::U::U::U::U::U::U::U::U::U::U::U::U::U::U::U::U::U::U::U::U::U::U::U::U::U::U::U::U::U::U::U::U::U::U::U::U::U::U::U::U::U::U::U::U::U::U::U::U::U::U::U::U::U::U::U::U::U::U::U::U::U::U::U::U::U::U::U::U::U::U::U::U::U::U::U::U::U::U::U::U::U::U::U::U::U::U::U::U::U::U::U::U::U::U::U::U::U::U::U::U::U::U::U::U::U::U::U::U::U::U::U::U::U::U::U::[] : List AV), h) := by
  rw [List.length_nil]
  rw [lrun_atC loop29_0]
  simp (implicitDefEqProofs := false) (disch := omega) only [go_sem, seval, rgn Tryd.f29 5 rfl]
def UEnd (S B M T : Nat) (b : Int) (fl : Bool) (sh : List Sh) (rt0 : Nat → Nat) (a c : Nat) (h : AHeap) (w : Int) (N : Nat) (res : Bool) (H : AHeap) : Prop :=
  ∃ ns' rt' r' vis' w', SP H S ns' b fl w' ∧ Ok sh rt' r' ∧ NR H S B sh rt' r' vis' w' ns' ∧ Ku S M T h H ∧ w ≤ w' ∧ w' ≤ w + 2 * N ∧ (if res then ∃ one', UI sh rt0 a c rt' one' [] else ∀ M, Mod sh rt0 M → M a ≠ M c)
theorem UEnd.mono {a c : Nat} {rt0 : Nat → Nat} {H H0 : AHeap} {w0 : Int} {N N0 : Nat} {res : Bool} (x : UEnd S B M T b fl sh rt0 a c h w N res H) (k : Ku S M T H0 h) (hw : w0 ≤ w) (hw2 : w + 2 * N ≤ w0 + 2 * N0) : UEnd S B M T b fl sh rt0 a c H0 w0 N0 res H := by
  obtain ⟨ns', rt', r', vis', w', h1, h2, h3, h4, h5, h6, h7⟩ := x
  exact ⟨ns', rt', r', vis', w', h1, h2, h3, k.trans h4, by omega, by omega, h7⟩
set_option maxHeartbeats 8000000 in
theorem unify_loop {rt0 : Nat → Nat} {a c : Nat} (hMS : M ≠ S) (hTS : T ≠ S) (hMT : M ≠ T) (hBM : B ≤ M) (hBT : B ≤ T) (hsz : wt sh (fun _ => false) 0 < 90000) :
    ∀ (N : Nat) (todo rest : List (Nat × Nat)) (h : AHeap) (g : Nat) (P : NMap) (rt r : Nat → Nat) (vis : Nat → Bool) (w : Int) (ns : List Nd) (a6 : AV), wt sh (keys (prs P)) 0 + todo.length ≤ N → N ≤ 90000 → 0 ≤ w → w + 2 * N ≤ 900000000 → Ok sh rt r → UI sh rt0 a c rt (prs P) todo → B ≤ h.length → SP h S ns b fl w → NR h S B sh rt r vis w ns → MN h M P → TP h T g (todo ++ rest) →
    ∃ H res a6' a8, lrun Tryd.prog md fg (fg 29) (loopOf Tryd.f29 0) (fg 29 1) (((.ptr S 0) :: U::U::U::U::U::(a6) :: (.mp M) :: (.arr T 0 todo.length g 2) :: U::U::U::U::U::U::U::U::U::U::U::U::U::U::U::U::U::U::U::U::U::U::U::U::U::U::U::U::U::U::U::U::U::U::U::U::U::U::U::U::U::U::U::U::U::U::U::U::U::U::U::U::U::U::U::U::U::U::U::U::U::U::U::U::U::U::U::U::U::U::U::U::U::U::U::U::U::U::U::U::U::U::U::U::U::U::U::U::U::U::U::U::U::U::U::U::U::U::U::U::U::U::U::U::U::U::U::U::U::U::U::U::U::U::U::U::U::[] : List AV)) h = some (if res then .exit 0 else .ret, ((.ptr S 0) :: U::U::U::U::U::(a6') :: (.mp M) :: (a8) :: U::U::U::U::U::U::U::U::U::U::U::U::U::U::U::U::U::U::U::U::U::U::U::U::U::U::U::U::U::U::U::U::U::U::U::U::U::U::U::U::U::U::U::U::U::U::U::U::U::U::U::U::U::U::U::U::U::U::U::U::U::U::U::U::U::U::U::U::U::U::U::U::U::U::U::U::U::U::U::U::U::U::U::U::U::U::U::U::U::U::U::U::U::U::U::U::U::U::U::U::U::U::U::U::U::U::U::U::U::U::U::U::U::U::U::U::U::[] : List AV), H) ∧ (res = false → a6' = .val (.bool false)) ∧ UEnd S B M T b fl sh rt0 a c h w N res H := by
  intro N
  induction N with
  | zero =>
    intro todo rest h g P rt r vis w ns a6 hN _ _ _ ok u hB hs hn hm hT
    have : todo = [] := List.eq_nil_of_length_eq_zero (by omega)
    subst this
    exact ⟨h, true, a6, _, un_end2 h a6 S M T g, by simp, ns, rt, r, vis, w, hs, ok, hn, Ku.refl _ _ _ _, by omega, by omega, by rw [if_pos rfl]; exact ⟨_, u⟩⟩
  | succ N ih =>
    intro todo rest h g P rt r vis w ns a6 hN hN2 hw hw2 ok u hB hs hn hm hT
    rcases List.eq_nil_or_concat todo with rfl | ⟨todo, ⟨p, q⟩, rfl⟩
    · exact ⟨h, true, a6, _, un_end2 h a6 S M T g, by simp, ns, rt, r, vis, w, hs, ok, hn, Ku.refl _ _ _ _, by omega, by omega, by rw [if_pos rfl]; exact ⟨_, u⟩⟩
    rw [List.concat_eq_append] at *
    rw [List.length_append, List.length_singleton] at hN
    obtain ⟨hpl, hql⟩ := ui_pq u
    have hpr : ∀ z ∈ prs P, z.2 < sh.length ∧ rt z.2 = z.2 := fun z hz => by
      obtain ⟨s, s', h1, h2, h3, h4⟩ := u.sig z hz
      exact ⟨lt_of_at h2, ok.con _ s' h2 (h4.1 ▸ h3)⟩
    obtain ⟨H1, H2, ns2, c1, c2, c3, c4, s2, n2, m2, t2, k2⟩ := two_tops ok u.ord hpr hMS hTS hpl hql hs hn hm hT
    have htl : todo.length ≤ 100000 := by omega
    have kk2 := k2.ku M T
    have hB2 : B ≤ H2.length := by have := k2.1; omega
    obtain ⟨xl, xr⟩ := top_root' ok u hpl
    obtain ⟨yl, yr⟩ := top_root' ok u hql
    have hTT : TP H2 T g (todo ++ ([(p, q)] ++ rest)) := by rw [← List.append_assoc]; exact t2
    by_cases hxy : topO (prs P) (rt p) = topO (prs P) (rt q)
    · rw [r_same htl hT c1 c2 c3 c4 hxy]
      obtain ⟨H, res, a6', a8, e1, e2, e3⟩ := ih todo _ H2 g P rt r vis w ns2 a6 (by omega) (by omega) hw (by omega) ok (ui_same u hxy) hB2 s2 n2 m2 hTT
      exact ⟨H, res, a6', a8, e1, e2, e3.mono kk2 (Int.le_refl _) (by omega)⟩
    obtain ⟨n, sx, hx, hsx, qx⟩ := n2.at xl
    obtain ⟨m, sy, hy, hsy, qy⟩ := n2.at yl
    by_cases hkx : sx.kind = 1
    · obtain ⟨H3, ns3, vis3, res, w3, d1, d2, d3, d4, d5, d6⟩ := become_c2 ok s2 n2 hB2 (by omega) (by omega) xl xr yl yr
      have e := r_var (a6 := a6) htl hT c1 c2 c3 c4 s2 hx (by rw [qx.kind]; exact hkx) hxy d1
      rw [e]
      cases res with
      | false =>
        obtain ⟨d6, d7⟩ := d6
        exact ⟨H3, false, _, _, rfl, fun _ => rfl, ns3, rt, r, vis3, w3, d2, ok, d7, kk2.trans (d5.ku M T), by omega, by omega, ui_no_var ok u (fun z => hxy z.symm) (.inl ⟨rfl, rfl⟩) d6⟩
      | true =>
        obtain ⟨d6, d7⟩ := d6
        have ok3 := bnd_ok ok hsx hkx xr yl yr d6
        obtain ⟨H, res, a6', a8, e1, e2, e3⟩ := ih todo _ H3 g P _ _ vis3 w3 ns3 a6 (by omega) (by omega) (by omega) (by omega) ok3 (ui_bnd u xl xr (.inl ⟨rfl, rfl⟩)) (by have := d5.1; omega) d2 d7 (d5.2 M _ m2 (by simp) hMS (by simp)) (d5.2 T _ hTT (by simp) hTS (by simp))
        exact ⟨H, res, a6', a8, e1, e2, e3.mono (kk2.trans (d5.ku M T)) d3 (by omega)⟩
    by_cases hky : sy.kind = 1
    · obtain ⟨H3, ns3, vis3, res, w3, d1, d2, d3, d4, d5, d6⟩ := become_c2 ok s2 n2 hB2 (by omega) (by omega) yl yr xl xr
      have e := r_var2 (a6 := a6) htl hT c1 c2 c3 c4 s2 hx (by rw [qx.kind]; exact hkx) hy (by rw [qy.kind]; exact hky) hxy d1
      rw [e]
      cases res with
      | false =>
        obtain ⟨d6, d7⟩ := d6
        exact ⟨H3, false, _, _, rfl, fun _ => rfl, ns3, rt, r, vis3, w3, d2, ok, d7, kk2.trans (d5.ku M T), by omega, by omega, ui_no_var ok u hxy (.inr ⟨rfl, rfl⟩) d6⟩
      | true =>
        obtain ⟨d6, d7⟩ := d6
        have ok3 := bnd_ok ok hsy hky yr xl xr d6
        obtain ⟨H, res, a6', a8, e1, e2, e3⟩ := ih todo _ H3 g P _ _ vis3 w3 ns3 a6 (by omega) (by omega) (by omega) (by omega) ok3 (ui_bnd u yl yr (.inr ⟨rfl, rfl⟩)) (by have := d5.1; omega) d2 d7 (d5.2 M _ m2 (by simp) hMS (by simp)) (d5.2 T _ hTT (by simp) hTS (by simp))
        exact ⟨H, res, a6', a8, e1, e2, e3.mono (kk2.trans (d5.ku M T)) d3 (by omega)⟩
    have cs := same_c2 ok s2 n2 hsx hsy
    by_cases hsg : sigEq sx sy
    · rw [decide_eq_true hsg] at cs
      have hkeys := keys_no (one := prs P) (x := topO (prs P) (rt p)) (fun z hz => ord_topO _ _ u.ord z hz)
      have hwt := wt_upd sh (keys (prs P)) 0 _ sx hsx (by rw [Nat.zero_add]; exact hkeys)
      rw [Nat.zero_add] at hwt
      obtain ⟨H4, g', rest', e, t4, m4, s4, k4⟩ := r_push (a6 := a6) htl hT c1 c2 c3 c4 s2 n2 hsx hsy hkx hky hxy hsg.2.2.2 (by omega) hTS hMT hMS hBT m2 t2 cs
      rw [e]
      have hprs := (prs_mset (P := P) (x := topO (prs P) (rt p)) (y := topO (prs P) (rt q)) (fun z hz => ord_topO _ _ u.ord z hz)).1
      have hu := ui_one u rfl rfl hxy hsx hsy hkx hsg (fun k hk => (ok.kid _ sx k hsx hk).1) (fun k hk => (ok.kid _ sy k hsy hk).1)
      obtain ⟨H, res, a6', a8, e1, e2, e3⟩ := ih _ rest' H4 g' (mset P (topO (prs P) (rt p)) (topO (prs P) (rt q))) rt r vis w ns2 .unk (by
          rw [hprs, keys_add, List.length_append, List.length_reverse, List.length_zip, ← hsg.2.2.2, Nat.min_self]; omega) (by omega) hw (by omega) ok (by rw [hprs]; exact hu) (by have := k4.1; omega) s4 (n2.ku hBM hBT k4) m4 t4
      exact ⟨H, res, a6', a8, e1, e2, e3.mono (kk2.trans k4) (Int.le_refl _) (by omega)⟩
    · rw [decide_eq_false hsg] at cs
      have e := r_no (a6 := a6) htl hT c1 c2 c3 c4 s2 hx (by rw [qx.kind]; exact hkx) hy (by rw [qy.kind]; exact hky) hxy cs
      rw [e]
      exact ⟨H2, false, _, _, rfl, fun _ => rfl, ns2, rt, r, vis, w, s2, ok, n2, kk2, by omega, by omega, ui_no_sig u hsx hsy hkx hky hsg⟩
end
end Go.Proofs.YtncjbccjpneoiaaDoor
namespace Go.Proofs.YtncjbccjpneoiaaDoor
open Go Go.Ab Go.Proofs
open AV renaming unk → U
open Bool renaming false → J, true → O
set_option maxRecDepth 100000
set_option linter.unusedSimpArgs false
set_option linter.unusedVariables false
set_option maxHeartbeats 8000000 in
theorem unify_c {h : AHeap} {S B : Nat} {ns : List Nd} {b w : Int} {sh : List Sh} {rt r : Nat → Nat} {vis : Nat → Bool} (ok : Ok sh rt r) (hs : SP h S ns b false w) (hn : NR h S B sh rt r vis w ns) (hB : B ≤ h.length) (hsz : wt sh (fun _ => false) 0 < 80000) (hw : 0 ≤ w) (hw2 : w ≤ 800000000) (hl : sh.length ≤ 200000) {i j : Nat} (hi : i < sh.length) (hj : j < sh.length) :
    ∃ H res ns' rt' r' vis' w', doCall md (aval Tryd.prog md fg) 29 [.ptr S 0, .int i, .int j] h = some (.val (.bool res), H) ∧ SP H S ns' b false w' ∧ Ok sh rt' r' ∧ NR H S B sh rt' r' vis' w' ns' ∧ Kf S h H ∧ w ≤ w' ∧ w' ≤ w + 200000 ∧ (if res then (∀ M, Mod sh rt' M → Mod sh rt M ∧ M i = M j) ∧ (∀ M, Mod sh rt M → M i = M j → Mod sh rt' M) else ∀ M, Mod sh rt M → M i ≠ M j) := by
  have hs0 := hs
  have hSl : S < h.length := by obtain ⟨_, h1, _⟩ := hs; exact hlt_of h1 (by simp)
  have s1 := sp_app hs [.arr 1 [.int (i : Int), .int (j : Int)] 0]
  have ct := there_c s1 h.length 0 [(i : Int), (j : Int)] hget_last (by simp)
  have ho : [(i : Int), (j : Int)].any (out ns.length) = false := by
    rw [hn.1]
    simp [out]; omega
  rw [ho] at ct
  simp only [List.length_cons, List.length_nil] at ct
  have s2 := sp_app hs [.arr 1 [.int (i : Int), .int (j : Int)] 0, .map [] 0, .arr 2 [.agg [.int (i : Int), .int (j : Int)]] 0]
  have hu := ui_start (rt := rt) hi hj
  have kf0 := kf_app S h [.arr 1 [.int (i : Int), .int (j : Int)] 0, .map [] 0, .arr 2 [.agg [.int (i : Int), .int (j : Int)]] 0]
  have hwl := wt_le sh (keys (prs (([], 0) : NMap))) 0
  obtain ⟨H, res, a6', a8, c1, c0, ns', rt', r', vis', w', d1, d2, d3, d4, d5, d6, d7⟩ := unify_loop (S := S) (B := B) (M := h.length + 1) (T := h.length + 2) (b := b) (fl := false) (sh := sh) (rt0 := rt) (a := i) (c := j) (by omega) (by omega) (by omega) (by omega) (by omega) (by omega) 80001 [(i, j)] [] _ 0 ([], 0) rt r vis w ns (.val (.bool false)) (by rw [List.length_singleton]; omega) (by omega) hw (by omega) ok hu (by simp; omega) s2 (hn.kf kf0) (sb_get1 _ _ _ rfl) (sb_get2 _ _ _ _ rfl)
  have kf : Kf S h H := by
    have k := d4
    refine ⟨Nat.le_trans kf0.1 k.1, fun x o e y1 y2 y3 => ?_⟩
    have := hlt_of e y1
    exact k.2 x o (kf0.2 x o e y1 y2 y3) y1 y2 (by omega) (by omega) y3
  rw [List.length_singleton] at c1
  have e : aval Tryd.prog md fg 29 [.ptr S 0, .int i, .int j] h = some (.val (.bool res), H) := by
    cases res
    · have := c0 rfl
      subst this
      simp only [Bool.false_eq_true, if_false] at c1
      rw [aval_of Tryd.func29 body29 Tryd.results29 Tryd.ntmps29 ok29]
      simp (implicitDefEqProofs := false) (disch := omega) only [go_sem, seval, rgn Tryd.f29 0 rfl, rgn Tryd.f29 1 rfl, rgn Tryd.f29 3 rfl, rgn Tryd.f29 4 rfl, ct, List.append_assoc, List.cons_append, List.nil_append, aop_makeMap0, isMapT_90, abuild_91, c1, List.length_append, List.length_cons, List.length_nil]
    · simp only [if_true] at c1
      rw [aval_of Tryd.func29 body29 Tryd.results29 Tryd.ntmps29 ok29]
      simp (implicitDefEqProofs := false) (disch := omega) only [go_sem, seval, rgn Tryd.f29 0 rfl, rgn Tryd.f29 1 rfl, rgn Tryd.f29 3 rfl, rgn Tryd.f29 4 rfl, rgn Tryd.f29 24 rfl, ct, List.append_assoc, List.cons_append, List.nil_append, aop_makeMap0, isMapT_90, abuild_91, c1, List.length_append, List.length_cons, List.length_nil]
  obtain ⟨H', z1, z2, z3, z4⟩ := doCall_sp5 md29 e hs0 d1 kf.1
  refine ⟨H', res, ns', rt', r', vis', w', z1, z2, d2, d3.agree hB z4, kf.agree z3 z4, d5, by omega, ?_⟩
  cases res
  · simp only [Bool.false_eq_true, if_false] at d7 ⊢
    exact d7
  · simp only [if_true] at d7 ⊢
    obtain ⟨one', u⟩ := d7
    exact ⟨fun M hm => ⟨u.back M hm, ui_end u hm⟩, fun M hm e => (u.gen M hm e).1⟩
end Go.Proofs.YtncjbccjpneoiaaDoor
namespace Go.Proofs.YtncjbccjpneoiaaDoor
open Go Go.Ab Go.Proofs
open AV renaming unk → U
open Bool renaming false → J, true → O
set_option maxRecDepth 100000
set_option linter.unusedSimpArgs false
set_option linter.unusedVariables false
def AR (S : Nat) (h H : AHeap) : Prop := ∀ A n g c, hget H S = .vars (.arr A 0 n g 7 :: c) → h.length ≤ A ∨ ∃ n0 g0 c0, hget h S = .vars (.arr A 0 n0 g0 7 :: c0)
theorem AR.refl (S : Nat) (h : AHeap) : AR S h h := fun A n g c e => .inr ⟨n, g, c, e⟩
theorem AR.trans {S : Nat} {a b c : AHeap} (x : AR S a b) (y : AR S b c) (hl : a.length ≤ b.length) : AR S a c := fun A n g e he => by
  rcases y A n g e he with h | ⟨n0, g0, c0, h⟩
  · exact .inl (by omega)
  · exact x A n0 g0 c0 h
theorem AR.same {S : Nat} {h H H' : AHeap} (x : AR S h H) (e : hget H' S = hget H S) : AR S h H' := fun A n g c he => x A n g c (by rw [← e]; exact he)
theorem AR.app {S : Nat} {h : AHeap} (hS : S < h.length) (l : AHeap) : AR S h (h ++ l) := (AR.refl S h).same (hget_app l hS)
theorem nn_add2 {h : AHeap} {nv : AV} {ns : List Nd} (hn : NN h nv ns) (hl : ns.length ≤ 200000) (n : Nd) : ∃ v H, (∀ z, appT (some (7, 88, z)) h nv (some [ndV n]) = some (v, H)) ∧ NN H v (ns ++ [n]) ∧ (h.length ≤ H.length ∧ ∀ j o, hget h j = o → o ≠ .dead → (∀ b c, o ≠ .arr 7 b c) → hget H j = o) ∧ fits 1 v = true ∧ v.cells = [v] ∧ ∃ A g, v = .arr A 0 (ns.length + 1) g 7 ∧ (h.length ≤ A ∨ ∃ g0, nv = .arr A 0 ns.length g0 7) := by
  rcases hn with ⟨rfl, rfl⟩ | ⟨A, g, rfl, h2⟩
  · refine ⟨_, _, fun z => appT_slc _ _ _ _ _ rfl rfl (by simp) (by simp), .inr ⟨h.length, 0, by simp, by rw [hget_last]; rfl⟩, ⟨by simp, fun j o e h1 _ => by rw [hget_app _ (hlt_of e h1)]; exact e⟩, rfl, rfl, _, _, rfl, .inl (Nat.le_refl _)⟩
  · refine ⟨_, _, fun z => appT_arr _ _ _ _ _ _ _ _ h2 (by simp) rfl (by simp; omega), .inr ⟨A, g + 1, by simp, by rw [hget_set_eq (hlt_of h2 (by simp))]; simp⟩, ⟨by simp, fun j o e h1 h3 => ?_⟩, rfl, rfl, _, _, rfl, .inr ⟨g, rfl⟩⟩
    rw [hget_set_ne (by rintro rfl; rw [h2] at e; exact h3 _ _ e.symm)]; exact e
set_option maxHeartbeats 4000000 in
theorem put_c6 {h : AHeap} {S : Nat} {ns : List Nd} {b w : Int} (hs : SP h S ns b false w) (hlt : (ns.length : Int) < b) (hb : b ≤ 200000) (k : Int) (p m : List UInt8) (ks : AV) (hks : ks.cells = [ks] ∧ okVal ks = true) (l t mk : Int) :
    ∃ H, doCall md (aval Tryd.prog md fg) 43 [.ptr S 0, ndV ⟨k, p, m, ks, l, t, mk⟩] h = some (.int ns.length, H) ∧ SP H S (ns ++ [⟨k, p, m, ks, l, ns.length, mk⟩]) b false w ∧ Kf S h H ∧ AR S h H := by
  have hs0 := hs
  have cf := full_c (sp_app hs [.vars [.int k, .str (txt p), .str (txt m), ks, .int l, .int t, .int mk]])
  obtain ⟨nv, h1, h2⟩ := hs
  have hS := hlt_of h1 (by simp)
  have g1 : ∀ l, hget (h ++ l) S = .vars [nv, .int b, .val (.bool false), .int w] := fun l => by rw [hget_app l hS]; exact h1
  have hlen := nn_len h2
  have hge : ¬ (b ≤ (ns.length : Int)) := by omega
  have hn2 : NN (h ++ [.vars [.int k, .str (txt p), .str (txt m), ks, .int l, .int (ns.length : Int), .int mk]]) nv ns := by
    rcases h2 with h2 | ⟨A, g, e1, e2⟩
    · exact .inl h2
    · exact .inr ⟨A, g, e1, by rw [hget_app _ (hlt_of e2 (by simp))]; exact e2⟩
  obtain ⟨v, H1, x1, x2, x3, x4, x5, A, g, hv, hA⟩ := nn_add2 hn2 (by omega) ⟨k, p, m, ks, l, ns.length, mk⟩
  have y1 : hget H1 S = .vars [nv, .int b, .val (.bool false), .int w] := x3.2 S _ (g1 _) (by simp) (by simp)
  have yb : hget H1 h.length = .vars [.int k, .str (txt p), .str (txt m), ks, .int l, .int (ns.length : Int), .int mk] := x3.2 _ _ hget_last (by simp) (by simp)
  have yb2 : hget (H1.set S (.vars [v, .int b, .val (.bool false), .int w])) h.length = .vars [.int k, .str (txt p), .str (txt m), ks, .int l, .int (ns.length : Int), .int mk] := by rw [hget_set_ne (by omega)]; exact yb
  have hS1 := hlt_of y1 (by simp)
  rw [ndV_mk] at x1
  have e : aval Tryd.prog md fg 43 [.ptr S 0, ndV ⟨k, p, m, ks, l, t, mk⟩] h = some (.int ns.length, H1.set S (.vars [v, .int b, .val (.bool false), .int w])) := by
    rw [ndV_mk]
    rw [aval_of Tryd.func43 body43 Tryd.results43 Tryd.ntmps43 ok43]
    simp (implicitDefEqProofs := false) (disch := first | omega | exact List.length_set) only [go_sem, seval, rgn Tryd.f43 0 rfl, rgn Tryd.f43 1 rfl, rgn Tryd.f43 3 rfl, rgn Tryd.f43 6 rfl, rgn Tryd.f43 7 rfl, rgn Tryd.f43 8 rfl, cf, g1, hlen, hge, hget_last, set_last, hks.1, hks.2, x1, x4, x5, y1, yb2, thenDraw_append, thenDraw_store]
  have hlen1 := x3.1
  simp only [List.length_append, List.length_cons, List.length_nil] at hlen1
  have kf : Kf S h (H1.set S (.vars [v, .int b, .val (.bool false), .int w])) := ⟨by simp; omega, fun j o ej h1 h2 h3 => by
    rw [hget_set_ne (by omega)]
    exact x3.2 j o (by rw [hget_app _ (hlt_of ej h1)]; exact ej) h1 h3⟩
  obtain ⟨H', z1, z2, z3, z4⟩ := doCall_sp5 md43 e hs0 ⟨v, hget_set_eq hS1, nn_set x2 y1⟩ kf.1
  refine ⟨H', z1, z2, kf.agree z3 z4, fun A' n g' c he => ?_⟩
  rw [z4 S hS, hget_set_eq hS1, hv] at he
  simp only [AObj.vars.injEq, List.cons.injEq, AV.arr.injEq] at he
  obtain ⟨⟨rfl, _⟩, _⟩ := he
  rcases hA with hA | ⟨g0, hA⟩
  · simp only [List.length_append, List.length_cons, List.length_nil] at hA; exact .inl (by omega)
  · exact .inr ⟨_, g0, _, by rw [h1, hA]⟩
theorem belowL_mem : ∀ {n : Nat} {l : List AV}, belowL n l = true → ∀ x ∈ l, below n x = true
  | n, [], _, x, hx => by cases hx
  | n, a :: r, h, x, hx => by
    simp only [belowL, Bool.and_eq_true] at h
    rcases List.mem_cons.1 hx with rfl | hx
    · exact h.1
    · exact belowL_mem h.2 x hx
theorem hget_of_at {h H : AHeap} {i : Nat} (e : H[i]? = h[i]?) : hget H i = hget h i := by unfold hget; rw [List.getD_eq_getElem?_getD, e, ← List.getD_eq_getElem?_getD]
theorem gc_keep {h H : AHeap} {S : Nat} {ns ns' : List Nd} {b b' : Int} {f f' : Bool} {w w' : Int} (h0 : SP h S ns b f w) (h1 : SP H S ns' b' f' w') (hne : ns'.length ≠ ns.length) (hgt : ns.length ≤ ns'.length) (har : AR S h H) (hg : GcOk h.length h H) : ∀ n ∈ ns', below h.length n.kids = true := by
  have hne' : ns' ≠ [] := by rintro rfl; simp at hne hgt; simp [hgt] at hne
  obtain ⟨A, g, e1, e2⟩ := sp_arr h1 hne'
  obtain ⟨nv, a1, a2⟩ := h0
  have hS := hlt_of a1 (by simp)
  have hA : A < h.length := by
    rcases hg S hS with q | q
    · exfalso
      have := hget_of_at q
      rw [e1, a1] at this
      simp only [AObj.vars.injEq, List.cons.injEq] at this
      rcases a2 with ⟨_, a2⟩ | ⟨A', g', a2, _⟩
      · rw [a2] at this; cases this.1
      · rw [a2] at this
        have h5 := this.1
        simp only [AV.arr.injEq] at h5
        omega
    · rw [e1] at q
      simp only [belowO, belowL, below, Bool.and_eq_true, decide_eq_true_eq] at q
      exact q.1
  rcases har A _ g _ e1 with q | ⟨n0, g0, c0, q⟩
  · omega
  · rw [a1] at q
    simp only [AObj.vars.injEq, List.cons.injEq] at q
    rcases a2 with ⟨_, a2⟩ | ⟨A', g', a2, a3⟩
    · rw [a2] at q; cases q.1
    · rw [a2] at q
      have h5 := q.1
      simp only [AV.arr.injEq] at h5
      obtain ⟨rfl, _⟩ := h5
      rcases hg A' hA with z | z
      · exfalso
        have := hget_of_at z
        rw [e2, a3] at this
        simp only [AObj.arr.injEq] at this
        have := congrArg List.length this.2.1
        simp at this
        exact hne this
      · rw [e2] at z
        intro n hn
        have := belowL_mem z (ndV n) (List.mem_map.2 ⟨n, hn, rfl⟩)
        have := belowL_mem (l := [.int n.kind, .str (txt n.pkg), .str (txt n.name), n.kids, .int n.level, .int n.to, .int n.mark]) (by unfold ndV at this; simpa only [below] using this) n.kids (by simp)
        exact this
theorem doCall_imp {f : FuncId} {vs : List AV} {h H : AHeap} {res : AV} {S B' : Nat} {ns ns' : List Nd} {b b' : Int} {f0 f1 : Bool} {w w' : Int} {sh' : List Sh} {rt r : Nat → Nat} {vis : Nat → Bool} (hm : md f = 1) (e : aval Tryd.prog md fg f vs h = some (res, H)) (h0 : SP h S ns b f0 w) (h1 : SP H S ns' b' f1 w') (hn : NR H S B' sh' rt r vis w' ns') (hB : B' ≤ H.length) (hl : h.length ≤ H.length) (hgt : ns.length ≤ ns'.length) (hnew : ns'.length ≠ ns.length ∨ B' ≤ h.length) (har : AR S h H) :
    ∃ H' B'', doCall md (aval Tryd.prog md fg) f vs h = some (res, H') ∧ SP H' S ns' b' f1 w' ∧ NR H' S B'' sh' rt r vis w' ns' ∧ B'' ≤ H'.length ∧ (B'' ≤ B' ∨ B'' ≤ h.length) ∧ h.length ≤ H'.length ∧ (∀ j, j < h.length → hget H' j = hget H j) ∧ AR S h H' := by
  have hS : S < h.length := by obtain ⟨_, q, _⟩ := h0; exact hlt_of q (by simp)
  obtain ⟨H', z1, z2, z3, z4⟩ := doCall_sp5 hm e h0 h1 hl
  rw [doCall_0 (by omega)] at z1
  unfold doCall0 at z1
  rw [if_neg (by omega), rated_id (by omega), e] at z1
  dsimp only at z1
  split at z1
  · rename_i hg
    cases z1
    have hz : doCall md (aval Tryd.prog md fg) f vs h = some (res, H.take h.length) := by
      rw [doCall_0 (by omega)]; unfold doCall0
      rw [if_neg (by omega), rated_id (by omega), e]
      dsimp only
      rw [if_pos hg]
    rcases hnew with hnew | hnew
    · have hk := gc_keep h0 h1 hnew hgt har hg.2
      refine ⟨_, h.length, hz, z2, ⟨hn.1, fun i n s q1 q2 => ?_⟩, z3, .inr (Nat.le_refl _), z3, z4, har.same (z4 S hS)⟩
      have y := hn.2 i n s q1 q2
      refine ⟨y.kind, y.pkg, y.name, ?_, y.to, y.mark, y.le⟩
      have hb := hk n (List.mem_of_getElem? q1)
      rcases y.kids with y | ⟨K, g, y1, y2, y3, y4⟩
      · exact .inl y
      · rw [y1] at hb
        have hK : K < h.length := by simpa [below] using hb
        exact .inr ⟨K, g, y1, by rw [z4 K hK]; exact y2, y3, hK⟩
    · exact ⟨_, B', hz, z2, hn.agree hnew z4, by omega, .inl (Nat.le_refl _), z3, z4, har.same (z4 S hS)⟩
  · rename_i hg
    cases z1
    have hz : doCall md (aval Tryd.prog md fg) f vs h = some (res, H) := by
      rw [doCall_0 (by omega)]; unfold doCall0
      rw [if_neg (by omega), rated_id (by omega), e]
      dsimp only
      rw [if_neg hg]
    exact ⟨H, B', hz, h1, hn, hB, .inl (Nat.le_refl _), hl, fun _ _ => rfl, har⟩
def idf : Nat → Nat := fun i => i
def yes : Nat → Bool := fun _ => true
theorem NR.add {h H : AHeap} {S B B' : Nat} {sh : List Sh} {ns : List Nd} (x : NR h S B sh idf idf yes 0 ns) (hB : B ≤ B') (ha : ∀ v kl, KB h S B v kl → KB H S B' v kl) {n : Nd} {s : Sh} (hk : n.kind = s.kind) (hp : n.pkg = s.pkg) (hm : n.name = s.name) (hkb : KB H S B' n.kids (ints s.kids)) (hto : n.to = (sh.length : Int)) (hmk : n.mark = 0) : NR H S B' (sh ++ [s]) idf idf yes 0 (ns ++ [n]) := by
  refine ⟨by simp [x.1], fun i m t h1 h2 => ?_⟩
  by_cases hi : i < sh.length
  · rw [List.getElem?_append_left (by rw [x.1]; exact hi)] at h1
    rw [List.getElem?_append_left hi] at h2
    have y := x.2 i m t h1 h2
    obtain ⟨j, j1, j2, j3⟩ := y.to
    exact ⟨y.kind, y.pkg, y.name, ha _ _ y.kids, ⟨j, j1, by simp; omega, j3⟩, y.mark, y.le⟩
  · have hl := lt_of_at h1
    have : i = sh.length := by simp [x.1] at hl; omega
    subst this
    rw [List.getElem?_append_right (by rw [x.1]; exact Nat.le_refl _), x.1, Nat.sub_self] at h1
    rw [List.getElem?_append_right (Nat.le_refl _), Nat.sub_self] at h2
    cases h1; cases h2
    exact ⟨hk, hp, hm, hkb, ⟨sh.length, hto, by simp, rfl, .inl rfl, fun _ => rfl, fun _ => rfl⟩, by rw [hmk]; simp [yes], by rw [hmk]; exact Int.le_refl _⟩
theorem var_c2 {h : AHeap} {S : Nat} {ns : List Nd} {w : Int} (hs : SP h S ns 200000 false w) (hlt : ns.length < 200000) (l : Int) : ∃ H, doCall md (aval Tryd.prog md fg) 27 [.ptr S 0, .int l] h = some (.int ns.length, H) ∧ SP H S (ns ++ [vNd l ns.length]) 200000 false w ∧ Kf S h H ∧ AR S h H := by
  have hS : S < h.length := by obtain ⟨_, q, _⟩ := hs; exact hlt_of q (by simp)
  obtain ⟨H, c, h1, h2, h3⟩ := put_c6 hs (by omega) (by omega) 1 [] [] (.slc true []) slcOk l 0 0
  rw [nd0] at c
  have e : aval Tryd.prog md fg 27 [.ptr S 0, .int l] h = some (.int ns.length, H) := by
    rw [aval_of Tryd.func27 body27 Tryd.results27 Tryd.ntmps27 ok27]
    simp (implicitDefEqProofs := false) (disch := omega) only [go_sem, seval, rgn Tryd.f27 0 rfl, rgn Tryd.f27 1 rfl, c]
  obtain ⟨H', z1, z2, z3, z4⟩ := doCall_sp5 md27 e hs h1 h2.1
  exact ⟨H', z1, z2, h2.agree z3 z4, h3.same (z4 S hS)⟩
def SO (h : AHeap) (Z S V : Nat) (nv : AV) : Prop := hget h Z = .vars [.ptr S 0, .mp V, nv]
theorem fresh_c {h : AHeap} {S V Z q : Nat} {nv : AV} {ns : List Nd} {w : Int} (hs : SP h S ns 200000 false w) (hlt : ns.length < 200000) (hq : hget h q = .vars [.ptr Z 0]) (hz : SO h Z S V nv) : ∃ H, doCall md (aval Tryd.prog md fg) 55 [.ptr q 0] h = some (.int ns.length, H) ∧ SP H S (ns ++ [vNd 0 ns.length]) 200000 false w ∧ Kf S h H ∧ AR S h H := by
  have hS : S < h.length := by obtain ⟨_, q, _⟩ := hs; exact hlt_of q (by simp)
  obtain ⟨H, c, h1, h2, h3⟩ := var_c2 hs hlt 0
  unfold SO at hz
  have e : aval Tryd.prog md fg 55 [.ptr q 0] h = some (.int ns.length, H) := by
    rw [aval_of Tryd.func55 body55 Tryd.results55 Tryd.ntmps55 ok55]
    simp (implicitDefEqProofs := false) (disch := omega) only [go_sem, seval, rgn Tryd.f55 0 rfl, rgn Tryd.f55 1 rfl, hq, hz, c]
  obtain ⟨H', z1, z2, z3, z4⟩ := doCall_sp5 md55 e hs h1 h2.1
  exact ⟨H', z1, z2, h2.agree z3 z4, h3.same (z4 S hS)⟩
theorem cloneI_0 {h : AHeap} {k g : Nat} (hk : hget h k = .arr 1 [] g) : doCall md (aval Tryd.prog md fg) 45 [.arr k 0 0 g 1] h = some (.slc true [], h) := by
  have hv : sview h (.arr k 0 0 g 1) = some [] := sview_arr _ _ _ _ _ hk rfl
  have ha : ∀ z, appT (some (1, 8, z)) h (.slc true []) (some []) = some (.slc true [], h) := fun z => appT_slc0 _ _ _ _ rfl
  have e : aval Tryd.prog md fg 45 [.arr k 0 0 g 1] h = some (.slc true [], h) := by
    rw [aval_of Tryd.func45 body45 Tryd.results45 Tryd.ntmps45 ok45]
    simp (implicitDefEqProofs := false) (disch := omega) only [go_sem, seval, rgn Tryd.f45 0 rfl, rgn Tryd.f45 1 rfl, rgn Tryd.f45 3 rfl, nilA85, hv, ha]
  have hs : splitNil md 45 [.arr k 0 0 g 1] = none := rfl
  unfold doCall
  rw [hs]
  dsimp only
  unfold doCall0
  rw [if_neg (by decide)]
  have : rated (md 45) (aval Tryd.prog md fg 45 [.arr k 0 0 g 1] h) = aval Tryd.prog md fg 45 [.arr k 0 0 g 1] h := rfl
  rw [this, e]
  dsimp only
  rw [List.take_length, ite_self]
theorem make_c2 {h : AHeap} {S B : Nat} {sh : List Sh} {ns : List Nd} (hs : SP h S ns 200000 false 0) (hn : NR h S B sh idf idf yes 0 ns) (hB : B ≤ h.length) (hlt : sh.length < 200000) (kd : Int) (p m : List UInt8) {k g : Nat} {kl : List Nat} (hk : hget h k = .arr 1 ((ints kl).map AV.int) g) (hl : kl.length ≤ 100000) (hin : ∀ x ∈ kl, x < sh.length) :
    ∃ H B' n, doCall md (aval Tryd.prog md fg) 28 [.ptr S 0, .int kd, .str (txt p), .str (txt m), .arr k 0 kl.length g 1] h = some (.int sh.length, H) ∧ SP H S (ns ++ [n]) 200000 false 0 ∧ NR H S B' (sh ++ [⟨kd, p, m, kl⟩]) idf idf yes 0 (ns ++ [n]) ∧ B' ≤ H.length ∧ Kf S h H ∧ AR S h H ∧ (∀ K g l, n.kids = .arr K 0 l g 1 → h.length ≤ K) := by
  have hS : S < h.length := by obtain ⟨_, q, _⟩ := hs; exact hlt_of q (by simp)
  have hnl := hn.1
  have ct := there_c hs k g (ints kl) hk (by rw [ints_len]; omega)
  have hany : (ints kl).any (out ns.length) = false := by
    rw [List.any_eq_false]
    intro x hx
    obtain ⟨y, hy, rfl⟩ := List.mem_map.1 hx
    have := hin y hy
    rw [hnl]
    simp [out]; omega
  rw [hany, ints_len] at ct
  by_cases hne : kl = []
  · subst hne
    have cc := cloneI_0 hk
    obtain ⟨H, cp, p1, p2, p3⟩ := put_c6 hs (by omega) (by omega) kd p m (.slc true []) ⟨rfl, rfl⟩ 0 0 0
    rw [ndV_mk] at cp
    have e : aval Tryd.prog md fg 28 [.ptr S 0, .int kd, .str (txt p), .str (txt m), .arr k 0 ([] : List Nat).length g 1] h = some (.int ns.length, H) := by
      simp only [List.length_nil] at ct ⊢
      rw [aval_of Tryd.func28 body28 Tryd.results28 Tryd.ntmps28 ok28]
      simp (implicitDefEqProofs := false) (disch := omega) only [go_sem, seval, rgn Tryd.f28 0 rfl, rgn Tryd.f28 1 rfl, rgn Tryd.f28 3 rfl, ct, cc, cp]
    have hNR : NR H S B (sh ++ [⟨kd, p, m, []⟩]) idf idf yes 0 (ns ++ [⟨kd, p, m, .slc true [], 0, ns.length, 0⟩]) := hn.add (Nat.le_refl _) (fun _ _ x => x.kf p2) rfl rfl rfl (.inl ⟨rfl, rfl⟩) (by rw [hnl]) rfl
    obtain ⟨H', B'', z1, z2, z3, z4, _, z5, z6, z7⟩ := doCall_imp md28 e hs p1 hNR (Nat.le_trans hB p2.1) p2.1 (by simp) (.inl (by simp)) p3
    rw [hnl] at z1
    exact ⟨H', B'', _, z1, z2, z3, z4, p2.agree z5 z6, z7, fun K g l e => by cases e⟩
  · have cc := cloneI_c (l := ints kl) hk (by rw [ints_len]; omega) (by intro e; exact hne (by simpa [ints] using e))
    rw [ints_len] at cc
    obtain ⟨H, cp, p1, p2, p3⟩ := put_c6 (sp_app hs [.arr 1 ((ints kl).map AV.int) 0]) (by omega) (by omega) kd p m (.arr h.length 0 kl.length 0 1) ⟨rfl, rfl⟩ 0 0 0
    rw [ndV_mk] at cp
    have e : aval Tryd.prog md fg 28 [.ptr S 0, .int kd, .str (txt p), .str (txt m), .arr k 0 kl.length g 1] h = some (.int ns.length, H) := by
      rw [aval_of Tryd.func28 body28 Tryd.results28 Tryd.ntmps28 ok28]
      simp (implicitDefEqProofs := false) (disch := omega) only [go_sem, seval, rgn Tryd.f28 0 rfl, rgn Tryd.f28 1 rfl, rgn Tryd.f28 3 rfl, ct, cc, cp]
    have k0 := kf_app S h [.arr 1 ((ints kl).map AV.int) 0]
    have kf := k0.trans p2
    have hK : hget H h.length = .arr 1 ((ints kl).map AV.int) 0 := p2.2 _ _ hget_last (by simp) (by omega) (by simp)
    have hNR : NR H S (h.length + 1) (sh ++ [⟨kd, p, m, kl⟩]) idf idf yes 0 (ns ++ [⟨kd, p, m, .arr h.length 0 kl.length 0 1, 0, ns.length, 0⟩]) := hn.add (by omega) (fun _ _ x => (x.kf kf).mono (by omega)) rfl rfl rfl (.inr ⟨h.length, 0, by rw [ints_len], hK, by omega, by omega⟩) (by rw [hnl]) rfl
    have hHl : h.length + 1 ≤ H.length := by have := p2.1; simp at this; omega
    have har : AR S h H := (AR.app hS _).trans p3 (by simp)
    obtain ⟨H', B'', z1, z2, z3, z4, _, z5, z6, z7⟩ := doCall_imp md28 e hs p1 hNR hHl kf.1 (by simp) (.inl (by simp)) har
    rw [hnl] at z1
    exact ⟨H', B'', _, z1, z2, z3, z4, kf.agree z5 z6, z7, fun K g l e => by simp only [AV.arr.injEq] at e; omega⟩
end Go.Proofs.YtncjbccjpneoiaaDoor
