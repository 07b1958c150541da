/- Parts of the proof, each with its own heading: The document's solver: Unify as a whole. The document's Vars. The document's New. The document's New as a whole. The document's Full. The document's Full of a bare name; Solve. The document's Solve as a whole. UnifySolves is true of every input. UnifySolves: what its card needs. -/
import Derived.Test.YtncjbccjpneoiaaDoorPart14
set_option linter.unusedSimpArgs false
set_option linter.unusedVariables false
namespace Go.Proofs.YtncjbccjpneoiaaDoor
open Go Go.Ab Go.Proofs
open AV renaming unk → U
open Bool renaming false → J, true → O
set_option maxRecDepth 100000
set_option linter.unusedSimpArgs false
set_option linter.unusedVariables false
section
variable {N : List (List UInt8)} {bs : List Tm} {rk : List UInt8 → Nat} {Z K : Nat} {nb : Bool}
theorem lk_free (w : DW N bs rk) {t u : Tm} (lk : LK N bs rk t u) {y : List UInt8} (ht : t = vTm y) (hy : bd N bs y = none) : u.kind = 1 := by
  have := lk.same _ (fin_dm w)
  rw [ht, inst_vTm, fin_free hy] at this
  obtain ⟨q, b, c, d, e⟩ := u
  rw [inst_mk] at this
  by_cases hq : q = 1
  · exact hq
  · rw [if_neg hq] at this
    unfold vTm at this
    simp only [Tm.mk.injEq] at this
    exact absurd this.1.symm hq
set_option maxHeartbeats 16000000 in
theorem uni_step (w : DW N bs rk) (hN : N.length ≤ 100000) (a b : Tm) (ha : a.ty) (fa : a.fit) (va : ∀ m ∈ tvars a, m ∈ N) (hb : b.ty) (fb : b.fit) (vb : ∀ m ∈ tvars b, m ∈ N) (ihc : ∀ bs1, (∃ rk', DW N bs1 rk') → cnt N bs1 < cnt N bs → ∀ c d : Tm, c.ty → c.fit → (∀ m ∈ tvars c, m ∈ N) → d.ty → d.fit → (∀ m ∈ tvars d, m ∈ N) → UniOk N Z K nb bs1 c d) (ihs : ∀ c d : Tm, c.ty → c.fit → (∀ m ∈ tvars c, m ∈ N) → d.ty → d.fit → (∀ m ∈ tvars d, m ∈ N) → tsz (inst (fin N bs rk) c) < tsz (inst (fin N bs rk) a) → UniOk N Z K nb bs c d) : UniOk N Z K nb bs a b := by
  intro h hs
  obtain ⟨u, cu, lu⟩ := look_all w hN hs a ha fa va
  obtain ⟨v, cv, lv⟩ := look_all w hN hs b hb fb vb
  by_cases hu1 : u.kind = 1
  · exact uni_var w hN ha fa va hb fb vb hs cu cv lu lv hu1
  have hab : ∀ th, DM N bs th → (inst th a = inst th b ↔ inst th u = inst th v) := fun th h => by rw [lu.same th h, lv.same th h]
  have hsz : tsz (inst (fin N bs rk) a) = tsz (inst (fin N bs rk) u) := by rw [lu.same _ (fin_dm w)]
  have e5 := cells5
  have hKl := hlt_of hs.2 (by simp)
  by_cases hv1 : v.kind = 1
  · have hvv := var_of lv.ty hv1
    have hfy := lv.free hv1
    obtain ⟨v', cv', lv'⟩ := look_all w hN (hs.app [.vars (tmV u).cells, .vars (tmV v).cells]) v lv.ty lv.fit lv.vars
    obtain ⟨u', cu', lu'⟩ := look_all w hN (hs.app [.vars (tmV u).cells, .vars (tmV v).cells]) u lu.ty lu.fit lu.vars
    obtain ⟨res, bs', c57, ur⟩ := uni_var w hN lv.ty lv.fit lv.vars lu.ty lu.fit lu.vars (hs.app [.vars (tmV u).cells, .vars (tmV v).cells]) cv' cu' lv' lu' (lk_free w lv' hvv hfy)
    rw [List.set_append_left _ _ hKl] at c57
    refine ⟨res, bs', fin57 hs (j := [.vars (tmV u).cells, .vars (tmV v).cells]) ?_, ur_congr ur fun th h => by rw [hab th h]; exact eq_comm⟩
    clear hab lu lv lu' lv' cv' cu' hvv hfy ihc ihs
    obtain ⟨ak, ap, am, an, al⟩ := a
    obtain ⟨bk, bp, bm, bn, bl⟩ := b
    obtain ⟨uk, up, um, un, ul⟩ := u
    obtain ⟨vk, vp, vm, vn, vl⟩ := v
    have hu1' : ¬ uk = 1 := hu1
    have hv1' : vk = 1 := hv1
    subst hv1'
    rw [tmV_mk, tmV_mk, e5, e5] at c57
    rw [tmV_mk, tmV_mk] at cu cv
    rw [tmV_mk, tmV_mk, tmV_mk, tmV_mk, e5, e5]
    rw [aval_of Tryd.func57 body57 Tryd.results57 Tryd.ntmps57 ok57]
    simp (implicitDefEqProofs := false) (disch := first | omega | exact List.length_set) only [go_sem, seval, rgn Tryd.f57 0 rfl, rgn Tryd.f57 1 rfl, rgn Tryd.f57 2 rfl, rgn Tryd.f57 3 rfl, rgn Tryd.f57 10 rfl, rgn Tryd.f57 15 rfl, rgn Tryd.f57 16 rfl, List.append_assoc, List.cons_append, List.nil_append, List.length_append, List.length_cons, List.length_nil, sb_get0, sb_get1, sb_set0, sb_set1, cu, cv, hu1', c57]
  · obtain ⟨ak, ap, am, an, al⟩ := a
    obtain ⟨bk, bp, bm, bn, bl⟩ := b
    obtain ⟨uk, up, um, un, ul⟩ := u
    obtain ⟨vk, vp, vm, vn, vl⟩ := v
    have hu1' : ¬ uk = 1 := hu1
    have hv1' : ¬ vk = 1 := hv1
    have hut := lu.ty
    have huf := lu.fit
    have huv := lu.vars
    have hvt := lv.ty
    have hvf := lv.fit
    have hvv := lv.vars
    have hiu : ∀ th, inst th ⟨uk, up, um, un, ul⟩ = .mk uk up um 0 (ul.map (inst th)) := fun th => by rw [inst_mk, if_neg hu1']
    have hiv : ∀ th, inst th ⟨vk, vp, vm, vn, vl⟩ = .mk vk vp vm 0 (vl.map (inst th)) := fun th => by rw [inst_mk, if_neg hv1']
    rw [tmV_mk, tmV_mk] at cu cv
    by_cases hsig : (uk = vk ∧ up = vp ∧ um = vm) ∧ ul.length = vl.length
    · obtain ⟨⟨rfl, rfl, rfl⟩, hlen⟩ := hsig
      have hl1 : ul.length ≤ 9223372036854775807 := by rw [Tm.fit] at huf; exact huf.2.2.1
      have hkid : ∀ bs1, (∃ rk', DW N bs1 rk') → cnt N bs1 ≤ cnt N bs → (cnt N bs1 = cnt N bs → bs1 = bs) → ∀ q ∈ ul.zip vl, UniOk N Z K nb bs1 q.1 q.2 := fun bs1 h1 h2 h3 q hq => by
        obtain ⟨c, d⟩ := q
        obtain ⟨hc, hd⟩ := List.of_mem_zip hq
        have hc1 : c.ty := by rw [Tm.ty] at hut; exact tys_mem hut.2 c hc
        have hc2 : c.fit := by rw [Tm.fit] at huf; exact fits_mem huf.2.2.2 c hc
        have hc3 : ∀ m ∈ tvars c, m ∈ N := fun m hm => huv m (by rw [tvars, if_neg hu1']; exact tvarss_mem.2 ⟨c, hc, hm⟩)
        have hd1 : d.ty := by rw [Tm.ty] at hvt; exact tys_mem hvt.2 d hd
        have hd2 : d.fit := by rw [Tm.fit] at hvf; exact fits_mem hvf.2.2.2 d hd
        have hd3 : ∀ m ∈ tvars d, m ∈ N := fun m hm => hvv m (by rw [tvars, if_neg hv1']; exact tvarss_mem.2 ⟨d, hd, hm⟩)
        by_cases he : cnt N bs1 = cnt N bs
        · rw [h3 he]
          refine ihs c d hc1 hc2 hc3 hd1 hd2 hd3 ?_
          rw [hsz, hiu, tsz]
          have := tszs_mem (List.mem_map.2 ⟨c, hc, rfl⟩ : inst (fin N bs rk) c ∈ ul.map (inst (fin N bs rk)))
          omega
        · exact ihc bs1 h1 (by omega) c d hc1 hc2 hc3 hd1 hd2 hd3
      have hpair : ∀ th, DM N bs th → (inst th ⟨ak, ap, am, an, al⟩ = inst th ⟨bk, bp, bm, bn, bl⟩ ↔ ∀ q ∈ ul.zip vl, inst th q.1 = inst th q.2) := fun th h => by
        rw [hab th h, hiu, hiv, ← map_zip ul vl hlen]
        simp
      obtain ⟨bs2, a6, a9, c, e1, e2⟩ := kr_loop hs uk up um un vn ul vl hl1 hlen hkid _ [] rfl bs ⟨⟨rk, w⟩, Nat.le_refl _, fun _ => rfl, fun th => ⟨fun h => ⟨h, by simp⟩, fun h => h.1⟩⟩
      rw [set_id hs] at e1
      simp only [List.length_nil, Int.natCast_zero] at e1
      have hlen' : (ul.length : Int) = (vl.length : Int) := by omega
      rcases e2 with ⟨rfl, I⟩ | ⟨rfl, rfl, h1, h2, h3, h4⟩
      · refine ⟨true, bs2, fin57 hs (j := [.vars [.int uk, .str (txt up), .str (txt um), .int un, .slc false (ul.map tmV)], .vars [.int uk, .str (txt up), .str (txt um), .int vn, .slc false (vl.map tmV)]]) ?_, I.dw, I.cle, I.ceq, fun _ th => ?_, fun e => by cases e⟩
        · rw [tmV_mk, tmV_mk]
          rw [aval_of Tryd.func57 body57 Tryd.results57 Tryd.ntmps57 ok57]
          simp (implicitDefEqProofs := false) (disch := first | omega | exact List.length_set) only [go_sem, seval, rgn Tryd.f57 0 rfl, rgn Tryd.f57 1 rfl, rgn Tryd.f57 2 rfl, rgn Tryd.f57 3 rfl, rgn Tryd.f57 10 rfl, rgn Tryd.f57 15 rfl, rgn Tryd.f57 17 rfl, rgn Tryd.f57 19 rfl, rgn Tryd.f57 24 rfl, List.append_assoc, List.cons_append, List.nil_append, List.length_append, List.length_cons, List.length_nil, List.length_map, sb_get0, sb_get1, sb_set0, sb_set1, cu, cv, hu1', hlen', e1]
        · rw [I.yes th]
          exact ⟨fun ⟨h, k⟩ => ⟨h, (hpair th h).2 k⟩, fun ⟨h, k⟩ => ⟨h, (hpair th h).1 k⟩⟩
      · refine ⟨false, bs2, fin57 hs (j := [.vars [.int uk, .str (txt up), .str (txt um), .int un, .slc false (ul.map tmV)], .vars [.int uk, .str (txt up), .str (txt um), .int vn, .slc false (vl.map tmV)]]) ?_, h1, h2, h3, (fun e => by cases e), fun _ th hd e => h4 th hd ((hpair th hd).1 e)⟩
        rw [tmV_mk, tmV_mk]
        rw [aval_of Tryd.func57 body57 Tryd.results57 Tryd.ntmps57 ok57]
        simp (implicitDefEqProofs := false) (disch := first | omega | exact List.length_set) only [go_sem, seval, rgn Tryd.f57 0 rfl, rgn Tryd.f57 1 rfl, rgn Tryd.f57 2 rfl, rgn Tryd.f57 3 rfl, rgn Tryd.f57 10 rfl, rgn Tryd.f57 15 rfl, rgn Tryd.f57 17 rfl, rgn Tryd.f57 19 rfl, List.append_assoc, List.cons_append, List.nil_append, List.length_append, List.length_cons, List.length_nil, List.length_map, sb_get0, sb_get1, sb_set0, sb_set1, cu, cv, hu1', hlen', e1]
    · refine ⟨false, bs, fin57 hs (j := [.vars [.int uk, .str (txt up), .str (txt um), .int un, .slc false (ul.map tmV)], .vars [.int vk, .str (txt vp), .str (txt vm), .int vn, .slc false (vl.map tmV)]]) ?_, ⟨rk, w⟩, Nat.le_refl _, fun _ => rfl, (fun e => by cases e), fun _ th hd e => ?_⟩
      · rw [set_id hs, tmV_mk, tmV_mk]
        rw [aval_of Tryd.func57 body57 Tryd.results57 Tryd.ntmps57 ok57]
        by_cases c1 : uk = vk
        · by_cases c2 : up = vp
          · by_cases c3 : um = vm
            · have c4 : ¬ (ul.length : Int) = (vl.length : Int) := fun e => hsig ⟨⟨c1, c2, c3⟩, by omega⟩
              subst c1; subst c2; subst c3
              simp (implicitDefEqProofs := false) (disch := first | omega | exact List.length_set) only [go_sem, seval, rgn Tryd.f57 0 rfl, rgn Tryd.f57 1 rfl, rgn Tryd.f57 2 rfl, rgn Tryd.f57 3 rfl, rgn Tryd.f57 10 rfl, rgn Tryd.f57 15 rfl, rgn Tryd.f57 17 rfl, rgn Tryd.f57 18 rfl, List.append_assoc, List.cons_append, List.nil_append, List.length_append, List.length_cons, List.length_nil, List.length_map, sb_get0, sb_get1, sb_set0, sb_set1, cu, cv, hu1', c4]
            · subst c1; subst c2
              have := str_eq um vm
              simp (implicitDefEqProofs := false) (disch := first | omega | exact List.length_set) only [go_sem, seval, rgn Tryd.f57 0 rfl, rgn Tryd.f57 1 rfl, rgn Tryd.f57 2 rfl, rgn Tryd.f57 3 rfl, rgn Tryd.f57 10 rfl, rgn Tryd.f57 15 rfl, rgn Tryd.f57 17 rfl, rgn Tryd.f57 18 rfl, List.append_assoc, List.cons_append, List.nil_append, List.length_append, List.length_cons, List.length_nil, List.length_map, sb_get0, sb_get1, sb_set0, sb_set1, cu, cv, hu1', str_eq, c3]
          · subst c1
            simp (implicitDefEqProofs := false) (disch := first | omega | exact List.length_set) only [go_sem, seval, rgn Tryd.f57 0 rfl, rgn Tryd.f57 1 rfl, rgn Tryd.f57 2 rfl, rgn Tryd.f57 3 rfl, rgn Tryd.f57 10 rfl, rgn Tryd.f57 15 rfl, rgn Tryd.f57 17 rfl, rgn Tryd.f57 18 rfl, List.append_assoc, List.cons_append, List.nil_append, List.length_append, List.length_cons, List.length_nil, List.length_map, sb_get0, sb_get1, sb_set0, sb_set1, cu, cv, hu1', str_eq, c2]
        · simp (implicitDefEqProofs := false) (disch := first | omega | exact List.length_set) only [go_sem, seval, rgn Tryd.f57 0 rfl, rgn Tryd.f57 1 rfl, rgn Tryd.f57 2 rfl, rgn Tryd.f57 3 rfl, rgn Tryd.f57 10 rfl, rgn Tryd.f57 15 rfl, rgn Tryd.f57 17 rfl, rgn Tryd.f57 18 rfl, List.append_assoc, List.cons_append, List.nil_append, List.length_append, List.length_cons, List.length_nil, List.length_map, sb_get0, sb_get1, sb_set0, sb_set1, cu, cv, hu1', hv1', c1]
      · rw [hab th hd, hiu, hiv] at e
        simp only [Tm.mk.injEq] at e
        refine hsig ⟨⟨e.1, e.2.1, e.2.2.1⟩, ?_⟩
        have := congrArg List.length e.2.2.2.2
        simpa using this
theorem uni_c (hN : N.length ≤ 100000) : ∀ (C S : Nat) (bs : List Tm) (rk : List UInt8 → Nat) (a b : Tm), DW N bs rk → cnt N bs < C → tsz (inst (fin N bs rk) a) < S → a.ty → a.fit → (∀ m ∈ tvars a, m ∈ N) → b.ty → b.fit → (∀ m ∈ tvars b, m ∈ N) → UniOk N Z K nb bs a b := by
  intro C
  induction C with
  | zero => intro S bs rk a b w h; omega
  | succ C ihC =>
    intro S
    induction S with
    | zero => intro bs rk a b w _ h; omega
    | succ S ihS =>
      intro bs rk a b w hC hS ha fa va hb fb vb
      refine uni_step w hN a b ha fa va hb fb vb (fun bs1 ⟨rk1, w1⟩ hlt c d hc fc vc hd fd vd => ?_) (fun c d hc fc vc hd fd vd hlt => ?_)
      · exact ihC _ bs1 rk1 c d w1 (by omega) (Nat.lt_succ_self _) hc fc vc hd fd vd
      · exact ihS bs rk c d w hC (by omega) hc fc vc hd fd vd
end
theorem in_loop (k : List UInt8) (l : List (List UInt8)) (hl : l.length ≤ 9223372036854775807) : ∀ (r done : List (List UInt8)), l = done ++ r → ∃ (a4 a5 : AV) (c : Ex),
    lrun Tryd.prog md fg (fg 73) (loopOf Tryd.f73 0) (fg 73 1) ([sV k, .slc false (l.map sV), .unk, .unk, .val (.bool false), .int done.length, .unk, .unk, .unk, .unk, .unk, .unk, .unk, .unk, .unk, .unk, .unk, .unk]) [] = some (c, [sV k, .slc false (l.map sV), .unk, .unk, a4, a5, .unk, .unk, .unk, .unk, .unk, .unk, .unk, .unk, .unk, .unk, .unk, .unk], []) ∧ ((c = .ret ∧ a4 = .val (.bool true) ∧ k ∈ r) ∨ (c = .exit 0 ∧ k ∉ r))
  | [], done, he => by
    rw [List.append_nil] at he
    subst he
    refine ⟨.val (.bool false), .int l.length, .exit 0, ?_, .inr ⟨rfl, by simp⟩⟩
    rw [lrun_atC loop73_0]
    simp (implicitDefEqProofs := false) (disch := omega) only [go_sem, seval, rgn Tryd.f73 2 rfl, List.length_map]
  | s :: r, done, he => by
    have hll : l.length = done.length + (r.length + 1) := by rw [he]; simp
    have hlt : (done.length : Int) < (l.length : Int) := by omega
    have htn : ((done.length : Int)).toNat = done.length := by omega
    have hat : (l.map sV)[done.length]? = some (sV s) := by rw [he]; simp
    have hs := str_eq s k
    by_cases hk : s = k
    · refine ⟨.val (.bool true), .int done.length, .ret, ?_, .inl ⟨rfl, rfl, by simp [hk]⟩⟩
      rw [lrun_atC loop73_0]
      simp (implicitDefEqProofs := false) (disch := omega) only [go_sem, seval, rgn Tryd.f73 2 rfl, rgn Tryd.f73 4 rfl, rgn Tryd.f73 5 rfl, List.length_map, hlt, htn, hat, hs, hk]
    · obtain ⟨a4, a5, c, e1, e2⟩ := in_loop k l hl r (done ++ [s]) (by rw [he]; simp)
      refine ⟨a4, a5, c, ?_, ?_⟩
      · have hlen : (done ++ [s]).length = done.length + 1 := by simp
        rw [hlen] at e1
        rw [← e1]
        rw [lrun_atC loop73_0]
        simp (implicitDefEqProofs := false) (disch := omega) only [go_sem, seval, rgn Tryd.f73 2 rfl, rgn Tryd.f73 4 rfl, rgn Tryd.f73 3 rfl, List.length_map, hlt, htn, hat, hs, hk]
        all_goals (congr 1 <;> simp only [List.cons.injEq, AV.val.injEq, Value.int.injEq, Value.bool.injEq, true_and, and_true] <;> omega)
      · have : k ∈ s :: r ↔ k ∈ r := by rw [List.mem_cons]; exact ⟨fun h => h.resolve_left (fun e => hk e.symm), .inr⟩
        rw [this]; exact e2
theorem in_p (k : List UInt8) (l : List (List UInt8)) (hl : l.length ≤ 9223372036854775807) : pcall Tryd.prog md fg 60 [sV k, .slc false (l.map sV)] = some (.val (.bool (decide (k ∈ l)))) := by
  have e73 : pcall Tryd.prog md fg 73 [sV k, .slc false (l.map sV)] = some (.val (.bool (decide (k ∈ l)))) := by
    obtain ⟨a4, a5, c, e1, e2⟩ := in_loop k l hl l [] rfl
    simp only [List.length_nil, Int.natCast_zero] at e1
    have e : aval Tryd.prog md fg 73 [sV k, .slc false (l.map sV)] [] = some (.val (.bool (decide (k ∈ l))), []) := by
      rcases e2 with ⟨rfl, rfl, h⟩ | ⟨rfl, h⟩
      · rw [decide_eq_true h]
        rw [aval_of Tryd.func73 body73 Tryd.results73 Tryd.ntmps73 ok73]
        simp (implicitDefEqProofs := false) (disch := omega) only [go_sem, seval, rgn Tryd.f73 0 rfl, rgn Tryd.f73 1 rfl, e1]
      · rw [decide_eq_false h]
        rw [aval_of Tryd.func73 body73 Tryd.results73 Tryd.ntmps73 ok73]
        simp (implicitDefEqProofs := false) (disch := omega) only [go_sem, seval, rgn Tryd.f73 0 rfl, rgn Tryd.f73 1 rfl, rgn Tryd.f73 6 rfl, e1]
    rw [pcall_eq, e, pureRes_solid rfl]
  have c73 : ∀ h, doCall md (aval Tryd.prog md fg) 73 [sV k, .slc false (l.map sV)] h = some (.val (.bool (decide (k ∈ l))), h) := fun h => doCall_pure md73 (by simp only [solidL, solid, solid_names, Bool.not_false, Bool.and_true]) e73
  have e : aval Tryd.prog md fg 60 [sV k, .slc false (l.map sV)] [] = some (.val (.bool (decide (k ∈ l))), []) := by
    rw [aval_of Tryd.func60 body60 Tryd.results60 Tryd.ntmps60 ok60]
    simp (implicitDefEqProofs := false) (disch := omega) only [go_sem, seval, rgn Tryd.f60 0 rfl, rgn Tryd.f60 1 rfl, c73]
  rw [pcall_eq, e, pureRes_solid rfl]
theorem in_c (k : List UInt8) (l : List (List UInt8)) (hl : l.length ≤ 9223372036854775807) (h : AHeap) : doCall md (aval Tryd.prog md fg) 60 [sV k, .slc false (l.map sV)] h = some (.val (.bool (decide (k ∈ l))), h) := doCall_pure md60 (by simp only [solidL, solid, solid_names, Bool.not_false, Bool.and_true]) (in_p k l hl)
def OUT (h : AHeap) (v : AV) (l : List (List UInt8)) : Prop := v = .slc false (l.map sV) ∨ ∃ K g, v = .arr K 0 l.length g 1 ∧ hget h K = .arr 1 (l.map sV) g
theorem OUT.exp {h : AHeap} {v : AV} {l : List (List UInt8)} (x : OUT h v l) : ∃ ids, exp1 h expDepth v = some (.slc false (l.map sV), ids) ∧ canFrz h ids = true := by
  rcases x with rfl | ⟨K, g, rfl, hK⟩
  · exact ⟨[], exp1_solid (by simp only [solid, solid_names, Bool.not_false, Bool.and_true]), rfl⟩
  · have := arr_exp hK (solid_names l) 59
    rw [List.length_map] at this
    exact ⟨[K], this, by simp [canFrz, hK]⟩
def PV (t : Tm) : Prop := ∀ out : List (List UInt8), out.length + tsz t ≤ 100000 → pcall Tryd.prog md fg 41 [.slc false (out.map sV), tmV t] = some (.slc false ((vsT out t).map sV))
theorem pv_call {t : Tm} (ht : PV t) {h : AHeap} {v : AV} {out : List (List UInt8)} (ho : OUT h v out) (hl : out.length + tsz t ≤ 100000) : ∃ h', doCall md (aval Tryd.prog md fg) 41 [v, tmV t] h = some (.slc false ((vsT out t).map sV), h') ∧ ∀ j cs, hget h j = .vars cs → hget h' j = .vars cs := by
  obtain ⟨ids, e1, e2⟩ := ho.exp
  have hs : expL (exp1 h expDepth) [v, tmV t] = some ([.slc false (out.map sV), tmV t], ids) := by
    unfold expL expL expL
    rw [e1, exp1_solid (solid_tm t)]
    simp
  rw [doCall_0 (by decide)]; unfold doCall0
  rw [if_pos (.inl (by decide)), hs]
  simp only [e2, if_true]
  rw [← pcall_eq, ht out hl]
  refine ⟨_, rfl, fun j cs e => ?_⟩
  split
  · exact e
  · exact frz_keep ids h j cs e
set_option maxHeartbeats 4000000 in
theorem pv_loop (k : Int) (p m : List UInt8) (n : Int) (l : List Tm) (hl : l.length ≤ 100000) (hP : ∀ t ∈ l, PV t) : ∀ (rem done : List Tm), l = done ++ rem → ∀ (h : AHeap) (v : AV) (out : List (List UInt8)), hget h 0 = .vars [.int k, .str (txt p), .str (txt m), .int n, .slc false (l.map tmV)] → OUT h v out → out.length + tszs rem ≤ 100000 →
    ∃ h' v', lrun Tryd.prog md fg (fg 41) (loopOf Tryd.f41 0) (fg 41 1) (((v) :: .unk :: .unk :: (.ptr 0 0) :: .unk :: (.int done.length) :: U::U::U::U::U::U::U::U::U::U::U::U::U::U::U::U::U::U::U::U::U::U::U::U::U::U::U::U::U::U::U::U::[] : List AV)) h = some (.exit 0, ((v') :: .unk :: .unk :: (.ptr 0 0) :: .unk :: (.int l.length) :: U::U::U::U::U::U::U::U::U::U::U::U::U::U::U::U::U::U::U::U::U::U::U::U::U::U::U::U::U::U::U::U::[] : List AV), h') ∧ OUT h' v' (vsL out rem)
  | [], done, he, h, v, out, h0, ho, hb => by
    rw [List.append_nil] at he
    subst he
    refine ⟨h, v, ?_, by rw [vsL]; exact ho⟩
    rw [lrun_atC loop41_0]
    simp (implicitDefEqProofs := false) (disch := omega) only [go_sem, seval, rgn Tryd.f41 4 rfl, h0, List.length_map]
  | t :: rem, done, he, h, v, out, h0, ho, hb => by
    rw [tszs] at hb
    have hll : l.length = done.length + (rem.length + 1) := by rw [he]; simp
    have hlt : (done.length : Int) < (l.length : Int) := by omega
    have htn : ((done.length : Int)).toNat = done.length := by omega
    have hat : (l.map tmV)[done.length]? = some (tmV t) := by rw [he]; simp
    obtain ⟨h1, c1, c2⟩ := pv_call (hP t (by rw [he]; simp)) ho (by omega)
    have hvl := vsT_len t out
    obtain ⟨h', v', e1, e2⟩ := pv_loop k p m n l hl hP rem (done ++ [t]) (by rw [he]; simp) h1 _ (vsT out t) (c2 0 _ h0) (.inl rfl) (by omega)
    refine ⟨h', v', ?_, by rw [vsL]; exact e2⟩
    have hlen : (done ++ [t]).length = done.length + 1 := by simp
    rw [hlen] at e1
    rw [← e1]
    obtain ⟨k', p', m', n', l'⟩ := t
    rw [tmV_mk] at c1 hat
    rw [lrun_atC loop41_0]
    simp (implicitDefEqProofs := false) (disch := omega) only [go_sem, seval, rgn Tryd.f41 4 rfl, rgn Tryd.f41 5 rfl, rgn Tryd.f41 6 rfl, h0, List.length_map, hlt, htn, hat, c1]
    all_goals (congr 1 <;> simp only [List.cons.injEq, AV.val.injEq, Value.int.injEq, Value.bool.injEq, true_and, and_true] <;> omega)
set_option maxHeartbeats 4000000 in
theorem pv_node (k : Int) (p m : List UInt8) (n : Int) (l : List Tm) (hl : l.length ≤ 100000) (hP : ∀ t ∈ l, PV t) : PV ⟨k, p, m, n, l⟩ := by
  intro out hb
  rw [tsz] at hb
  rw [vsT, tmV_mk]
  have ci := fun h => in_c m out (by omega) h
  have fin : ∀ {v' : AV} {h' : AHeap}, OUT h' v' (vsL (vadd out k m) l) → aval Tryd.prog md fg 41 [.slc false (out.map sV), .agg [.int k, .str (txt p), .str (txt m), .int n, .slc false (l.map tmV)]] [] = some (v', h') → pcall Tryd.prog md fg 41 [.slc false (out.map sV), .agg [.int k, .str (txt p), .str (txt m), .int n, .slc false (l.map tmV)]] = some (.slc false ((vsL (vadd out k m) l).map sV)) := fun ho e => by
    obtain ⟨ids, x1, x2⟩ := ho.exp
    rw [pcall_eq, e]
    unfold pureRes
    dsimp only
    rw [x1]
    dsimp only
    rw [if_pos x2]
  have hva := vadd_len out k m
  by_cases hc : k = 1 ∧ m ∉ out
  · have hv : vadd out k m = out ++ [m] := by unfold vadd; rw [if_pos hc]
    rw [hv] at fin ⊢
    obtain ⟨rfl, hmo⟩ := hc
    rw [decide_eq_false hmo] at ci
    have a1 : ∃ v1 H1, (∀ z, appT (some (1, 16, z)) [AObj.vars [.int 1, .str (txt p), .str (txt m), .int n, .slc false (l.map tmV)]] (.slc true []) (some (out.map sV)) = some (v1, H1)) ∧ ∃ v2 H2, (∀ z, appT (some (1, 16, z)) H1 v1 (some [sV m]) = some (v2, H2)) ∧ OUT H2 v2 (out ++ [m]) ∧ hget H2 0 = .vars [.int 1, .str (txt p), .str (txt m), .int n, .slc false (l.map tmV)] ∧ hget H1 0 = .vars [.int 1, .str (txt p), .str (txt m), .int n, .slc false (l.map tmV)] := by
      have hh : ∀ l : List (List UInt8), headOk 1 (l.map sV) = true := fun l => by cases l <;> rfl
      by_cases ho : out = []
      · subst ho
        refine ⟨_, _, fun z => appT_slc0 _ _ _ _ rfl, _, _, fun z => appT_slc _ _ _ _ _ (hh [m]) rfl (by simp) (by simp), .inr ⟨1, 0, rfl, rfl⟩, rfl, rfl⟩
      · refine ⟨_, _, fun z => appT_slc _ _ _ _ _ (hh out) rfl (by simpa using ho) (by simp; omega), _, _, fun z => appT_arr _ _ _ _ _ _ _ _ rfl (by simp) (hh [m]) (by simp; omega), .inr ⟨1, 1, by simp, ?_⟩, rfl, rfl⟩
        simp [hget]
    obtain ⟨v1, H1, a2, v2, H2, a3, a4, a5, a6⟩ := a1
    obtain ⟨h', v', e1, e2⟩ := pv_loop 1 p m n l hl hP l [] rfl H2 v2 (out ++ [m]) a5 a4 (by simp; omega)
    simp only [List.length_nil, Int.natCast_zero] at e1
    have g0 : hget [AObj.vars [.int 1, .str (txt p), .str (txt m), .int n, .slc false (l.map tmV)]] 0 = .vars [.int 1, .str (txt p), .str (txt m), .int n, .slc false (l.map tmV)] := rfl
    refine fin e2 ?_
    rw [aval_of Tryd.func41 body41 Tryd.results41 Tryd.ntmps41 ok41]
    simp (implicitDefEqProofs := false) (disch := omega) only [go_sem, seval, rgn Tryd.f41 0 rfl, rgn Tryd.f41 1 rfl, rgn Tryd.f41 2 rfl, rgn Tryd.f41 3 rfl, rgn Tryd.f41 7 rfl, List.nil_append, List.length_nil, g0, a5, ci, a2, a3, a6, e1, thenDraw_append]
  · have hv : vadd out k m = out := by unfold vadd; rw [if_neg hc]
    rw [hv] at fin ⊢
    obtain ⟨h', v', e1, e2⟩ := pv_loop k p m n l hl hP l [] rfl [AObj.vars [.int k, .str (txt p), .str (txt m), .int n, .slc false (l.map tmV)]] (.slc false (out.map sV)) out rfl (.inl rfl) (by omega)
    simp only [List.length_nil, Int.natCast_zero] at e1
    refine fin e2 ?_
    have g0 : hget [AObj.vars [.int k, .str (txt p), .str (txt m), .int n, .slc false (l.map tmV)]] 0 = .vars [.int k, .str (txt p), .str (txt m), .int n, .slc false (l.map tmV)] := rfl
    rw [aval_of Tryd.func41 body41 Tryd.results41 Tryd.ntmps41 ok41]
    by_cases hk : k = 1
    · subst hk
      have hmo : m ∈ out := Classical.byContradiction fun h => hc ⟨rfl, h⟩
      rw [decide_eq_true hmo] at ci
      simp (implicitDefEqProofs := false) (disch := omega) only [go_sem, seval, rgn Tryd.f41 0 rfl, rgn Tryd.f41 1 rfl, rgn Tryd.f41 3 rfl, rgn Tryd.f41 7 rfl, List.nil_append, List.length_nil, g0, ci, e1]
    · simp (implicitDefEqProofs := false) (disch := omega) only [go_sem, seval, rgn Tryd.f41 0 rfl, rgn Tryd.f41 1 rfl, rgn Tryd.f41 3 rfl, rgn Tryd.f41 7 rfl, List.nil_append, List.length_nil, g0, hk, e1]
mutual
theorem PV_all : ∀ t : Tm, tsz t ≤ 100000 → PV t
  | ⟨k, p, m, n, l⟩, h => by
    rw [tsz] at h
    have hlen : ∀ l : List Tm, l.length ≤ tszs l := fun l => by
      induction l with
      | nil => simp
      | cons a r ih => rw [tszs]; have := tsz_pos a; simp; omega
    have := hlen l
    exact pv_node k p m n l (by omega) (PV_alls l (by omega))
theorem PV_alls : ∀ l : List Tm, tszs l ≤ 100000 → ∀ t ∈ l, PV t
  | [], _, t, h => by cases h
  | a :: r, hs, t, h => by
    rw [tszs] at hs
    rcases List.mem_cons.1 h with h | h
    · rw [h]; exact PV_all a (by omega)
    · exact PV_alls r (by omega) t h
end
theorem e41 (x : Option Tmp) : (md 41 == 1 || md 41 == 3 || decide (100 ≤ md 41) && (x == some (md 41 - 100))) = false := rfl
theorem pv_slc {t : Tm} (ht : PV t) (h : AHeap) (nb : Bool) {out : List (List UInt8)} (hl : out.length + tsz t ≤ 100000) : doCall md (aval Tryd.prog md fg) 41 [.slc nb (out.map sV), tmV t] h = some (.slc false ((vsT out t).map sV), h) := by
  refine doCall_exp md41 (ys := [.slc false (out.map sV), tmV t]) ?_ (ht out hl)
  unfold expL expL expL
  rw [exp_nms, exp1_solid (solid_tm t)]
  rfl
set_option maxHeartbeats 4000000 in
theorem nw_loop (l : List (Tm × Tm)) (hl : l.length ≤ 1000) (hsz : tszs (flatE l) ≤ 40000) : ∀ (rem done : List (Tm × Tm)), l = done ++ rem → ∀ (nb : Bool) (out : List (List UInt8)), out = vsL [] (flatE done) →
    ∃ nb', lrun Tryd.prog md fg (fg 35) (loopOf Tryd.f35 0) (fg 35 1) (((.slc false (l.map eqV)) :: U::U::U::(.ptr 0 0) :: (.int done.length) :: U::U::U::U::U::U::U::U::U::U::U::U::U::U::U::U::U::U::U::U::U::U::U::U::U::U::U::U::U::U::U::U::U::U::U::U::U::U::U::U::U::U::U::U::U::U::U::U::U::U::U::U::U::U::U::U::U::U::[] : List AV)) [.vars [.slc nb (out.map sV), .slc true []]] = some (.exit 0, ((.slc false (l.map eqV)) :: U::U::U::(.ptr 0 0) :: (.int l.length) :: U::U::U::U::U::U::U::U::U::U::U::U::U::U::U::U::U::U::U::U::U::U::U::U::U::U::U::U::U::U::U::U::U::U::U::U::U::U::U::U::U::U::U::U::U::U::U::U::U::U::U::U::U::U::U::U::U::U::[] : List AV), [.vars [.slc nb' ((vsL [] (flatE l)).map sV), .slc true []]])
  | [], done, he, nb, out, ho => by
    rw [List.append_nil] at he
    subst he; subst ho
    refine ⟨nb, ?_⟩
    rw [lrun_atC loop35_0]
    simp (implicitDefEqProofs := false) (disch := omega) only [go_sem, seval, rgn Tryd.f35 3 rfl, List.length_map]
  | (A, B) :: rem, done, he, nb, out, ho => by
    have hll : l.length = done.length + (rem.length + 1) := by rw [he]; simp
    have hlt : (done.length : Int) < (l.length : Int) := by omega
    have htn : ((done.length : Int)).toNat = done.length := by omega
    have hfl : flatE l = flatE done ++ ([A, B] ++ flatE rem) := by rw [he, flatE_app]; simp [flatE]
    rw [hfl, tszs_append, tszs_append] at hsz
    have hAB : tszs [A, B] = tsz A + tsz B := by simp [tszs]
    have hol : out.length ≤ tszs (flatE done) := by
      rw [ho]
      have := vsL_len (flatE done) []
      simpa using this
    have hvA := vsT_len A out
    have cA := fun h => pv_slc (PV_all A (by omega)) h nb (out := out) (by omega)
    have cB := fun h => pv_slc (PV_all B (by omega)) h false (out := vsT out A) (by omega)
    obtain ⟨nb', e1⟩ := nw_loop l hl (by rw [hfl, tszs_append, tszs_append]; exact hsz) rem (done ++ [(A, B)]) (by rw [he]; simp) false (vsT (vsT out A) B) (by rw [flatE_app, vsL_app, ← ho]; simp [flatE, vsL])
    refine ⟨nb', ?_⟩
    have hlen : (done ++ [(A, B)]).length = done.length + 1 := by simp
    rw [hlen] at e1
    rw [← e1]
    have g0 : ∀ (a b : AV), hget [AObj.vars [a, b]] 0 = .vars [a, b] := fun _ _ => rfl
    have s0 : ∀ (a b : AV) (o : AObj), ([AObj.vars [a, b]] : AHeap).set 0 o = [o] := fun _ _ _ => rfl
    obtain ⟨k, p, m, n, l1⟩ := A
    obtain ⟨k', p', m', n', l2⟩ := B
    have hat : (l.map eqV)[done.length]? = some (.agg [.int k, .str (txt p), .str (txt m), .int n, .slc false (l1.map tmV), .int k', .str (txt p'), .str (txt m'), .int n', .slc false (l2.map tmV)]) := by rw [he]; simp [eqV]
    rw [tmV_mk] at cA cB
    rw [lrun_atC loop35_0]
    simp (implicitDefEqProofs := false) (disch := first | omega | exact List.length_set) only [go_sem, seval, rgn Tryd.f35 3 rfl, rgn Tryd.f35 4 rfl, rgn Tryd.f35 5 rfl, List.length_map, hlt, htn, hat, g0, s0, cA, cB, thenDraw_store, e41]
    all_goals (congr 1 <;> simp only [List.cons.injEq, AV.val.injEq, Value.int.injEq, Value.bool.injEq, true_and, and_true] <;> omega)
theorem mem_flat2 {l : List (Tm × Tm)} {p : Tm × Tm} (hp : p ∈ l) : p.1 ∈ flatE l ∧ p.2 ∈ flatE l := by
  unfold flatE
  rw [List.mem_flatMap, List.mem_flatMap]
  exact ⟨⟨p, hp, by simp⟩, ⟨p, hp, by simp⟩⟩
def t00 : Tm := ⟨0, [], [], 0, []⟩
theorem amake_34 (h : AHeap) (n : Nat) (hn : n ≤ 100000) : amake Tryd.prog 34 h (.int (n : Int)) (.int (n : Int)) = some (.arr h.length 0 n 0 5, h ++ [.arr 5 ((List.replicate n t00).map eV) 0]) := by
  have hz : eV t00 = .agg [.val (.int .i64 0), .val (.string ⟨#[]⟩), .val (.string ⟨#[]⟩), .val (.int .i64 0), .slc true []] := rfl
  rw [List.map_replicate, hz]
  unfold amake
  have e : ((n : Int)).toNat = n := by omega
  have : tslice Tryd.prog 34 = some (5, 72, .agg [.val (.int .i64 0), .val (.string ⟨#[]⟩), .val (.string ⟨#[]⟩), .val (.int .i64 0), .slc true []]) := tslice_34
  rw [this]
  show (if 0 ≤ (n : Int) ∧ (n : Int) ≤ (n : Int) ∧ ((n : Int)).toNat * 72 ≤ 2 ^ 47 then some (AV.arr h.length 0 ((n : Int)).toNat 0 5, h ++ [AObj.arr 5 (List.replicate ((n : Int)).toNat (.agg [.val (.int .i64 0), .val (.string ⟨#[]⟩), .val (.string ⟨#[]⟩), .val (.int .i64 0), .slc true []])) 0]) else none) = _
  rw [e, if_pos ⟨by omega, Int.le_refl _, by omega⟩]
theorem bd_rep (N : List (List UInt8)) (k : Nat) (n : List UInt8) : bd N (List.replicate k t00) n = none := by
  unfold bd
  cases ix n N 0 with
  | none => rfl
  | some j =>
    dsimp only
    cases h : (List.replicate k t00)[j]? with
    | none => rfl
    | some t =>
      have : t = t00 := by
        have := List.mem_of_getElem? h
        exact (List.mem_replicate.1 this).2
      rw [this]; rfl
theorem dw_rep {N : List (List UInt8)} (hN : N.Nodup) : DW N (List.replicate N.length t00) (fun _ => 0) :=
  ⟨List.length_replicate, hN, fun n t h => (by rw [bd_rep] at h; cases h), fun n m h => (by rw [bd_rep] at h; cases h)⟩
section
variable {nb : Bool}
abbrev dS (nb : Bool) (N : List (List UInt8)) (bs : List Tm) : AHeap := [.vars [.slc nb (N.map sV), .arr 1 0 N.length 0 5], .arr 5 (bs.map eV) 0]
set_option maxHeartbeats 8000000 in
theorem nu_loop {N : List (List UInt8)} (hN : N.length ≤ 100000) (l : List (Tm × Tm)) (hl : l.length ≤ 1000) (hty : Tm.tys (flatE l)) (hft : Tm.fits (flatE l)) (hv : ∀ m ∈ tvarss (flatE l), m ∈ N) (a2 a3 : AV) : ∀ (rem done : List (Tm × Tm)), l = done ++ rem → ∀ (bs : List Tm) (rk : List UInt8 → Nat), DW N bs rk → (∀ th, DM N bs th ↔ Eqs th done) →
    ∃ (res : Bool) (bs' : List Tm) (a2' a3' a6 : AV), lrun Tryd.prog md fg (fg 35) (loopOf Tryd.f35 2) (fg 35 3) (((.slc false (l.map eqV)) :: .unk :: (a2) :: (a3) :: (.ptr 0 0) :: .unk :: (.int done.length) :: U::U::U::U::U::U::U::U::U::U::U::U::U::U::U::U::U::U::U::U::U::U::U::U::U::U::U::U::U::U::U::U::U::U::U::U::U::U::U::U::U::U::U::U::U::U::U::U::U::U::U::U::U::U::U::U::U::[] : List AV)) (dS nb N bs) = some (if res then .exit 2 else .ret, ((.slc false (l.map eqV)) :: .unk :: (a2') :: (a3') :: (.ptr 0 0) :: .unk :: (a6) :: U::U::U::U::U::U::U::U::U::U::U::U::U::U::U::U::U::U::U::U::U::U::U::U::U::U::U::U::U::U::U::U::U::U::U::U::U::U::U::U::U::U::U::U::U::U::U::U::U::U::U::U::U::U::U::U::U::[] : List AV), dS nb N bs') ∧ (res = false → a2' = .ptr 0 0 ∧ a3' = .val (.bool false)) ∧ (if res then ∃ rk', DW N bs' rk' ∧ ∀ th, DM N bs' th ↔ Eqs th l else ¬ ∃ th, Eqs th l)
  | [], done, he, bs, rk, w, hd => by
    rw [List.append_nil] at he
    subst he
    refine ⟨true, bs, a2, a3, .int l.length, ?_, by simp, by rw [if_pos rfl]; exact ⟨rk, w, hd⟩⟩
    rw [if_pos rfl]
    rw [lrun_atC loop35_2]
    simp (implicitDefEqProofs := false) (disch := omega) only [go_sem, seval, rgn Tryd.f35 8 rfl, List.length_map]
  | (A, B) :: rem, done, he, bs, rk, w, hd => by
    have hll : l.length = done.length + (rem.length + 1) := by rw [he]; simp
    have hlt : (done.length : Int) < (l.length : Int) := by omega
    have htn : ((done.length : Int)).toNat = done.length := by omega
    have hmem : (A, B) ∈ l := by rw [he]; simp
    obtain ⟨mA, mB⟩ := mem_flat2 hmem
    have hs : SV (dS nb N bs) 0 1 nb N bs := ⟨rfl, rfl⟩
    obtain ⟨res, bs', c1, u1⟩ := uni_c (Z := 0) (K := 1) (nb := nb) hN _ _ bs rk A B w (Nat.lt_succ_self _) (Nat.lt_succ_self _) (tys_mem hty _ mA) (fits_mem hft _ mA) (fun m hm => hv m (tvarss_mem.2 ⟨_, mA, hm⟩)) (tys_mem hty _ mB) (fits_mem hft _ mB) (fun m hm => hv m (tvarss_mem.2 ⟨_, mB, hm⟩)) _ hs
    have c1 : doCall md (aval Tryd.prog md fg) 57 [.ptr 0 0, tmV A, tmV B] (dS nb N bs) = some (.val (.bool res), dS nb N bs') := c1
    have g0 : ∀ a b : AObj, hget [a, b] 0 = a := fun _ _ => rfl
    cases res with
    | false =>
      refine ⟨false, bs', .ptr 0 0, .val (.bool false), .int done.length, ?_, fun _ => ⟨rfl, rfl⟩, ?_⟩
      · simp only [Bool.false_eq_true, if_false]
        obtain ⟨k, p, m, n, l1⟩ := A
        obtain ⟨k', p', m', n', l2⟩ := B
        have hat : (l.map eqV)[done.length]? = some (.agg [.int k, .str (txt p), .str (txt m), .int n, .slc false (l1.map tmV), .int k', .str (txt p'), .str (txt m'), .int n', .slc false (l2.map tmV)]) := by rw [he]; simp [eqV]
        rw [tmV_mk, tmV_mk] at c1
        rw [lrun_atC loop35_2]
        simp (implicitDefEqProofs := false) (disch := omega) only [go_sem, seval, rgn Tryd.f35 8 rfl, rgn Tryd.f35 10 rfl, rgn Tryd.f35 11 rfl, List.length_map, hlt, htn, hat, c1, callD_57]
      · simp only [Bool.false_eq_true, if_false]
        rintro ⟨th, hth⟩
        exact u1.no rfl th ((hd th).2 fun p hp => hth p (by rw [he]; simp [hp])) (hth (A, B) hmem)
    | true =>
      obtain ⟨rk', w'⟩ := u1.dw
      obtain ⟨res, bs2, a2', a3', a6, e1, e2, e3⟩ := nu_loop hN l hl hty hft hv a2 a3 rem (done ++ [(A, B)]) (by rw [he]; simp) bs' rk' w' (fun th => by
        rw [u1.yes rfl th, hd th]
        constructor
        · rintro ⟨h1, h2⟩ q hq
          rcases List.mem_append.1 hq with hq | hq
          · exact h1 q hq
          · rw [List.mem_singleton.1 hq]; exact h2
        · intro h
          exact ⟨fun q hq => h q (by simp [hq]), h (A, B) (by simp)⟩)
      refine ⟨res, bs2, a2', a3', a6, ?_, e2, e3⟩
      have hlen : (done ++ [(A, B)]).length = done.length + 1 := by simp
      rw [hlen] at e1
      rw [← e1]
      obtain ⟨k, p, m, n, l1⟩ := A
      obtain ⟨k', p', m', n', l2⟩ := B
      have hat : (l.map eqV)[done.length]? = some (.agg [.int k, .str (txt p), .str (txt m), .int n, .slc false (l1.map tmV), .int k', .str (txt p'), .str (txt m'), .int n', .slc false (l2.map tmV)]) := by rw [he]; simp [eqV]
      rw [tmV_mk, tmV_mk] at c1
      rw [lrun_atC loop35_2]
      simp (implicitDefEqProofs := false) (disch := omega) only [go_sem, seval, rgn Tryd.f35 8 rfl, rgn Tryd.f35 10 rfl, rgn Tryd.f35 9 rfl, List.length_map, hlt, htn, hat, c1, callD_57]
      all_goals (congr 1 <;> simp only [List.cons.injEq, AV.val.injEq, Value.int.injEq, Value.bool.injEq, true_and, and_true] <;> omega)
end
set_option maxHeartbeats 8000000 in
theorem newD_c {l : List (Tm × Tm)} (hty : Tm.tys (flatE l)) (hft : Tm.fits (flatE l)) (hsz : tszs (flatE l) ≤ 40000) (hll : l.length ≤ 1000) : ∃ (res nb : Bool) (bs : List Tm), doCall md (aval Tryd.prog md fg) 35 [.slc false (l.map eqV)] [] = some (.tup [.ptr 0 0, .val (.bool res)], dS nb (vsL [] (flatE l)) bs) ∧ (if res then ∃ rk, DW (vsL [] (flatE l)) bs rk ∧ ∀ th, DM (vsL [] (flatE l)) bs th ↔ Eqs th l else ¬ ∃ th, Eqs th l) := by
  obtain ⟨nb, e1⟩ := nw_loop l hll hsz l [] rfl true [] (by simp [flatE, vsL])
  simp only [List.length_nil, Int.natCast_zero, List.map_nil] at e1
  have hNl : (vsL [] (flatE l)).length ≤ 40000 := by
    have := vsL_len (flatE l) []
    simp only [List.length_nil] at this
    omega
  have hnd : (vsL [] (flatE l)).Nodup := vsL_nodup _ _ (by simp)
  have hdom : ∀ m ∈ tvarss (flatE l), m ∈ vsL [] (flatE l) := fun m hm => (vsL_mem _ _ _ hty).2 (.inr hm)
  obtain ⟨res, bs, a2', a3', a6, e2, e3, e4⟩ := nu_loop (nb := nb) (N := vsL [] (flatE l)) (by omega) l hll hty hft hdom .unk .unk l [] rfl _ _ (dw_rep hnd) (fun th => ⟨fun _ q hq => (by cases hq), fun _ n t h => (by rw [bd_rep] at h; cases h)⟩)
  simp only [List.length_nil, Int.natCast_zero] at e2
  generalize vsL [] (flatE l) = N at *
  have hmk := fun h => amake_34 h N.length (by omega)
  have g0 : ∀ (a b : AV), hget [AObj.vars [a, b]] 0 = .vars [a, b] := fun _ _ => rfl
  have g1 : ∀ (a b : AV) (o : AObj), hget [AObj.vars [a, b], o] 0 = .vars [a, b] := fun _ _ _ => rfl
  have s1 : ∀ (a b : AV) (o o' : AObj), ([AObj.vars [a, b], o] : AHeap).set 0 o' = [o', o] := fun _ _ _ _ => rfl
  have e : aval Tryd.prog md fg 35 [.slc false (l.map eqV)] [] = some (.tup [.ptr 0 0, .val (.bool res)], dS nb N bs) := by
    cases res with
    | false =>
      obtain ⟨rfl, rfl⟩ := e3 rfl
      simp only [Bool.false_eq_true, if_false] at e2
      rw [aval_of Tryd.func35 body35 Tryd.results35 Tryd.ntmps35 ok35]
      simp (implicitDefEqProofs := false) (disch := first | omega | exact List.length_set) only [go_sem, seval, rgn Tryd.f35 0 rfl, rgn Tryd.f35 1 rfl, rgn Tryd.f35 2 rfl, rgn Tryd.f35 6 rfl, rgn Tryd.f35 7 rfl, List.nil_append, List.cons_append, List.length_cons, List.length_nil, List.length_map, g0, g1, s1, hmk, ato2_some, e1, e2, Nat.zero_add]
    | true =>
      simp only [if_true] at e2
      rw [aval_of Tryd.func35 body35 Tryd.results35 Tryd.ntmps35 ok35]
      simp (implicitDefEqProofs := false) (disch := first | omega | exact List.length_set) only [go_sem, seval, rgn Tryd.f35 0 rfl, rgn Tryd.f35 1 rfl, rgn Tryd.f35 2 rfl, rgn Tryd.f35 6 rfl, rgn Tryd.f35 7 rfl, rgn Tryd.f35 12 rfl, List.nil_append, List.cons_append, List.length_cons, List.length_nil, List.length_map, g0, g1, s1, hmk, ato2_some, e1, e2, Nat.zero_add]
  refine ⟨res, nb, bs, ?_, e4⟩
  rw [doCall_0 (by decide)]
  unfold doCall0
  rw [if_neg (by decide), rated_id (by decide), e]
  dsimp only
  rw [if_neg (fun q => by have := q.1; simp [below, belowL] at this)]
theorem frz_take {n : Nat} : ∀ (ids : List Nat) (H : AHeap), (∀ i ∈ ids, n ≤ i) → (frzAll H ids).take n = H.take n
  | [], H, _ => rfl
  | i :: r, H, h => by
    rw [frzAll, frz_take r _ (fun j hj => h j (List.mem_cons_of_mem _ hj))]
    unfold frz1
    split
    · exact take_set_ge _ (h i (List.mem_cons_self ..))
    · rfl
theorem doCall_rated2 {f : FuncId} {vs : List AV} {h H : AHeap} {r r' : AV} {ids : List Nat} (hm : md f = 3) (e : aval Tryd.prog md fg f vs h = some (r, H)) (hH : H.take h.length = h) (h1 : exp1 H expDepth r = some (r', ids)) (h2 : canFrz H ids = true) (h3 : ∀ i ∈ ids, h.length ≤ i) (hs : solid r' = true) : doCall md (aval Tryd.prog md fg) f vs h = some (r', h) := by
  rw [doCall_0 (by omega)]
  unfold doCall0
  rw [if_neg (by omega)]
  unfold rated
  rw [if_pos hm, e]
  dsimp only
  rw [h1]
  dsimp only
  rw [if_pos h2]
  dsimp only
  have ht := (frz_take ids H h3).trans hH
  have hg : GcOk h.length h (frzAll H ids) := fun i hi => .inl (by
    have := congrArg (fun l => l[i]?) ht
    rwa [List.getElem?_take_of_lt hi] at this)
  rw [if_pos ⟨solid_below _ _ hs, hg⟩, ht]
theorem exp_tup5 {H : AHeap} {v : AV} {us : List Tm} {ids : List Nat} (a b c d n : Value) (hn : solid v = false) (e : exp1 H 58 v = some (.slc false (us.map tmV), ids)) : exp1 H expDepth (.tup [.agg [.val a, .val b, .val c, .val d, v], .val n]) = some (.tup [.agg [.val a, .val b, .val c, .val d, .slc false (us.map tmV)], .val n], ids) := by
  have hb : ∀ a : Value, exp1 H (57 + 1) (.val a) = some (.val a, []) := fun a => rfl
  have hc : ∀ a : Value, exp1 H (58 + 1) (.val a) = some (.val a, []) := fun a => rfl
  have e : exp1 H (57 + 1) v = some (.slc false (us.map tmV), ids) := e
  have key : exp1 H (58 + 1) (.agg [.val a, .val b, .val c, .val d, v]) = some (.agg [.val a, .val b, .val c, .val d, .slc false (us.map tmV)], ids) := by
    show exp1 H (57 + 1 + 1) _ = _
    rw [exp1]
    simp only [solid, solidL, hn, Bool.false_and, Bool.and_false, Bool.true_and, if_false, Bool.false_eq_true, expL, hb, e, List.nil_append, List.append_nil, Option.map_some]
  show exp1 H (58 + 1 + 1) _ = _
  rw [exp1]
  simp only [solid, solidL, hn, Bool.false_and, Bool.and_false, Bool.true_and, if_false, Bool.false_eq_true, expL, hc, key, List.nil_append, List.append_nil, Option.map_some]
theorem kt_exp {H : AHeap} {n0 : Nat} {kt : AV} {l : List Tm} (x : KT H n0 kt l) : solid kt = false ∧ ∃ ids, exp1 H 58 kt = some (.slc false (l.map tmV), ids) ∧ canFrz H ids = true ∧ ∀ i ∈ ids, n0 ≤ i := by
  rcases x with ⟨rfl, rfl⟩ | ⟨K, g, e1, e2, e3⟩
  · exact ⟨rfl, [], rfl, rfl, by intro i hi; cases hi⟩
  · have := arr_exp e2 (solid_tmL _) 57
    rw [List.length_map, ← e1] at this
    exact ⟨by rw [e1]; rfl, [K], this, by simp [canFrz, e2], by intro i hi; rw [List.mem_singleton.1 hi]; exact e3⟩
theorem kt_add2 {h : AHeap} {n0 : Nat} {kt : AV} {l : List Tm} (hk : KT h n0 kt l) (hl : l.length ≤ 100000) (h0 : n0 ≤ h.length) (t : Tm) : ∃ v H, (∀ z, appT (some (5, 72, z)) h kt (some [tmV t]) = some (v, H)) ∧ KT H n0 v (l ++ [t]) ∧ (h.length ≤ H.length ∧ (∀ j o, hget h j = o → o ≠ .dead → (∀ b c, o ≠ .arr 5 b c) → hget H j = o) ∧ H.take n0 = h.take n0) ∧ fits 1 v = true ∧ v.cells = [v] := by
  have hh : headOk 5 [tmV t] = true := headOk_tm [t]
  rcases hk with ⟨rfl, rfl⟩ | ⟨K, g, rfl, h2, h3⟩
  · exact ⟨_, _, fun z => appT_slc _ _ _ _ _ hh rfl (by simp) (by simp), .inr ⟨h.length, 0, by simp, by rw [hget_last]; rfl, h0⟩, ⟨by simp, fun j o e h1 _ => by rw [hget_app _ (hlt_of e h1)]; exact e, List.take_append_of_le_length h0⟩, rfl, rfl⟩
  · refine ⟨_, _, fun z => appT_arr _ _ _ _ _ _ _ _ h2 (by simp) hh (by simp; omega), .inr ⟨K, g + 1, by simp, by rw [hget_set_eq (hlt_of h2 (by simp))]; simp, h3⟩, ⟨by simp, fun j o e h1 h4 => ?_, take_set_ge _ h3⟩, rfl, rfl⟩
    rw [hget_set_ne (by rintro rfl; rw [h2] at e; exact h4 _ _ e.symm)]; exact e
section
variable {N : List (List UInt8)} {bs : List Tm} {rk : List UInt8 → Nat} {nb : Bool} {Z K : Nat}
def FullOk (Z K : Nat) (nb : Bool) (N : List (List UInt8)) (bs : List Tm) (rk : List UInt8 → Nat) (t : Tm) (L : Nat) : Prop := ∀ h, SV h Z K nb N bs → ∃ (t' : Tm) (x : Int), doCall md (aval Tryd.prog md fg) 36 [.ptr Z 0, tmV t, .int (L : Nat)] h = some (.tup [tmV t', .int x], h) ∧ (-1 ≤ x ∧ x < L) ∧ if (tsz (inst (fin N bs rk) t) : Int) ≤ L then t' = inst (fin N bs rk) t ∧ x = L - tsz (inst (fin N bs rk) t) else x < 0
set_option maxHeartbeats 8000000 in
theorem full_loop {h : AHeap} (hs : SV h Z K nb N bs) {n0 : Nat} (hn0 : h.length = n0) (k : Int) (p m : List UInt8) (n : Int) (kb : Bool) (ks : List Tm) (hks : ks.length ≤ 9223372036854775807) {M : Nat} (hM : M ≤ 1000) (hih : ∀ c ∈ ks, ∀ L : Nat, L < M → FullOk Z K nb N bs rk c L) : ∀ (rem done : List Tm), ks = done ++ rem → ∀ (os : List Tm) (left : Int) (H : AHeap) (kt : AV), (os.length : Int) + left ≤ M → -1 ≤ left → left < M → n0 + 2 < H.length → H.take n0 = h → hget H n0 = .vars [.int k, .str (txt p), .str (txt m), .int n, .slc kb (ks.map tmV)] → hget H (n0 + 1) = .vars [.val (.int .i64 0), .val (.string ⟨#[]⟩), .val (.string ⟨#[]⟩), .val (.int .i64 0), .slc true []] → hget H (n0 + 2) = .vars [.int k, .str (txt p), .str (txt m), .val (.int .i64 0), kt] → KT H n0 kt os →
    ∃ (H' : AHeap) (left' : Int) (kt' : AV) (os' : List Tm) (i' : Int), lrun Tryd.prog md fg (fg 36) (loopOf Tryd.f36 0) (fg 36 1) (((.ptr Z 0) :: .unk :: (.int left) :: .unk :: (.ptr n0 0) :: .unk :: (.ptr (n0 + 1) 0) :: .unk :: (.ptr (n0 + 2) 0) :: (.int done.length) :: U::U::U::U::U::U::U::U::U::U::U::U::U::U::U::U::U::U::U::U::U::U::U::U::U::U::U::U::U::U::U::U::U::U::U::U::U::U::U::U::U::U::U::U::U::U::U::U::U::U::[] : List AV)) H = some (.exit 0, ((.ptr Z 0) :: .unk :: (.int left') :: .unk :: (.ptr n0 0) :: .unk :: (.ptr (n0 + 1) 0) :: .unk :: (.ptr (n0 + 2) 0) :: (.int i') :: U::U::U::U::U::U::U::U::U::U::U::U::U::U::U::U::U::U::U::U::U::U::U::U::U::U::U::U::U::U::U::U::U::U::U::U::U::U::U::U::U::U::U::U::U::U::U::U::U::U::[] : List AV), H') ∧ n0 + 2 < H'.length ∧ H'.take n0 = h ∧ hget H' (n0 + 1) = .vars [.val (.int .i64 0), .val (.string ⟨#[]⟩), .val (.string ⟨#[]⟩), .val (.int .i64 0), .slc true []] ∧ hget H' (n0 + 2) = .vars [.int k, .str (txt p), .str (txt m), .val (.int .i64 0), kt'] ∧ KT H' n0 kt' os' ∧ (-1 ≤ left' ∧ left' ≤ left) ∧ if (tszs (insts (fin N bs rk) rem) : Int) ≤ left then os' = os ++ insts (fin N bs rk) rem ∧ left' = left - tszs (insts (fin N bs rk) rem) else left' < 0
  | [], done, he, os, left, H, kt, hol, hl1, hl2, hHl, hH, g0, g1, g2, hkt => by
    rw [List.append_nil] at he
    subst he
    refine ⟨H, left, kt, os, ks.length, ?_, hHl, hH, g1, g2, hkt, ⟨hl1, Int.le_refl _⟩, ?_⟩
    · rw [lrun_atC loop36_0]
      simp (implicitDefEqProofs := false) (disch := omega) only [go_sem, seval, rgn Tryd.f36 7 rfl, g0, List.length_map]
    · rw [insts, tszs]
      by_cases hl : 0 ≤ left
      · rw [if_pos (by omega)]; simp
      · rw [if_neg (by omega)]; omega
  | c :: rem, done, he, os, left, H, kt, hol, hl1, hl2, hHl, hH, g0, g1, g2, hkt => by
    have hll : ks.length = done.length + (rem.length + 1) := by rw [he]; simp
    have hlt : (done.length : Int) < (ks.length : Int) := by omega
    have htn : ((done.length : Int)).toNat = done.length := by omega
    have hat : (ks.map tmV)[done.length]? = some (tmV c) := by rw [he]; simp
    by_cases hneg : left < 0
    · refine ⟨H, left, kt, os, done.length, ?_, hHl, hH, g1, g2, hkt, ⟨hl1, Int.le_refl _⟩, ?_⟩
      · have h0 : ¬ 0 ≤ left := by omega
        rw [lrun_atC loop36_0]
        simp (implicitDefEqProofs := false) (disch := omega) only [go_sem, seval, rgn Tryd.f36 7 rfl, g0, List.length_map, hlt, h0]
      · rw [if_neg (by omega)]; exact hneg
    · have hHj : H = h ++ H.drop n0 := by conv => lhs; rw [← List.take_append_drop n0 H, hH]
      have hSV : ∀ j, SV (H ++ j) Z K nb N bs := fun j => by rw [hHj, List.append_assoc]; exact hs.app _
      obtain ⟨L, hL⟩ : ∃ L : Nat, left = (L : Int) := ⟨left.toNat, by omega⟩
      subst hL
      obtain ⟨t', x, c1, ⟨x1, x2⟩, x3⟩ := hih c (by rw [he]; simp) L (by omega) (H ++ [.vars [.val (.int .i64 0), .val (.string ⟨#[]⟩), .val (.string ⟨#[]⟩), .val (.int .i64 0), .slc true []]]) (hSV _)
      have b1 : ∀ (o' : AObj) j o, hget H j = o → o ≠ .dead → hget (H ++ [o']) j = o := fun o' j o e h => by rw [hget_app _ (hlt_of e h)]; exact e
      have hkt1 : KT (H ++ [.vars (tmV t').cells]) n0 kt os := by
        rcases hkt with q | ⟨K, g, e1, e2, e3⟩
        · exact .inl q
        · exact .inr ⟨K, g, e1, b1 _ _ _ e2 (by simp), e3⟩
      obtain ⟨v, H2, y1, y2, y3, y4, y5⟩ := kt_add2 hkt1 (by omega) (by simp; omega) t'
      have z0 : hget H2 n0 = _ := y3.2.1 _ _ (b1 _ _ _ g0 (by simp)) (by simp) (by simp)
      have z1 : hget H2 (n0 + 1) = _ := y3.2.1 _ _ (b1 _ _ _ g1 (by simp)) (by simp) (by simp)
      have z2 : hget H2 (n0 + 2) = _ := y3.2.1 _ _ (b1 _ _ _ g2 (by simp)) (by simp) (by simp)
      have hl2' := y3.1
      rw [List.length_append] at hl2'
      have w2 : KT (H2.set (n0 + 2) (.vars [.int k, .str (txt p), .str (txt m), .val (.int .i64 0), v])) n0 v (os ++ [t']) := by
        rcases y2 with ⟨q, _⟩ | ⟨K, g, e1, e2, e3⟩
        · simp at q
        · exact .inr ⟨K, g, e1, by rw [hget_set_ne (by rintro rfl; rw [z2] at e2; cases e2)]; exact e2, e3⟩
      have htk : H2.take n0 = h := by rw [y3.2.2, List.take_append_of_le_length (by omega), hH]
      obtain ⟨H', left', kt', os', i', d1, d2, d3, d4, d5, d6, d7, d8⟩ := full_loop hs hn0 k p m n kb ks hks hM hih rem (done ++ [c]) (by rw [he]; simp) (os ++ [t']) x (H2.set (n0 + 2) (.vars [.int k, .str (txt p), .str (txt m), .val (.int .i64 0), v])) v (by rw [List.length_append, List.length_cons, List.length_nil]; omega) x1 (by omega) (by rw [List.length_set]; omega) (by rw [take_set_ge _ (by omega)]; exact htk) (by rw [hget_set_ne (by omega)]; exact z0) (by rw [hget_set_ne (by omega)]; exact z1) (hget_set_eq (by omega)) w2
      refine ⟨H', left', kt', os', i', ?_, d2, d3, d4, d5, d6, ⟨d7.1, by omega⟩, ?_⟩
      · have hlen : (done ++ [c]).length = done.length + 1 := by simp
        rw [hlen] at d1
        rw [← d1]
        have h0 : 0 ≤ (L : Int) := by omega
        obtain ⟨q1, q2, q3, q4, q5⟩ := c
        obtain ⟨r1, r2, r3, r4, r5⟩ := t'
        rw [tmV_mk] at hat
        rw [tmV_mk, tmV_mk] at c1
        rw [tmV_mk] at y1
        have ec : ∀ a b c d e : AV, (AV.agg [a, b, c, d, e]).cells = [a, b, c, d, e] := fun _ _ _ _ _ => rfl
        rw [ec] at y1
        rw [lrun_atC loop36_0]
        simp (implicitDefEqProofs := false) (disch := first | omega | exact List.length_set) only [go_sem, seval, rgn Tryd.f36 7 rfl, rgn Tryd.f36 8 rfl, rgn Tryd.f36 9 rfl, rgn Tryd.f36 10 rfl, rgn Tryd.f36 11 rfl, g0, g2, z2, b1, List.length_map, hlt, h0, htn, hat, c1, hget_last, set_last, hget_app, y1, y4, y5, thenDraw_append, thenDraw_store, md36, b31, Bool.false_or, beq_self_eq_true, Bool.true_or]
        all_goals (congr 1 <;> simp only [List.cons.injEq, AV.val.injEq, Value.int.injEq, Value.bool.injEq, true_and, and_true] <;> omega)
      · rw [insts, tszs]
        by_cases hc : (tsz (inst (fin N bs rk) c) : Int) ≤ (L : Int)
        · rw [if_pos hc] at x3
          obtain ⟨rfl, rfl⟩ := x3
          by_cases hr : (tszs (insts (fin N bs rk) rem) : Int) ≤ (L : Int) - tsz (inst (fin N bs rk) c)
          · rw [if_pos hr] at d8
            rw [if_pos (by omega)]
            exact ⟨by rw [d8.1]; simp, by rw [d8.2]; omega⟩
          · rw [if_neg hr] at d8
            rw [if_neg (by omega)]; exact d8
        · rw [if_neg hc] at x3
          rw [if_neg (by omega)]
          rw [if_neg (by omega)] at d8
          exact d8
set_option maxHeartbeats 8000000 in
theorem full_core (w : DW N bs rk) {M : Nat} (hM : M ≤ 1000) {h : AHeap} (hs : SV h Z K nb N bs) {a0 a1 a2 a3 a4 : AV} {k : Int} {p m : List UInt8} {kb : Bool} {ks : List Tm} (cl : ∀ l, doCall md (aval Tryd.prog md fg) 58 [.ptr Z 0, .agg [a0, a1, a2, a3, a4]] (h ++ l) = some (.agg [.int k, .str (txt p), .str (txt m), .int 0, .slc kb (ks.map tmV)], h ++ l)) (uty : (Tm.mk k p m 0 ks).ty) (uft : (Tm.mk k p m 0 ks).fit) (uv : ∀ x ∈ tvars ⟨k, p, m, 0, ks⟩, x ∈ N) (ufr : k = 1 → bd N bs m = none) (hih : ∀ (c : Tm), c.ty → c.fit → (∀ m ∈ tvars c, m ∈ N) → ∀ L : Nat, L < M → FullOk Z K nb N bs rk c L) :
    ∃ (t' : Tm) (x : Int), doCall md (aval Tryd.prog md fg) 36 [.ptr Z 0, .agg [a0, a1, a2, a3, a4], .int (M : Nat)] h = some (.tup [tmV t', .int x], h) ∧ (-1 ≤ x ∧ x < M) ∧ if (tsz (inst (fin N bs rk) ⟨k, p, m, 0, ks⟩) : Int) ≤ M then t' = inst (fin N bs rk) ⟨k, p, m, 0, ks⟩ ∧ x = M - tsz (inst (fin N bs rk) ⟨k, p, m, 0, ks⟩) else x < 0 := by
  rw [Tm.ty] at uty
  rw [Tm.fit] at uft
  have hks : ks.length ≤ 9223372036854775807 := uft.2.2.1
  have hkid : ∀ c ∈ ks, ∀ L : Nat, L < M → FullOk Z K nb N bs rk c L := fun c hc L hL => by
    have hk1 : k ≠ 1 := fun e => by
      obtain ⟨h2, _⟩ := uty.1.2.2.2 e
      rw [h2] at hc; cases hc
    refine hih c (tys_mem uty.2 c hc) (fits_mem uft.2.2.2 c hc) (fun x hx => uv x ?_) L hL
    rw [tvars, if_neg hk1]
    exact tvarss_mem.2 ⟨c, hc, hx⟩
  have hDm : inst (fin N bs rk) ⟨k, p, m, 0, ks⟩ = ⟨k, p, m, 0, insts (fin N bs rk) ks⟩ := by
    rw [inst]
    by_cases hk : k = 1
    · obtain ⟨h1, h2⟩ := uty.1.2.2.2 hk
      have hf : fin N bs rk m = vTm m := fin_free (ufr hk)
      rw [if_pos hk, hf, h1, h2, hk, insts]; rfl
    · rw [if_neg hk]
  rw [hDm, tsz]
  obtain ⟨H', left', kt', os', i', d1, d2, d3, d4, d5, d6, d7, d8⟩ := full_loop hs rfl k p m 0 kb ks hks hM hkid ks [] rfl [] ((M : Int) - 1) (h ++ [.vars [.int k, .str (txt p), .str (txt m), .int 0, .slc kb (ks.map tmV)], .vars [.val (.int .i64 0), .val (.string ⟨#[]⟩), .val (.string ⟨#[]⟩), .val (.int .i64 0), .slc true []], .vars [.int k, .str (txt p), .str (txt m), .val (.int .i64 0), .slc true []]]) (.slc true []) (by simp; omega) (by omega) (by omega) (by simp) (List.take_left' rfl) (sb_get0 _ _ rfl) (sb_get1 _ _ _ rfl) (sb_get2 _ _ _ _ rfl) (.inl ⟨rfl, rfl⟩)
  simp only [List.length_nil, Int.natCast_zero] at d1
  have e : aval Tryd.prog md fg 36 [.ptr Z 0, .agg [a0, a1, a2, a3, a4], .int (M : Nat)] h = some (.tup [.agg [.int k, .str (txt p), .str (txt m), .val (.int .i64 0), kt'], .int left'], H'.set (h.length + 1) (.vars [.int k, .str (txt p), .str (txt m), .val (.int .i64 0), kt'])) := by
    have a1 : ∀ a b : AObj, h ++ [a] ++ [b] = h ++ [a, b] := fun a b => by simp
    by_cases hk : k = 1
    · subst hk
      rw [aval_of Tryd.func36 body36 Tryd.results36 Tryd.ntmps36 ok36]
      simp (implicitDefEqProofs := false) (disch := first | omega | exact List.length_set) only [go_sem, seval, rgn Tryd.f36 0 rfl, rgn Tryd.f36 1 rfl, rgn Tryd.f36 2 rfl, rgn Tryd.f36 3 rfl, rgn Tryd.f36 4 rfl, rgn Tryd.f36 6 rfl, rgn Tryd.f36 12 rfl, cl, List.append_assoc, List.cons_append, List.nil_append, List.length_append, List.length_cons, List.length_nil, sb_get0, sb_get1, sb_get2, sb_set0, sb_set1, sb_set2, d1, d4, d5, hget_set_eq, aresults, tupOf]
    · rw [aval_of Tryd.func36 body36 Tryd.results36 Tryd.ntmps36 ok36]
      simp (implicitDefEqProofs := false) (disch := first | omega | exact List.length_set) only [go_sem, seval, rgn Tryd.f36 0 rfl, rgn Tryd.f36 1 rfl, rgn Tryd.f36 2 rfl, rgn Tryd.f36 3 rfl, rgn Tryd.f36 4 rfl, rgn Tryd.f36 5 rfl, rgn Tryd.f36 6 rfl, rgn Tryd.f36 12 rfl, cl, hk, List.append_assoc, List.cons_append, List.nil_append, List.length_append, List.length_cons, List.length_nil, sb_get0, sb_get1, sb_get2, sb_set0, sb_set1, sb_set2, d1, d4, d5, hget_set_eq, aresults, tupOf]
  have hkt : KT (H'.set (h.length + 1) (.vars [.int k, .str (txt p), .str (txt m), .val (.int .i64 0), kt'])) h.length kt' os' := by
    rcases d6 with q | ⟨K, g, e1, e2, e3⟩
    · exact .inl q
    · exact .inr ⟨K, g, e1, by rw [hget_set_ne (by rintro rfl; rw [d4] at e2; cases e2)]; exact e2, e3⟩
  obtain ⟨x1, ids, x2, x3, x4⟩ := kt_exp hkt
  refine ⟨⟨k, p, m, 0, os'⟩, left', ?_, ⟨d7.1, by omega⟩, ?_⟩
  · rw [show tmV ⟨k, p, m, 0, os'⟩ = _ from tmV_mk k p m 0 os']
    exact doCall_rated2 md36 e (by rw [take_set_ge _ (by omega)]; exact d3) (exp_tup5 _ _ _ _ _ x1 x2) x3 x4 (by
      have := solid_tmL os'
      simp only [solid, solidL, this, Bool.not_false, Bool.true_and, Bool.and_true])
  · by_cases hc : (tszs (insts (fin N bs rk) ks) : Int) ≤ (M : Int) - 1
    · rw [if_pos hc] at d8
      rw [if_pos (by omega)]
      exact ⟨by rw [d8.1]; rfl, by rw [d8.2]; omega⟩
    · rw [if_neg hc] at d8
      rw [if_neg (by omega)]; exact d8
theorem full_step (w : DW N bs rk) (hN : N.length ≤ 100000) {M : Nat} (hM : M ≤ 1000) (t : Tm) (ty : t.ty) (ft : t.fit) (hv : ∀ m ∈ tvars t, m ∈ N) (hih : ∀ (c : Tm), c.ty → c.fit → (∀ m ∈ tvars c, m ∈ N) → ∀ L : Nat, L < M → FullOk Z K nb N bs rk c L) : FullOk Z K nb N bs rk t M := by
  intro h hs
  obtain ⟨u, cl, lk⟩ := look_all w hN hs t ty ft hv
  have hD : inst (fin N bs rk) t = inst (fin N bs rk) u := lk.same _ (fin_dm w)
  rw [hD]
  have uty := lk.ty
  have uft := lk.fit
  have uv := lk.vars
  have ufr := lk.free
  obtain ⟨k, p, m, n, ks⟩ := u
  have hn : n = 0 := by
    have := uty
    rw [Tm.ty] at this
    exact this.1.2.2.1
  subst hn
  obtain ⟨q1, q2, q3, q4, q5⟩ := t
  rw [tmV_mk, tmV_mk] at cl
  rw [tmV_mk]
  exact full_core w hM hs cl uty uft uv ufr hih
theorem fullD_c (w : DW N bs rk) (hN : N.length ≤ 100000) : ∀ (M : Nat), M ≤ 1000 → ∀ (t : Tm), t.ty → t.fit → (∀ m ∈ tvars t, m ∈ N) → FullOk Z K nb N bs rk t M := by
  intro M
  induction M using Nat.strongRecOn with
  | _ M ih =>
    intro hM t ty ft hv
    exact full_step w hN hM t ty ft hv fun c h1 h2 h3 L hL => ih L hL (by omega) c h1 h2 h3
end
def rawV (m : List UInt8) : AV := .agg [.int 1, .val (.string ⟨#[]⟩), .str (txt m), .val (.int .i64 0), .slc true []]
section
variable {N : List (List UInt8)} {bs : List Tm} {rk : List UInt8 → Nat} {nb : Bool} {Z K : Nat}
set_option maxHeartbeats 8000000 in
theorem look_raw (w : DW N bs rk) (hN : N.length ≤ 100000) {h : AHeap} (hs : SV h Z K nb N bs) {m : List UInt8} (hm : m ∈ N) : (bd N bs m = none ∧ doCall md (aval Tryd.prog md fg) 58 [.ptr Z 0, rawV m] h = some (rawV m, h)) ∨ ∃ t u, bd N bs m = some t ∧ LK N bs rk t u ∧ u = lookF N bs (rk t.name + 1) t ∧ doCall md (aval Tryd.prog md fg) 58 [.ptr Z 0, rawV m] h = some (tmV u, h) := by
  have ec : ∀ a b c d e : AV, (AV.agg [a, b, c, d, e]).cells = [a, b, c, d, e] := fun _ _ _ _ _ => rfl
  obtain ⟨j, hj, hNj⟩ := ix_some hm
  have hjl := lt_of_at hNj
  have hjn : ((j : Int)).toNat = j := by omega
  have hj0 : ¬ (j : Int) < 0 := by omega
  have cp := fun h => place_c m N (by omega) nb h
  have hij : ixI m N = (j : Int) := by unfold ixI; rw [hj]
  rw [hij] at cp
  have hZl := hlt_of hs.1 (by simp)
  have hKl := hlt_of hs.2 (by simp)
  have hZ : ∀ l, hget (h ++ l) Z = .vars [.slc nb (N.map sV), .arr K 0 N.length 0 5] := fun l => (hget_app l hZl).trans hs.1
  have hK : ∀ l, hget (h ++ l) K = .arr 5 (bs.map eV) 0 := fun l => (hget_app l hKl).trans hs.2
  have hbl : bs.length = N.length := w.len
  obtain ⟨u0, hu0⟩ := at_of_lt (l := bs) (i := j) (by omega)
  have hat : (bs.map eV)[j]? = some (eV u0) := by rw [List.getElem?_map, hu0]; rfl
  unfold rawV
  by_cases hu : u0.kind = 0
  · have hbd : bd N bs m = none := by unfold bd; rw [hj]; dsimp only; rw [hu0]; dsimp only; rw [if_pos hu]
    rw [show eV u0 = .agg [.val (.int .i64 0), .val (.string ⟨#[]⟩), .val (.string ⟨#[]⟩), .val (.int .i64 0), .slc true []] from if_pos hu] at hat
    refine .inl ⟨hbd, ?_⟩
    have e : lrun Tryd.prog md fg (fg 58) (loopOf Tryd.f58 0) (fg 58 1) (((.ptr Z 0) :: .unk :: .unk :: (.ptr h.length 0) :: (.ptr (h.length + 1) 0) :: U::U::U::U::U::U::U::U::U::U::U::U::U::U::U::U::U::U::U::U::U::U::U::U::U::U::U::U::U::U::U::U::U::[] : List AV)) (h ++ [.vars [.int 1, .val (.string ⟨#[]⟩), .str (txt m), .val (.int .i64 0), .slc true []], .vars [.val (.int .i64 0), .val (.string ⟨#[]⟩), .val (.string ⟨#[]⟩), .val (.int .i64 0), .slc true []]]) = some (.ret, ((.ptr Z 0) :: .unk :: .unk :: (.ptr h.length 0) :: (.ptr (h.length + 1) 0) :: U::U::U::U::U::U::U::U::U::U::U::U::U::U::U::U::U::U::U::U::U::U::U::U::U::U::U::U::U::U::U::U::U::[] : List AV), h ++ [.vars [.int 1, .val (.string ⟨#[]⟩), .str (txt m), .val (.int .i64 0), .slc true []], .vars [.int 1, .val (.string ⟨#[]⟩), .str (txt m), .val (.int .i64 0), .slc true []]]) := by
      rw [lrun_atC loop58_0]
      simp (implicitDefEqProofs := false) (disch := first | omega | exact List.length_set) only [go_sem, seval, rgn Tryd.f58 1 rfl, rgn Tryd.f58 2 rfl, rgn Tryd.f58 3 rfl, rgn Tryd.f58 4 rfl, sb_get0, sb_get1, sb_set1, hZ, hK, cp, hjn, hj0, hat]
    suffices e : ∃ j, aval Tryd.prog md fg 58 [.ptr Z 0, .agg [.int 1, .val (.string ⟨#[]⟩), .str (txt m), .val (.int .i64 0), .slc true []]] h = some (.agg [.int 1, .val (.string ⟨#[]⟩), .str (txt m), .val (.int .i64 0), .slc true []], h ++ j) by
      obtain ⟨j, e⟩ := e
      have := doCall_ref (by decide) (by decide) (by decide) e rfl (gcOk_append h j)
      rw [List.take_left' rfl] at this
      exact this
    refine ⟨[.vars [.int 1, .val (.string ⟨#[]⟩), .str (txt m), .val (.int .i64 0), .slc true []], .vars [.int 1, .val (.string ⟨#[]⟩), .str (txt m), .val (.int .i64 0), .slc true []]], ?_⟩
    rw [aval_of Tryd.func58 body58 Tryd.results58 Tryd.ntmps58 ok58]
    simp (implicitDefEqProofs := false) (disch := first | omega | exact List.length_set) only [go_sem, seval, rgn Tryd.f58 0 rfl, List.append_assoc, List.cons_append, List.nil_append, List.length_append, List.length_cons, List.length_nil, e, sb_get0, sb_get1, sb_set1, aresults, tupOf]
  · have hbd : bd N bs m = some u0 := by unfold bd; rw [hj]; dsimp only; rw [hu0]; dsimp only; rw [if_neg hu]
    rw [show eV u0 = tmV u0 from if_neg hu] at hat
    obtain ⟨a, b, c, d⟩ := w.ok m u0 hbd
    obtain ⟨u, c', z, e1, e2, e3, e4⟩ := lk_loop w hN hs (rk u0.name + 1) u0 a b (fun x hx => (d x hx).1) (fun _ => Nat.lt_succ_self _)
    refine .inr ⟨u0, u, hbd, e3, e4, ?_⟩
    have e : lrun Tryd.prog md fg (fg 58) (loopOf Tryd.f58 0) (fg 58 1) (((.ptr Z 0) :: .unk :: .unk :: (.ptr h.length 0) :: (.ptr (h.length + 1) 0) :: U::U::U::U::U::U::U::U::U::U::U::U::U::U::U::U::U::U::U::U::U::U::U::U::U::U::U::U::U::U::U::U::U::[] : List AV)) (h ++ [.vars [.int 1, .val (.string ⟨#[]⟩), .str (txt m), .val (.int .i64 0), .slc true []], .vars [.val (.int .i64 0), .val (.string ⟨#[]⟩), .val (.string ⟨#[]⟩), .val (.int .i64 0), .slc true []]]) = some (c', ((.ptr Z 0) :: .unk :: .unk :: (.ptr h.length 0) :: (.ptr (h.length + 1) 0) :: U::U::U::U::U::U::U::U::U::U::U::U::U::U::U::U::U::U::U::U::U::U::U::U::U::U::U::U::U::U::U::U::U::[] : List AV), h ++ [.vars (tmV u).cells, .vars z]) := by
      rw [← e1]
      obtain ⟨q1, q2, q3, q4, q5⟩ := u0
      have hu' : ¬ q1 = 0 := hu
      rw [tmV_mk] at hat
      rw [tmV_mk, ec]
      rw [lrun_atC loop58_0]
      simp (implicitDefEqProofs := false) (disch := first | omega | exact List.length_set) only [go_sem, seval, rgn Tryd.f58 1 rfl, rgn Tryd.f58 2 rfl, rgn Tryd.f58 3 rfl, rgn Tryd.f58 5 rfl, sb_get0, sb_get1, sb_set0, hZ, hK, cp, hjn, hj0, hat, hu']
    suffices e : ∃ j, aval Tryd.prog md fg 58 [.ptr Z 0, .agg [.int 1, .val (.string ⟨#[]⟩), .str (txt m), .val (.int .i64 0), .slc true []]] h = some (tmV u, h ++ j) by
      obtain ⟨j, e⟩ := e
      have := doCall_ref (by decide) (by decide) (by decide) e (solid_below _ _ (solid_tm u)) (gcOk_append h j)
      rw [List.take_left' rfl] at this
      exact this
    obtain ⟨k', p', m', n', l'⟩ := u
    rw [tmV_mk, ec] at e
    rw [tmV_mk]
    refine ⟨[.vars [.int k', .str (txt p'), .str (txt m'), .int n', .slc false (l'.map tmV)], .vars [.int k', .str (txt p'), .str (txt m'), .int n', .slc false (l'.map tmV)]], ?_⟩
    rcases e2 with ⟨rfl, rfl⟩ | ⟨rfl, rfl⟩
    · rw [aval_of Tryd.func58 body58 Tryd.results58 Tryd.ntmps58 ok58]
      simp (implicitDefEqProofs := false) (disch := first | omega | exact List.length_set) only [go_sem, seval, rgn Tryd.f58 0 rfl, rgn Tryd.f58 6 rfl, List.append_assoc, List.cons_append, List.nil_append, List.length_append, List.length_cons, List.length_nil, e, sb_get0, sb_get1, sb_set1, aresults, tupOf]
    · rw [tmV_mk, ec] at e
      rw [aval_of Tryd.func58 body58 Tryd.results58 Tryd.ntmps58 ok58]
      simp (implicitDefEqProofs := false) (disch := first | omega | exact List.length_set) only [go_sem, seval, rgn Tryd.f58 0 rfl, List.append_assoc, List.cons_append, List.nil_append, List.length_append, List.length_cons, List.length_nil, e, sb_get0, sb_get1, sb_set1, aresults, tupOf]
theorem full_raw (w : DW N bs rk) (hN : N.length ≤ 100000) {h : AHeap} (hs : SV h Z K nb N bs) {m : List UInt8} (hm : m ∈ N) (hml : m.length ≤ 9223372036854775807) : ∃ (t' : Tm) (x : Int), doCall md (aval Tryd.prog md fg) 36 [.ptr Z 0, rawV m, .int 1000] h = some (.tup [tmV t', .int x], h) ∧ (-1 ≤ x ∧ x < 1000) ∧ if (tsz (fin N bs rk m) : Int) ≤ 1000 then t' = fin N bs rk m ∧ x = 1000 - tsz (fin N bs rk m) else x < 0 := by
  have hih : ∀ (c : Tm), c.ty → c.fit → (∀ m ∈ tvars c, m ∈ N) → ∀ L : Nat, L < 1000 → FullOk Z K nb N bs rk c L := fun c h1 h2 h3 L hL => fullD_c w hN L (by omega) c h1 h2 h3
  cases hb : bd N bs m with
  | none =>
    have cl : ∀ l, doCall md (aval Tryd.prog md fg) 58 [.ptr Z 0, rawV m] (h ++ l) = some (rawV m, h ++ l) := fun l => by
      rcases look_raw w hN (hs.app l) hm with ⟨_, h2⟩ | ⟨t, u, h1, _⟩
      · exact h2
      · rw [hb] at h1; cases h1
    have := full_core w (M := 1000) (by omega) hs (k := 1) (p := []) (m := m) (kb := true) (ks := []) cl (by rw [Tm.ty]; simp [Tm.tys]) (by rw [Tm.fit]; simp [Tm.fits, hml]) (by intro x hx; rw [tvars, if_pos rfl] at hx; rw [List.mem_singleton.1 hx]; exact hm) (fun _ => hb) hih
    rw [show inst (fin N bs rk) ⟨1, [], m, 0, []⟩ = fin N bs rk m by rw [inst, if_pos rfl]] at this
    exact this
  | some t0 =>
    rcases look_raw w hN hs hm with ⟨h1, _⟩ | ⟨t, u, h1, lk, h3, h4⟩
    · rw [hb] at h1; cases h1
    · have cl : ∀ l, doCall md (aval Tryd.prog md fg) 58 [.ptr Z 0, rawV m] (h ++ l) = some (tmV u, h ++ l) := fun l => by
        rcases look_raw w hN (hs.app l) hm with ⟨g1, _⟩ | ⟨t', u', g1, _, g3, g4⟩
        · rw [hb] at g1; cases g1
        · rw [h1] at g1
          cases g1
          rw [h3, ← g3]; exact g4
      have hD : fin N bs rk m = inst (fin N bs rk) u := by rw [fin_dm w m t h1]; exact lk.same _ (fin_dm w)
      have uty := lk.ty
      have uft := lk.fit
      have uv := lk.vars
      have ufr := lk.free
      obtain ⟨k, p, q, n, ks⟩ := u
      have hn : n = 0 := by
        have := uty
        rw [Tm.ty] at this
        exact this.1.2.2.1
      subst hn
      rw [hD]
      rw [tmV_mk] at cl
      exact full_core w (M := 1000) (by omega) hs cl uty uft uv ufr hih
end
section
variable {N : List (List UInt8)} {bs : List Tm} {rk : List UInt8 → Nat} {nb : Bool}
set_option maxHeartbeats 8000000 in
theorem dv_loop (w : DW N bs rk) (hN : N.length ≤ 90000) (hml : ∀ m ∈ N, m.length ≤ 9223372036854775807) : ∀ (rem done : List (List UInt8)), N = done ++ rem → ∀ (h : AHeap) (kt : AV), SV h 0 1 nb N bs → KO h kt (done.map fun n => (n, fin N bs rk n)) →
    ∃ H kt' a7 a2 a3 okk, lrun Tryd.prog md fg (fg 12) (loopOf Tryd.f12 0) (fg 12 1) ((.unk :: .unk :: (.slc true []) :: (.int 0) :: (.ptr 0 0) :: .unk :: (kt) :: (.int done.length) :: U::U::U::U::U::U::U::U::U::U::U::U::U::U::U::U::U::U::U::U::U::U::U::U::U::U::U::U::U::U::U::U::U::U::U::U::U::U::U::U::U::U::U::U::U::U::[] : List AV)) h = some (if okk then .exit 0 else .ret, (.unk :: .unk :: (a2) :: (a3) :: (.ptr 0 0) :: .unk :: (kt') :: (a7) :: U::U::U::U::U::U::U::U::U::U::U::U::U::U::U::U::U::U::U::U::U::U::U::U::U::U::U::U::U::U::U::U::U::U::U::U::U::U::U::U::U::U::U::U::U::U::[] : List AV), H) ∧ (okk = false → a2 = .slc true [] ∧ a3 = .int 9) ∧ (okk = true ↔ ∀ n ∈ rem, tsz (fin N bs rk n) ≤ 1000) ∧ (okk = true → KO H kt' (N.map fun n => (n, fin N bs rk n)))
  | [], done, he, h, kt, I, hk => by
    rw [List.append_nil] at he
    subst he
    refine ⟨h, kt, .int N.length, .slc true [], .int 0, true, ?_, by simp, by simp, fun _ => hk⟩
    rw [if_pos rfl]
    have hZ := I.1
    rw [lrun_atC loop12_0]
    simp (implicitDefEqProofs := false) (disch := omega) only [go_sem, seval, rgn Tryd.f12 6 rfl, hZ, List.length_map]
  | n :: rem, done, he, h, kt, I, hk => by
    have hll : N.length = done.length + (rem.length + 1) := by rw [he]; simp
    have hmem : n ∈ N := by rw [he]; simp
    have hZ := I.1
    have hZ1 : ∀ l, hget (h ++ l) 0 = .vars [.slc nb (N.map sV), .arr 1 0 N.length 0 5] := fun l => (I.app l).1
    have hlt : (done.length : Int) < (N.length : Int) := by omega
    have htn : ((done.length : Int)).toNat = done.length := by omega
    have hat : (N.map sV)[done.length]? = some (.val (.string (txt n))) := by rw [he]; simp [sV]
    obtain ⟨t', x, c1, ⟨x1, x2⟩, x3⟩ := full_raw w (by omega) I hmem (hml n hmem)
    unfold rawV at c1
    by_cases hs : tsz (fin N bs rk n) ≤ 1000
    · rw [if_pos (by omega)] at x3
      obtain ⟨rfl, x3⟩ := x3
      have hx : ¬ x < 0 := by omega
      have I1 : SV (h ++ [AObj.vars (tmV (fin N bs rk n)).cells]) 0 1 nb N bs := I.app _
      have b1 : ∀ j o, hget h j = o → o ≠ .dead → hget (h ++ [AObj.vars (tmV (fin N bs rk n)).cells]) j = o := fun j o e h => by rw [hget_app _ (hlt_of e h)]; exact e
      have hk2 : KO (h ++ [AObj.vars (tmV (fin N bs rk n)).cells]) kt (done.map fun n => (n, fin N bs rk n)) := by
        rcases hk with q | ⟨K, g, q1, q2⟩
        · exact .inl q
        · exact .inr ⟨K, g, q1, b1 _ _ q2 (by simp)⟩
      obtain ⟨v, H2, y1, y2, y3, y4⟩ := ko_add hk2 (by rw [List.length_map]; omega) (n, fin N bs rk n)
      have I2 : SV H2 0 1 nb N bs := ⟨y4 _ _ I1.1 (by simp) (by simp), y4 _ _ I1.2 (by simp) (by simp)⟩
      obtain ⟨H, kt', a7, a2, a3, okk, d1, d2, d3, d4⟩ := dv_loop w hN hml rem (done ++ [n]) (by rw [he]; simp) H2 v I2 (by rw [List.map_append]; exact y2)
      refine ⟨H, kt', a7, a2, a3, okk, ?_, d2, ?_, d4⟩
      · have hlen : (done ++ [n]).length = done.length + 1 := by simp
        rw [hlen] at d1
        rw [← d1]
        generalize hTi : fin N bs rk n = ti at *
        obtain ⟨q1, q2, q3, q4, q5⟩ := ti
        rw [tmV_mk] at c1 y1
        unfold valV at y1
        dsimp only at y1
        rw [show (AV.agg [.int q1, .str (txt q2), .str (txt q3), .int q4, .slc false (q5.map tmV)]).cells = [.int q1, .str (txt q2), .str (txt q3), .int q4, .slc false (q5.map tmV)] from rfl] at y1
        rw [lrun_atC loop12_0]
        simp (implicitDefEqProofs := false) (disch := first | omega | exact List.length_set) only [go_sem, seval, rgn Tryd.f12 6 rfl, rgn Tryd.f12 7 rfl, rgn Tryd.f12 8 rfl, rgn Tryd.f12 9 rfl, rgn Tryd.f12 11 rfl, hlt, htn, hat, hZ, hZ1, c1, hx, hget_last, set_last, y1, sV, List.length_map, thenDraw_append, thenDraw_store]
        all_goals (congr 1 <;> simp only [List.cons.injEq, AV.val.injEq, Value.int.injEq, Value.bool.injEq, true_and, and_true] <;> omega)
      · rw [d3]
        simp [hs]
    · rw [if_neg (by omega)] at x3
      refine ⟨h ++ [AObj.vars (tmV t').cells], kt, .int done.length, .slc true [], .int 9, false, ?_, fun _ => ⟨rfl, rfl⟩, ?_, by simp⟩
      · simp only [Bool.false_eq_true, if_false]
        obtain ⟨q1, q2, q3, q4, q5⟩ := t'
        rw [tmV_mk] at c1
        rw [tmV_mk]
        rw [show (AV.agg [.int q1, .str (txt q2), .str (txt q3), .int q4, .slc false (q5.map tmV)]).cells = [.int q1, .str (txt q2), .str (txt q3), .int q4, .slc false (q5.map tmV)] from rfl]
        rw [lrun_atC loop12_0]
        simp (implicitDefEqProofs := false) (disch := first | omega | exact List.length_set) only [go_sem, seval, rgn Tryd.f12 6 rfl, rgn Tryd.f12 7 rfl, rgn Tryd.f12 8 rfl, rgn Tryd.f12 9 rfl, rgn Tryd.f12 10 rfl, hlt, htn, hat, hZ, c1, x3, hget_last, set_last, List.length_map]
      · constructor
        · intro h; cases h
        · intro h; exact absurd (h n (by simp)) hs
end
theorem fin_tf {N : List (List UInt8)} {bs : List Tm} {rk : List UInt8 → Nat} (w : DW N bs rk) (hml : ∀ m ∈ N, m.length ≤ 9223372036854775807) (n : List UInt8) (hn : n ∈ N) : (fin N bs rk n).ty := by
  exact fin_ty w _ n (Nat.lt_succ_self _)
set_option maxHeartbeats 8000000 in
theorem solveD {l : List (Tm × Tm)} (hty : Tm.tys (flatE l)) (hft : Tm.fits (flatE l)) (hsz : tszs (flatE l) ≤ 40000) (hll : l.length ≤ 1000) :
    ((¬ ∃ th, Eqs th l) ∧ pcall Tryd.prog md fg 12 [.slc false (l.map eqV)] = some (.tup [.slc false [], .int 15])) ∨
    ∃ s, Sol l (vsL [] (flatE l)) s ∧ (∀ n ∈ vsL [] (flatE l), (s n).ty) ∧ (((∀ n ∈ vsL [] (flatE l), tsz (s n) ≤ 1000) ∧ pcall Tryd.prog md fg 12 [.slc false (l.map eqV)] = some (.tup [.slc false ((vsL [] (flatE l)).map fun n => valV (n, s n)), .int 0])) ∨ ((¬ ∀ n ∈ vsL [] (flatE l), tsz (s n) ≤ 1000) ∧ pcall Tryd.prog md fg 12 [.slc false (l.map eqV)] = some (.tup [.slc false [], .int 9]))) := by
  obtain ⟨res, nb, bs, c1, c3⟩ := newD_c hty hft hsz hll
  have hNl : (vsL [] (flatE l)).length ≤ 40000 := by
    have := vsL_len (flatE l) []
    simp only [List.length_nil] at this
    omega
  have hml : ∀ m ∈ vsL [] (flatE l), m.length ≤ 9223372036854775807 := fun m hm => tvarss_fit _ hft _ (by
    have := (vsL_mem _ _ m hty).1 hm
    simpa using this)
  cases res with
  | false =>
    simp only [Bool.false_eq_true, if_false] at c3
    refine .inl ⟨c3, ?_⟩
    have e : aval Tryd.prog md fg 12 [.slc false (l.map eqV)] [] = some (.tup [.slc true [], .int 15], dS nb (vsL [] (flatE l)) bs) := by
      rw [aval_of Tryd.func12 body12 Tryd.results12 Tryd.ntmps12 ok12]
      simp (implicitDefEqProofs := false) (disch := omega) only [go_sem, seval, rgn Tryd.f12 0 rfl, rgn Tryd.f12 1 rfl, rgn Tryd.f12 2 rfl, rgn Tryd.f12 3 rfl, c1]
    rw [pcall_eq, e]
    unfold pureRes
    dsimp only
    rw [exp_nil]
    rfl
  | true =>
    simp only [if_true] at c3
    obtain ⟨rk, w, hdm⟩ := c3
    have hsol := sol_doc w hty hdm
    have hfit := fun n hn => fin_tf w hml n hn
    obtain ⟨H1, kt', a7, a2, a3, okk, d1, d2, d3, d4⟩ := dv_loop (nb := nb) w (by omega) hml _ [] rfl (dS nb (vsL [] (flatE l)) bs) (.slc true []) ⟨rfl, rfl⟩ (.inl ⟨rfl, rfl⟩)
    simp only [List.length_nil, Int.natCast_zero] at d1
    generalize vsL [] (flatE l) = N at *
    refine .inr ⟨_, hsol, hfit, ?_⟩
    cases okk with
    | true =>
      left
      refine ⟨d3.1 rfl, ?_⟩
      simp only [if_true] at d1
      have e : aval Tryd.prog md fg 12 [.slc false (l.map eqV)] [] = some (.tup [kt', .int 0], H1) := by
        rw [aval_of Tryd.func12 body12 Tryd.results12 Tryd.ntmps12 ok12]
        simp (implicitDefEqProofs := false) (disch := omega) only [go_sem, seval, rgn Tryd.f12 0 rfl, rgn Tryd.f12 1 rfl, rgn Tryd.f12 2 rfl, rgn Tryd.f12 4 rfl, rgn Tryd.f12 5 rfl, rgn Tryd.f12 12 rfl, c1, d1]
      rw [pcall_eq, e]
      unfold pureRes
      dsimp only
      rcases d4 rfl with ⟨e1, rfl⟩ | ⟨K, g, rfl, e2⟩
      · rw [exp_nil]
        have : N = [] := by simpa using e1
        subst this
        rfl
      · have := exp_val e2 (solid_val _) (.int .i64 0)
        rw [List.length_map, List.length_map] at this
        rw [List.length_map]
        rw [this]
        dsimp only
        rw [if_pos (by simp [canFrz, e2]), List.map_map]
        rfl
    | false =>
      right
      refine ⟨fun h => by have := d3.2 h; simp at this, ?_⟩
      simp only [Bool.false_eq_true, if_false] at d1
      obtain ⟨rfl, rfl⟩ := d2 rfl
      have e : aval Tryd.prog md fg 12 [.slc false (l.map eqV)] [] = some (.tup [.slc true [], .int 9], H1) := by
        rw [aval_of Tryd.func12 body12 Tryd.results12 Tryd.ntmps12 ok12]
        simp (implicitDefEqProofs := false) (disch := omega) only [go_sem, seval, rgn Tryd.f12 0 rfl, rgn Tryd.f12 1 rfl, rgn Tryd.f12 2 rfl, rgn Tryd.f12 4 rfl, rgn Tryd.f12 5 rfl, c1, d1]
      rw [pcall_eq, e]
      unfold pureRes
      dsimp only
      rw [exp_nil]
      rfl
theorem solid_l (l : List (Tm × Tm)) : solidL [AV.slc false (l.map eqV)] = true := by simp only [solidL, solid, solid_eqs, Bool.not_false, Bool.and_true]
set_option maxHeartbeats 16000000 in
theorem unifySolves (l : List (Tm × Tm)) (hl : l.length ≤ 9223372036854775807) (hf : Tm.fits (flatE l)) : pcall Tryd.prog md fg 3 [.slc false (l.map eqV)] = some (.bool true) := by
  obtain ⟨b, b1, b2⟩ := equations_p l hl hf
  have c9 := eqs_c b2
  suffices e : ∃ h, aval Tryd.prog md fg 3 [.slc false (l.map eqV)] [] = some (.val (.bool true), h) by
    obtain ⟨h, e⟩ := e
    rw [pcall_eq, e, pureRes_solid rfl]
  cases b with
  | false =>
    rw [aval_of Tryd.func3 body3 Tryd.results3 Tryd.ntmps3 ok3]
    simp (implicitDefEqProofs := false) (disch := omega) only [go_sem, seval, rgn Tryd.f3 0 rfl, rgn Tryd.f3 1 rfl, rgn Tryd.f3 2 rfl, c9, alive_c]
    exact ⟨_, rfl⟩
  | true =>
    obtain ⟨hz, hty, h20⟩ := b1 rfl
    have hsz : tszs (flatE l) ≤ 40000 := by omega
    -- both answers are one
    have key : ∃ (L : List Vl) (n : Int), L.length ≤ 100000 ∧ (∀ v ∈ L, v.2.fit) ∧ pcall Tryd.prog md fg 11 [.slc false (l.map eqV)] = some (.tup [.slc false (L.map valV), .int n]) ∧ pcall Tryd.prog md fg 12 [.slc false (l.map eqV)] = some (.tup [.slc false (L.map valV), .int n]) := by
      rcases solveP hty hf hsz (by omega) with ⟨hno, e⟩ | ⟨s, hsol, hfit, hs⟩
      · rcases solveD hty hf hsz (by omega) with ⟨_, e'⟩ | ⟨s', hsol', _⟩
        · exact ⟨[], 15, by simp, by simp, e, e'⟩
        · exact absurd ⟨_, hsol'.eqs⟩ hno
      · rcases solveD hty hf hsz (by omega) with ⟨hno, _⟩ | ⟨s', hsol', hfit', hs'⟩
        · exact absurd ⟨_, hsol.eqs⟩ hno
        · have hu := sol_uniq hsol hsol' (fun n hn => (hfit n hn).1) hfit'
          have hNl := vsL_len (flatE l) []
          simp only [List.length_nil] at hNl
          generalize vsL [] (flatE l) = N at *
          have hm : (N.map fun n => valV (n, s' n)) = N.map fun n => valV (n, s n) := List.map_congr_left fun n hn => by rw [hu n hn]
          have hall : (∀ n ∈ N, tsz (s' n) ≤ 1000) ↔ ∀ n ∈ N, tsz (s n) ≤ 1000 := ⟨fun h n hn => by rw [hu n hn]; exact h n hn, fun h n hn => by rw [← hu n hn]; exact h n hn⟩
          rcases hs with ⟨h1, e⟩ | ⟨h1, e⟩
          · rcases hs' with ⟨_, e'⟩ | ⟨h2, _⟩
            · refine ⟨N.map fun n => (n, s n), 0, by rw [List.length_map]; omega, fun v hv => ?_, ?_, ?_⟩
              · obtain ⟨n, hn, rfl⟩ := List.mem_map.1 hv
                exact (hfit n hn).2
              · rw [e, List.map_map]; rfl
              · rw [e', hm, List.map_map]; rfl
            · exact absurd (hall.2 h1) h2
          · rcases hs' with ⟨h2, _⟩ | ⟨_, e'⟩
            · exact absurd (hall.1 h2) h1
            · exact ⟨[], 9, by simp, by simp, e, e'⟩
    obtain ⟨L, n, k1, k2, e1, e2⟩ := key
    have c11 := fun h => doCall_pure (h := h) md11 (solid_l l) e1
    have c12 := fun h => doCall_pure (h := h) md12 (solid_l l) e2
    have c13 := usame_c L k1 k2
    rw [aval_of Tryd.func3 body3 Tryd.results3 Tryd.ntmps3 ok3]
    simp (implicitDefEqProofs := false) (disch := omega) only [go_sem, seval, rgn Tryd.f3 0 rfl, rgn Tryd.f3 1 rfl, rgn Tryd.f3 3 rfl, rgn Tryd.f3 4 rfl, rgn Tryd.f3 5 rfl, c9, c11, c12, c13, no_c, alive_c]
    exact ⟨_, rfl⟩
end Go.Proofs.YtncjbccjpneoiaaDoor
