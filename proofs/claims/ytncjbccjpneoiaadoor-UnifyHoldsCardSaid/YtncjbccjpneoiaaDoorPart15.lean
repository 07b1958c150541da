/- Parts of the proof, each with its own heading: Putting in, whatever was handed away before. UnifyHolds is true of every input. UnifyHolds is true of every input. What the laws of touchstonelaw13 over equations share: closed facts of the program, terms and equations as arguments. -/
import Derived.Test.YtncjbccjpneoiaaDoorPart14
import Derived.Test.YtncjbccjpneoiaaDoorRows
set_option linter.unusedSimpArgs false
set_option linter.unusedVariables false
namespace Go.Proofs.YtncjbccjpneoiaaDoor
open Go Go.Ab Go.Proofs
set_option maxRecDepth 100000
set_option linter.unusedSimpArgs false
set_option linter.unusedVariables false
theorem frz_exp {h : AHeap} {id g k : Nat} {es : List AV} (ho : hget h id = .frz k es g) (hs : solidL es = true) (d : Nat) : exp1 h (d + 1) (.arr id 0 es.length g k) = some (.slc false es, [id]) := by
  have hv : sview h (.arr id 0 es.length g k) = some es := by simp [sview, ho]
  simp only [exp1, hv, expL_solid hs]
  rfl
def HA (h : AHeap) (v : AV) (k : Nat) (ys : List AV) (ids : List Nat) : Prop := (ys = [] ∧ v = .slc true [] ∧ ids = []) ∨ ∃ K g, v = .arr K 0 ys.length g k ∧ (hget h K = .arr k ys g ∨ hget h K = .frz k ys g) ∧ ids = [K]
theorem HA.exp {h : AHeap} {v : AV} {k : Nat} {ys : List AV} {ids : List Nat} (x : HA h v k ys ids) (hs : solidL ys = true) : exp1 h expDepth v = some (.slc false ys, ids) ∧ canFrz h ids = true := by
  rcases x with ⟨rfl, rfl, rfl⟩ | ⟨K, g, rfl, e | e, rfl⟩
  · exact ⟨rfl, rfl⟩
  · exact ⟨arr_exp e hs 59, by simp [canFrz, e]⟩
  · exact ⟨frz_exp e hs 59, by simp [canFrz, e]⟩
theorem HA.frz {h : AHeap} {v : AV} {k : Nat} {ys : List AV} {ids : List Nat} (x : HA h v k ys ids) (j : List Nat) (hj : ids = j ∨ ∀ i ∈ j, ∀ es g, hget h i ≠ .arr k es g ∧ hget h i ≠ .frz k es g) (h1 : j.length ≤ 1) : HA (frzAll h j) v k ys ids := by
  rcases x with x | ⟨K, g, rfl, e, rfl⟩
  · exact .inl x
  · right
    refine ⟨K, g, rfl, ?_, rfl⟩
    rcases hj with rfl | hj
    · rcases e with e | e
      · right
        simp only [frzAll, frz1, e]
        exact hget_set_eq (hlt_of e (by simp))
      · right
        simp only [frzAll, frz1, e]
    · match j, h1 with
      | [], _ => exact e
      | [i], _ =>
        have hne : i ≠ K := by
          rintro rfl
          have := hj i (by simp) ys g
          rcases e with e | e
          · exact this.1 e
          · exact this.2 e
        simp only [frzAll, frz1]
        split
        · rw [hget_set_ne hne]; exact e
        · exact e
theorem HA.fix {h : AHeap} {v : AV} {k : Nat} {ys : List AV} {ids : List Nat} (x : HA h v k ys ids) (hf : ∀ i ∈ ids, ∃ a b c, hget h i = .frz a b c) : frzAll h ids = h := by
  rcases x with ⟨_, _, rfl⟩ | ⟨K, g, _, _, rfl⟩
  · rfl
  · obtain ⟨a, b, c, e⟩ := hf K (by simp)
    simp only [frzAll, frz1, e]
theorem frzAll_app : ∀ (a b : List Nat) (h : AHeap), frzAll h (a ++ b) = frzAll (frzAll h a) b
  | [], b, h => rfl
  | i :: r, b, h => by rw [List.cons_append, frzAll, frzAll, frzAll_app r b]
theorem HA.len {h : AHeap} {v : AV} {k : Nat} {ys : List AV} {ids : List Nat} (x : HA h v k ys ids) : ids.length ≤ 1 := by
  rcases x with ⟨_, _, rfl⟩ | ⟨K, g, _, _, rfl⟩ <;> simp
theorem HA.other {h : AHeap} {v : AV} {k k' : Nat} {ys : List AV} {ids : List Nat} (x : HA h v k ys ids) (hk : k ≠ k') : ∀ i ∈ ids, ∀ es g, hget h i ≠ .arr k' es g ∧ hget h i ≠ .frz k' es g := by
  rcases x with ⟨_, _, rfl⟩ | ⟨K, g, _, e, rfl⟩
  · intro i hi; cases hi
  · intro i hi es g'
    rw [List.mem_singleton.1 hi]
    rcases e with e | e
    · rw [e]; exact ⟨by simp [hk], by simp⟩
    · rw [e]; exact ⟨by simp, by simp [hk]⟩
theorem HA.done {h : AHeap} {v : AV} {k : Nat} {ys : List AV} {ids : List Nat} (x : HA h v k ys ids) : ∀ i ∈ ids, ∃ a b c, hget (frzAll h ids) i = .frz a b c := by
  rcases x with ⟨_, _, rfl⟩ | ⟨K, g, _, e, rfl⟩
  · intro i hi; cases hi
  · intro i hi
    rw [List.mem_singleton.1 hi]
    rcases e with e | e
    · refine ⟨k, ys, g, ?_⟩
      simp only [frzAll, frz1, e]
      exact hget_set_eq (hlt_of e (by simp))
    · refine ⟨k, ys, g, ?_⟩
      simp only [frzAll, frz1, e]
theorem frz_other {h : AHeap} {j : List Nat} {i : Nat} {a c : Nat} {b : List AV} (e : hget h i = .frz a b c) : hget (frzAll h j) i = .frz a b c := by
  induction j generalizing h with
  | nil => exact e
  | cons x r ih =>
    rw [frzAll]
    refine ih ?_
    unfold frz1
    split
    · rename_i k es g ho
      rw [hget_set_ne (by rintro rfl; rw [ho] at e; cases e)]; exact e
    · exact e
theorem flat_tm (t : Tm) : flat (tmV t) = false := by
  obtain ⟨k, p, m, n, l⟩ := t
  rw [tmV_mk]; rfl
theorem sub_fz {L : List Vl} (hL : L.length ≤ 100000) {h0 : AHeap} {v w : AV} (hN : NB h0 v (L.map Prod.fst)) (hT : TL h0 w (L.map Prod.snd)) : ∃ hF, (∀ g, tsz g ≤ 100000 → doCall md (aval Tryd.prog md fg) 17 [tmV g, v, w] h0 = some (tmV (subT L g), hF) ∧ doCall md (aval Tryd.prog md fg) 17 [tmV g, v, w] hF = some (tmV (subT L g), hF)) ∧ ((L = [] ∧ w = .slc true []) ∨ ∃ K g, w = .arr K 0 L.length g 5 ∧ hget hF K = .frz 5 ((L.map Prod.snd).map tmV) g) := by
  obtain ⟨i1, a1⟩ : ∃ i1, HA h0 v 1 ((L.map Prod.fst).map sV) i1 := by
    rcases hN with ⟨q1, q2⟩ | ⟨K, g, q1, q2⟩
    · exact ⟨_, .inl ⟨by rw [q2]; rfl, q1, rfl⟩⟩
    · exact ⟨_, .inr ⟨K, g, by rw [List.length_map]; exact q1, .inl q2, rfl⟩⟩
  obtain ⟨i2, a2⟩ : ∃ i2, HA h0 w 5 ((L.map Prod.snd).map tmV) i2 := by
    rcases hT with ⟨q1, q2⟩ | ⟨K, g, q1, q2⟩
    · exact ⟨_, .inl ⟨by rw [q2]; rfl, q1, rfl⟩⟩
    · exact ⟨_, .inr ⟨K, g, by rw [List.length_map]; exact q1, .inl q2, rfl⟩⟩
  have s1 := solid_names (L.map Prod.fst)
  have s2 := solid_byl (L.map Prod.snd)
  have b1 : HA (frzAll h0 i1) v 1 ((L.map Prod.fst).map sV) i1 := a1.frz i1 (.inl rfl) a1.len
  have b2 : HA (frzAll h0 i1) w 5 ((L.map Prod.snd).map tmV) i2 := a2.frz i1 (.inr (a1.other (by decide))) a1.len
  have c1 : HA (frzAll (frzAll h0 i1) i2) v 1 ((L.map Prod.fst).map sV) i1 := b1.frz i2 (.inr (b2.other (by decide))) b2.len
  have c2 : HA (frzAll (frzAll h0 i1) i2) w 5 ((L.map Prod.snd).map tmV) i2 := b2.frz i2 (.inl rfl) b2.len
  have f1 : ∀ i ∈ i1, ∃ a b c, hget (frzAll (frzAll h0 i1) i2) i = .frz a b c := fun i hi => by
    obtain ⟨a, b, c, e⟩ := a1.done i hi
    exact ⟨a, b, c, frz_other e⟩
  have f2 := b2.done
  have hfix : frzAll (frzAll (frzAll h0 i1) i2) (i1 ++ i2) = frzAll (frzAll h0 i1) i2 := by
    rw [frzAll_app, c1.fix f1, c2.fix f2]
  have key : ∀ h, HA h v 1 ((L.map Prod.fst).map sV) i1 → HA h w 5 ((L.map Prod.snd).map tmV) i2 → ∀ g, tsz g ≤ 100000 → doCall md (aval Tryd.prog md fg) 17 [tmV g, v, w] h = some (tmV (subT L g), frzAll h (i1 ++ i2)) := fun h d1 d2 g hg => by
    obtain ⟨e1, g1⟩ := d1.exp s1
    obtain ⟨e2, g2⟩ := d2.exp s2
    have he : expL (exp1 h expDepth) [tmV g, v, w] = some ([tmV g, nmV L, byV L], i1 ++ i2) := by
      simp only [expL, exp1_solid (solid_tm g), e1, e2, List.append_nil, List.nil_append]
    have hc : canFrz h (i1 ++ i2) = true := by
      unfold canFrz at g1 g2 ⊢
      rw [List.all_append, g1, g2]; rfl
    have hst := ST_all L hL g hg
    unfold ST at hst
    rw [doCall_0 (by rw [md17]; decide)]; unfold doCall0
    rw [if_pos (.inr (by rw [md17]; decide)), he]
    simp only [hc, if_true]
    rw [← pcall_eq, hst]
    simp [flat_tm]
  refine ⟨frzAll (frzAll h0 i1) i2, fun g hg => ⟨?_, ?_⟩, ?_⟩
  · rw [key h0 a1 a2 g hg, frzAll_app]
  · rw [key _ c1 c2 g hg, hfix]
  · rcases c2 with ⟨q1, q2, _⟩ | ⟨K, g, q1, q2, q3⟩
    · exact .inl ⟨by simpa using q1, q2⟩
    · right
      obtain ⟨a, b, c, e⟩ := f2 K (by rw [q3]; simp)
      refine ⟨K, g, by rw [List.length_map, List.length_map] at q1; exact q1, ?_⟩
      rcases q2 with q2 | q2
      · rw [q2] at e; cases e
      · exact q2
theorem n82 : ((some 82 : Option Tmp) == some 74) = false := rfl
theorem e16 (x : Option Tmp) : (md 16 == 1 || md 16 == 3 || decide (100 ≤ md 16) && (x == some (md 16 - 100))) = false := rfl
theorem n97 : ((some 97 : Option Tmp) == some 74) = false := rfl
set_option maxHeartbeats 16000000 in
theorem h2_loop (l : List (Tm × Tm)) (hl : l.length ≤ 1000) {v w : AV} {f : Tm → Tm} {h0 hF : AHeap} (hsub : ∀ p ∈ l, ∀ t, (t = p.1 ∨ t = p.2) → doCall md (aval Tryd.prog md fg) 17 [tmV t, v, w] h0 = some (tmV (f t), hF) ∧ doCall md (aval Tryd.prog md fg) 17 [tmV t, v, w] hF = some (tmV (f t), hF)) (hfit : ∀ p ∈ l, (f p.1).fit) (heq : ∀ p ∈ l, f p.1 = f p.2) : ∀ (rem done : List (Tm × Tm)), l = done ++ rem → ∀ (h : AHeap), h = h0 ∨ h = hF →
    ∃ H, lrun Tryd.prog md fg (fg 4) (loopOf Tryd.f4 2) (fg 4 3) (((.slc false (l.map eqV)) :: .unk :: .unk :: .unk :: .unk :: (v) :: (w) :: .unk :: .unk :: .unk :: .unk :: .unk :: .unk :: .unk :: .unk :: .unk :: .unk :: .unk :: .unk :: .unk :: .unk :: .unk :: .unk :: .unk :: .unk :: .unk :: .unk :: .unk :: .unk :: .unk :: .unk :: .unk :: .unk :: .unk :: .unk :: .unk :: .unk :: .unk :: .unk :: .unk :: .unk :: .unk :: .unk :: .unk :: .unk :: .unk :: .unk :: .unk :: .unk :: .unk :: .unk :: .unk :: .unk :: .unk :: .unk :: .unk :: .unk :: .unk :: .unk :: .unk :: .unk :: .unk :: .unk :: (.int l.length) :: (.int done.length) :: .unk :: .unk :: .unk :: .unk :: .unk :: .unk :: .unk :: .unk :: .unk :: .unk :: .unk :: .unk :: .unk :: .unk :: .unk :: .unk :: .unk :: .unk :: .unk :: .unk :: .unk :: .unk :: .unk :: .unk :: .unk :: .unk :: .unk :: .unk :: .unk :: .unk :: .unk :: .unk :: .unk :: .unk :: .unk :: .unk :: .unk :: .unk :: .unk :: .unk :: .unk :: [] : List AV)) h = some (.exit 2, ((.slc false (l.map eqV)) :: .unk :: .unk :: .unk :: .unk :: (v) :: (w) :: .unk :: .unk :: .unk :: .unk :: .unk :: .unk :: .unk :: .unk :: .unk :: .unk :: .unk :: .unk :: .unk :: .unk :: .unk :: .unk :: .unk :: .unk :: .unk :: .unk :: .unk :: .unk :: .unk :: .unk :: .unk :: .unk :: .unk :: .unk :: .unk :: .unk :: .unk :: .unk :: .unk :: .unk :: .unk :: .unk :: .unk :: .unk :: .unk :: .unk :: .unk :: .unk :: .unk :: .unk :: .unk :: .unk :: .unk :: .unk :: .unk :: .unk :: .unk :: .unk :: .unk :: .unk :: .unk :: .unk :: (.int l.length) :: (.int l.length) :: .unk :: .unk :: .unk :: .unk :: .unk :: .unk :: .unk :: .unk :: .unk :: .unk :: .unk :: .unk :: .unk :: .unk :: .unk :: .unk :: .unk :: .unk :: .unk :: .unk :: .unk :: .unk :: .unk :: .unk :: .unk :: .unk :: .unk :: .unk :: .unk :: .unk :: .unk :: .unk :: .unk :: .unk :: .unk :: .unk :: .unk :: .unk :: .unk :: .unk :: .unk :: [] : List AV), H) ∧ (H = hF ∨ (rem = [] ∧ H = h))
  | [], done, he, h, hh => by
    rw [List.append_nil] at he
    subst he
    refine ⟨h, ?_, .inr ⟨rfl, rfl⟩⟩
    rw [lrun_atC loop4_2]
    simp (implicitDefEqProofs := false) (disch := omega) only [go_sem, seval, rgn Tryd.f4 19 rfl]
  | (A, B) :: rem, done, he, h, hh => by
    have hll : l.length = done.length + (rem.length + 1) := by rw [he]; simp
    have hlt : (done.length : Int) < (l.length : Int) := by omega
    have htn : ((done.length : Int)).toNat = done.length := by omega
    have hmem : (A, B) ∈ l := by rw [he]; simp
    obtain ⟨p1, p2⟩ := hsub (A, B) hmem A (.inl rfl)
    obtain ⟨q1, q2⟩ := hsub (A, B) hmem B (.inr rfl)
    have hA : doCall md (aval Tryd.prog md fg) 17 [tmV A, v, w] h = some (tmV (f A), hF) := by
      rcases hh with rfl | rfl
      · exact p1
      · exact p2
    have hfa := hfit (A, B) hmem
    have hab := heq (A, B) hmem
    dsimp only at hfa hab
    rw [← hab] at q2
    have cs := tsame_c (f A) (f A) hfa hfa hF
    rw [(sameT_iff _ _).2 rfl] at cs
    obtain ⟨H, e1, e2⟩ := h2_loop l hl hsub hfit heq rem (done ++ [(A, B)]) (by rw [he]; simp) hF (.inr rfl)
    refine ⟨H, ?_, .inl (by rcases e2 with e2 | ⟨_, e2⟩ <;> exact e2)⟩
    have hlen : (done ++ [(A, B)]).length = done.length + 1 := by simp
    rw [hlen] at e1
    rw [← e1]
    clear p1 p2 q1 e1 e2 hfa hab hsub hfit heq
    generalize hx : f A = x at *
    clear hx
    obtain ⟨k, p, m, n, l1⟩ := A
    obtain ⟨k', p', m', n', l2⟩ := B
    obtain ⟨k3, p3, m3, n3, l3⟩ := x
    have hat : (l.map eqV)[done.length]? = some (.agg [.int k, .str (txt p), .str (txt m), .int n, .slc false (l1.map tmV), .int k', .str (txt p'), .str (txt m'), .int n', .slc false (l2.map tmV)]) := by rw [he]; simp [eqV]
    rw [tmV_mk, tmV_mk] at hA q2
    rw [tmV_mk] at cs
    rw [lrun_atC loop4_2]
    simp (implicitDefEqProofs := false) (disch := omega) only [go_sem, seval, rgn Tryd.f4 19 rfl, rgn Tryd.f4 20 rfl, rgn Tryd.f4 21 rfl, rgn Tryd.f4 23 rfl, List.length_map, hlt, htn, hat, hA, q2, cs, md17, beq_self_eq_true, Bool.or_true, Bool.and_true, n82, e16, Bool.or_self, Bool.false_or, Bool.or_false]
    all_goals (congr 1 <;> simp only [List.cons.injEq, AV.val.injEq, Value.int.injEq, Value.bool.injEq, true_and, and_true] <;> omega)
set_option maxHeartbeats 16000000 in
theorem h3_loop (ts : List Tm) (hl : ts.length ≤ 1000) {v : AV} {K g : Nat} {hF : AHeap} (hK : hget hF K = .frz 5 (ts.map tmV) g) (hsub : ∀ t ∈ ts, doCall md (aval Tryd.prog md fg) 17 [tmV t, v, .arr K 0 ts.length g 5] hF = some (tmV t, hF)) (hfit : ∀ t ∈ ts, t.fit) : ∀ (rem done : List Tm), ts = done ++ rem →
    lrun Tryd.prog md fg (fg 4) (loopOf Tryd.f4 4) (fg 4 5) ((.unk :: .unk :: .unk :: .unk :: .unk :: (v) :: (.arr K 0 ts.length g 5) :: .unk :: .unk :: .unk :: .unk :: .unk :: .unk :: .unk :: .unk :: .unk :: .unk :: .unk :: .unk :: .unk :: .unk :: .unk :: .unk :: .unk :: .unk :: .unk :: .unk :: .unk :: .unk :: .unk :: .unk :: .unk :: .unk :: .unk :: .unk :: .unk :: .unk :: .unk :: .unk :: .unk :: .unk :: .unk :: .unk :: .unk :: .unk :: .unk :: .unk :: .unk :: .unk :: .unk :: .unk :: .unk :: .unk :: .unk :: .unk :: .unk :: .unk :: .unk :: .unk :: .unk :: .unk :: .unk :: .unk :: .unk :: .unk :: .unk :: .unk :: .unk :: .unk :: .unk :: .unk :: .unk :: .unk :: .unk :: .unk :: .unk :: .unk :: .unk :: .unk :: .unk :: .unk :: .unk :: .unk :: .unk :: .unk :: .unk :: .unk :: (.int ts.length) :: (.int done.length) :: .unk :: .unk :: .unk :: .unk :: .unk :: .unk :: .unk :: .unk :: .unk :: .unk :: .unk :: .unk :: .unk :: .unk :: .unk :: .unk :: .unk :: [] : List AV)) hF = some (.exit 4, (.unk :: .unk :: .unk :: .unk :: .unk :: (v) :: (.arr K 0 ts.length g 5) :: .unk :: .unk :: .unk :: .unk :: .unk :: .unk :: .unk :: .unk :: .unk :: .unk :: .unk :: .unk :: .unk :: .unk :: .unk :: .unk :: .unk :: .unk :: .unk :: .unk :: .unk :: .unk :: .unk :: .unk :: .unk :: .unk :: .unk :: .unk :: .unk :: .unk :: .unk :: .unk :: .unk :: .unk :: .unk :: .unk :: .unk :: .unk :: .unk :: .unk :: .unk :: .unk :: .unk :: .unk :: .unk :: .unk :: .unk :: .unk :: .unk :: .unk :: .unk :: .unk :: .unk :: .unk :: .unk :: .unk :: .unk :: .unk :: .unk :: .unk :: .unk :: .unk :: .unk :: .unk :: .unk :: .unk :: .unk :: .unk :: .unk :: .unk :: .unk :: .unk :: .unk :: .unk :: .unk :: .unk :: .unk :: .unk :: .unk :: .unk :: (.int ts.length) :: (.int ts.length) :: .unk :: .unk :: .unk :: .unk :: .unk :: .unk :: .unk :: .unk :: .unk :: .unk :: .unk :: .unk :: .unk :: .unk :: .unk :: .unk :: .unk :: [] : List AV), hF)
  | [], done, he => by
    rw [List.append_nil] at he
    subst he
    rw [lrun_atC loop4_4]
    simp (implicitDefEqProofs := false) (disch := omega) only [go_sem, seval, rgn Tryd.f4 25 rfl]
  | t :: rem, done, he => by
    have hll : ts.length = done.length + (rem.length + 1) := by rw [he]; simp
    have hlt : (done.length : Int) < (ts.length : Int) := by omega
    have htn : ((done.length : Int)).toNat = done.length := by omega
    have hmem : t ∈ ts := by rw [he]; simp
    have c1 := hsub t hmem
    have hft := hfit t hmem
    have cs := tsame_c t t hft hft hF
    rw [(sameT_iff _ _).2 rfl] at cs
    have hat : (ts.map tmV)[done.length]? = some (tmV t) := by rw [he]; simp
    have e1 := h3_loop ts hl hK hsub hfit rem (done ++ [t]) (by rw [he]; simp)
    have hlen : (done ++ [t]).length = done.length + 1 := by simp
    rw [hlen] at e1
    rw [← e1]
    obtain ⟨k3, p3, m3, n3, l3⟩ := t
    rw [tmV_mk] at cs c1 hat
    rw [lrun_atC loop4_4]
    simp (implicitDefEqProofs := false) (disch := omega) only [go_sem, seval, rgn Tryd.f4 25 rfl, rgn Tryd.f4 26 rfl, rgn Tryd.f4 27 rfl, rgn Tryd.f4 29 rfl, List.length_map, hlt, htn, hK, hat, c1, cs, md17, n97, e16, Bool.or_self, Bool.false_or, Bool.or_false]
    all_goals (congr 1 <;> simp only [List.cons.injEq, AV.val.injEq, Value.int.injEq, Value.bool.injEq, true_and, and_true] <;> omega)
theorem solid_l (l : List (Tm × Tm)) : solidL [AV.slc false (l.map eqV)] = true := by simp only [solidL, solid, solid_eqs, Bool.not_false, Bool.and_true]
theorem mem_flat {l : List (Tm × Tm)} {p : Tm × Tm} (hp : p ∈ l) : p.1 ∈ flatE l ∧ p.2 ∈ flatE l := by
  unfold flatE
  rw [List.mem_flatMap, List.mem_flatMap]
  exact ⟨⟨p, hp, by simp⟩, ⟨p, hp, by simp⟩⟩
set_option maxHeartbeats 16000000 in
theorem unifyHolds (l : List (Tm × Tm)) (hl : l.length ≤ 9223372036854775807) (hf : Tm.fits (flatE l)) : pcall Tryd.prog md fg 4 [.slc false (l.map eqV)] = some (.bool true) := by
  obtain ⟨b, b1, b2⟩ := equations_p l hl hf
  have c9 := eqs_c b2
  suffices e : ∃ h, aval Tryd.prog md fg 4 [.slc false (l.map eqV)] [] = some (.val (.bool true), h) by
    obtain ⟨h, e⟩ := e
    rw [pcall_eq, e, pureRes_solid rfl]
  cases b with
  | false =>
    rw [aval_of Tryd.func4 body4 Tryd.results4 Tryd.ntmps4 ok4]
    simp (implicitDefEqProofs := false) (disch := omega) only [go_sem, seval, rgn Tryd.f4 0 rfl, rgn Tryd.f4 1 rfl, rgn Tryd.f4 2 rfl, c9, alive_c]
    exact ⟨_, rfl⟩
  | true =>
    obtain ⟨hz, hty, h20⟩ := b1 rfl
    have hsz : tszs (flatE l) ≤ 40000 := by omega
    rcases solveP hty hf hsz (by omega) with ⟨_, e⟩ | ⟨s, hsol, hfit, ⟨hle, e⟩ | ⟨_, e⟩⟩
    · have c11 := fun h => doCall_pure (h := h) md11 (solid_l l) e
      rw [aval_of Tryd.func4 body4 Tryd.results4 Tryd.ntmps4 ok4]
      simp (implicitDefEqProofs := false) (disch := omega) only [go_sem, seval, rgn Tryd.f4 0 rfl, rgn Tryd.f4 1 rfl, rgn Tryd.f4 3 rfl, rgn Tryd.f4 4 rfl, rgn Tryd.f4 5 rfl, c9, c11, no_c, alive_c, List.length_nil, Int.natCast_zero]
      exact ⟨_, rfl⟩
    · have hNl := vsL_len (flatE l) []
      simp only [List.length_nil] at hNl
      generalize hN : vsL [] (flatE l) = N at *
      have hmap : (N.map fun n => valV (n, s n)) = (N.map fun n => (n, s n)).map valV := by rw [List.map_map]; rfl
      rw [hmap] at e
      have c11 := fun h => doCall_pure (h := h) md11 (solid_l l) e
      have hdom : ∀ n, n ∈ N ↔ n ∈ tvarss (flatE l) := fun n => by rw [← hN, vsL_mem _ _ _ hty]; simp
      have hL1 : (N.map fun n => (n, s n)).map Prod.fst = N := by rw [List.map_map]; exact List.map_id' N
      have hL2 : (N.map fun n => (n, s n)).map Prod.snd = N.map s := by rw [List.map_map]; rfl
      have hLl : (N.map fun n => (n, s n)).length = N.length := List.length_map _
      obtain ⟨h0, v, w, c', g1, g2, g3, g4⟩ := ga_loop (.slc false (l.map eqV)) (N.map fun n => (n, s n)) (by omega) (fun v hv => by
        obtain ⟨n, hn, rfl⟩ := List.mem_map.1 hv
        exact hle n hn) _ [] rfl [] (.slc true []) (.slc true []) 0 (by omega) (.inl ⟨rfl, rfl⟩) (.inl ⟨rfl, rfl⟩)
      simp only [List.length_nil, Int.natCast_zero] at g1
      rw [hLl] at g1
      have hsubT : ∀ t, t ∈ flatE l → subT (N.map fun n => (n, s n)) t = inst s t := fun t ht => sub_inst _ s t (tys_mem hty t ht) fun n hn => fv_map s n N 0 ((hdom n).2 (tvarss_mem.2 ⟨t, ht, hn⟩))
      have hsubS : ∀ n ∈ N, subT (N.map fun n => (n, s n)) (s n) = s n := fun n hn => by
        rw [sub_inst _ s (s n) (hfit n hn).1 fun m hm => fv_map s m N 0 (hsol.idem n hn m hm).1]
        exact inst_id (s n) s (hfit n hn).1 fun m hm => (hsol.idem n hn m hm).2
      obtain ⟨hF, k1, k2⟩ := sub_fz (by omega) g2 g3
      have htz : ∀ t ∈ flatE l, tsz t ≤ 100000 := fun t ht => by have := tszs_mem ht; omega
      by_cases hbig : (4000 : Int) < (c' : Nat)
      · rw [aval_of Tryd.func4 body4 Tryd.results4 Tryd.ntmps4 ok4]
        simp (implicitDefEqProofs := false) (disch := omega) only [go_sem, seval, rgn Tryd.f4 0 rfl, rgn Tryd.f4 1 rfl, rgn Tryd.f4 3 rfl, rgn Tryd.f4 4 rfl, rgn Tryd.f4 6 rfl, rgn Tryd.f4 7 rfl, rgn Tryd.f4 8 rfl, rgn Tryd.f4 9 rfl, rgn Tryd.f4 16 rfl, rgn Tryd.f4 17 rfl, c9, c11, no_c, alive_c, List.length_map, hLl, g1, hbig]
        exact ⟨_, rfl⟩
      · obtain ⟨H, m1, m2⟩ := h2_loop l (by omega) (v := v) (w := w) (f := subT (N.map fun n => (n, s n))) (h0 := h0) (hF := hF) (fun p hp t ht => k1 t (htz t (by rcases ht with rfl | rfl; exact (mem_flat hp).1; exact (mem_flat hp).2))) (fun p hp => sub_fit _ (fun v hv => by
            obtain ⟨n, hn, rfl⟩ := List.mem_map.1 hv
            exact (hfit n hn).2) _ (fits_mem hf _ (mem_flat hp).1)) (fun p hp => by
            rw [hsubT _ (mem_flat hp).1, hsubT _ (mem_flat hp).2]
            exact hsol.eqs p hp) l [] rfl h0 (.inl rfl)
        simp only [List.length_nil, Int.natCast_zero] at m1
        rcases k2 with ⟨q1, q2⟩ | ⟨K, gK, q1, q2⟩
        · have hN0 : N = [] := by simpa using q1
          subst q2
          subst hN0
          have z : lrun Tryd.prog md fg (fg 4) (loopOf Tryd.f4 4) (fg 4 5) ((.unk :: .unk :: .unk :: .unk :: .unk :: (v) :: (.slc true []) :: .unk :: .unk :: .unk :: .unk :: .unk :: .unk :: .unk :: .unk :: .unk :: .unk :: .unk :: .unk :: .unk :: .unk :: .unk :: .unk :: .unk :: .unk :: .unk :: .unk :: .unk :: .unk :: .unk :: .unk :: .unk :: .unk :: .unk :: .unk :: .unk :: .unk :: .unk :: .unk :: .unk :: .unk :: .unk :: .unk :: .unk :: .unk :: .unk :: .unk :: .unk :: .unk :: .unk :: .unk :: .unk :: .unk :: .unk :: .unk :: .unk :: .unk :: .unk :: .unk :: .unk :: .unk :: .unk :: .unk :: .unk :: .unk :: .unk :: .unk :: .unk :: .unk :: .unk :: .unk :: .unk :: .unk :: .unk :: .unk :: .unk :: .unk :: .unk :: .unk :: .unk :: .unk :: .unk :: .unk :: .unk :: .unk :: .unk :: .unk :: (.int 0) :: (.int 0) :: .unk :: .unk :: .unk :: .unk :: .unk :: .unk :: .unk :: .unk :: .unk :: .unk :: .unk :: .unk :: .unk :: .unk :: .unk :: .unk :: .unk :: [] : List AV)) H = some (.exit 4, (.unk :: .unk :: .unk :: .unk :: .unk :: (v) :: (.slc true []) :: .unk :: .unk :: .unk :: .unk :: .unk :: .unk :: .unk :: .unk :: .unk :: .unk :: .unk :: .unk :: .unk :: .unk :: .unk :: .unk :: .unk :: .unk :: .unk :: .unk :: .unk :: .unk :: .unk :: .unk :: .unk :: .unk :: .unk :: .unk :: .unk :: .unk :: .unk :: .unk :: .unk :: .unk :: .unk :: .unk :: .unk :: .unk :: .unk :: .unk :: .unk :: .unk :: .unk :: .unk :: .unk :: .unk :: .unk :: .unk :: .unk :: .unk :: .unk :: .unk :: .unk :: .unk :: .unk :: .unk :: .unk :: .unk :: .unk :: .unk :: .unk :: .unk :: .unk :: .unk :: .unk :: .unk :: .unk :: .unk :: .unk :: .unk :: .unk :: .unk :: .unk :: .unk :: .unk :: .unk :: .unk :: .unk :: .unk :: .unk :: (.int 0) :: (.int 0) :: .unk :: .unk :: .unk :: .unk :: .unk :: .unk :: .unk :: .unk :: .unk :: .unk :: .unk :: .unk :: .unk :: .unk :: .unk :: .unk :: .unk :: [] : List AV), H) := by
            rw [lrun_atC loop4_4]
            simp (implicitDefEqProofs := false) (disch := omega) only [go_sem, seval, rgn Tryd.f4 25 rfl]
          simp only [List.map_nil, List.length_nil, Int.natCast_zero] at g1 c11
          rw [aval_of Tryd.func4 body4 Tryd.results4 Tryd.ntmps4 ok4]
          simp (implicitDefEqProofs := false) (disch := omega) only [go_sem, seval, rgn Tryd.f4 0 rfl, rgn Tryd.f4 1 rfl, rgn Tryd.f4 3 rfl, rgn Tryd.f4 4 rfl, rgn Tryd.f4 6 rfl, rgn Tryd.f4 7 rfl, rgn Tryd.f4 8 rfl, rgn Tryd.f4 9 rfl, rgn Tryd.f4 16 rfl, rgn Tryd.f4 18 rfl, rgn Tryd.f4 24 rfl, rgn Tryd.f4 30 rfl, c9, c11, no_c, alive_c, List.length_map, List.length_nil, Int.natCast_zero, g1, hbig, m1, z]
          exact ⟨_, rfl⟩
        · have hHF : N ≠ [] → H = hF := fun hne => by
            rcases m2 with m2 | ⟨m2, _⟩
            · exact m2
            · subst m2
              exact absurd (hN.symm.trans (by simp [flatE, vsL])) hne
          rw [hLl] at q1
          rw [hL2] at q2
          by_cases hne : N = []
          · subst hne
            subst q1
            have z : lrun Tryd.prog md fg (fg 4) (loopOf Tryd.f4 4) (fg 4 5) ((.unk :: .unk :: .unk :: .unk :: .unk :: (v) :: (.arr K 0 0 gK 5) :: .unk :: .unk :: .unk :: .unk :: .unk :: .unk :: .unk :: .unk :: .unk :: .unk :: .unk :: .unk :: .unk :: .unk :: .unk :: .unk :: .unk :: .unk :: .unk :: .unk :: .unk :: .unk :: .unk :: .unk :: .unk :: .unk :: .unk :: .unk :: .unk :: .unk :: .unk :: .unk :: .unk :: .unk :: .unk :: .unk :: .unk :: .unk :: .unk :: .unk :: .unk :: .unk :: .unk :: .unk :: .unk :: .unk :: .unk :: .unk :: .unk :: .unk :: .unk :: .unk :: .unk :: .unk :: .unk :: .unk :: .unk :: .unk :: .unk :: .unk :: .unk :: .unk :: .unk :: .unk :: .unk :: .unk :: .unk :: .unk :: .unk :: .unk :: .unk :: .unk :: .unk :: .unk :: .unk :: .unk :: .unk :: .unk :: .unk :: .unk :: (.int 0) :: (.int 0) :: .unk :: .unk :: .unk :: .unk :: .unk :: .unk :: .unk :: .unk :: .unk :: .unk :: .unk :: .unk :: .unk :: .unk :: .unk :: .unk :: .unk :: [] : List AV)) H = some (.exit 4, (.unk :: .unk :: .unk :: .unk :: .unk :: (v) :: (.arr K 0 0 gK 5) :: .unk :: .unk :: .unk :: .unk :: .unk :: .unk :: .unk :: .unk :: .unk :: .unk :: .unk :: .unk :: .unk :: .unk :: .unk :: .unk :: .unk :: .unk :: .unk :: .unk :: .unk :: .unk :: .unk :: .unk :: .unk :: .unk :: .unk :: .unk :: .unk :: .unk :: .unk :: .unk :: .unk :: .unk :: .unk :: .unk :: .unk :: .unk :: .unk :: .unk :: .unk :: .unk :: .unk :: .unk :: .unk :: .unk :: .unk :: .unk :: .unk :: .unk :: .unk :: .unk :: .unk :: .unk :: .unk :: .unk :: .unk :: .unk :: .unk :: .unk :: .unk :: .unk :: .unk :: .unk :: .unk :: .unk :: .unk :: .unk :: .unk :: .unk :: .unk :: .unk :: .unk :: .unk :: .unk :: .unk :: .unk :: .unk :: .unk :: .unk :: (.int 0) :: (.int 0) :: .unk :: .unk :: .unk :: .unk :: .unk :: .unk :: .unk :: .unk :: .unk :: .unk :: .unk :: .unk :: .unk :: .unk :: .unk :: .unk :: .unk :: [] : List AV), H) := by
              rw [lrun_atC loop4_4]
              simp (implicitDefEqProofs := false) (disch := omega) only [go_sem, seval, rgn Tryd.f4 25 rfl]
            simp only [List.map_nil, List.length_nil, Int.natCast_zero] at g1 c11 m1
            rw [aval_of Tryd.func4 body4 Tryd.results4 Tryd.ntmps4 ok4]
            simp (implicitDefEqProofs := false) (disch := omega) only [go_sem, seval, rgn Tryd.f4 0 rfl, rgn Tryd.f4 1 rfl, rgn Tryd.f4 3 rfl, rgn Tryd.f4 4 rfl, rgn Tryd.f4 6 rfl, rgn Tryd.f4 7 rfl, rgn Tryd.f4 8 rfl, rgn Tryd.f4 9 rfl, rgn Tryd.f4 16 rfl, rgn Tryd.f4 18 rfl, rgn Tryd.f4 24 rfl, rgn Tryd.f4 30 rfl, c9, c11, no_c, alive_c, List.length_map, List.length_nil, Int.natCast_zero, g1, hbig, m1, z]
            exact ⟨_, rfl⟩
          · have hHF := hHF hne
            subst hHF
            have hsl : (N.map s).length = N.length := List.length_map _
            have z := h3_loop (N.map s) (by omega) (v := v) (K := K) (g := gK) q2 (fun t ht => by
              obtain ⟨n, hn, rfl⟩ := List.mem_map.1 ht
              have := (k1 (s n) (by have := hle n hn; omega)).2
              rw [hsubS n hn, q1] at this
              rw [hsl]; exact this) (fun t ht => by
              obtain ⟨n, hn, rfl⟩ := List.mem_map.1 ht
              exact (hfit n hn).2) (N.map s) [] rfl
            simp only [List.length_nil, Int.natCast_zero] at z
            rw [hsl] at z
            rw [q1] at g1 m1
            rw [aval_of Tryd.func4 body4 Tryd.results4 Tryd.ntmps4 ok4]
            simp (implicitDefEqProofs := false) (disch := omega) only [go_sem, seval, rgn Tryd.f4 0 rfl, rgn Tryd.f4 1 rfl, rgn Tryd.f4 3 rfl, rgn Tryd.f4 4 rfl, rgn Tryd.f4 6 rfl, rgn Tryd.f4 7 rfl, rgn Tryd.f4 8 rfl, rgn Tryd.f4 9 rfl, rgn Tryd.f4 16 rfl, rgn Tryd.f4 18 rfl, rgn Tryd.f4 24 rfl, rgn Tryd.f4 30 rfl, c9, c11, no_c, alive_c, List.length_map, hLl, g1, hbig, m1, z]
            exact ⟨_, rfl⟩
    · have c11 := fun h => doCall_pure (h := h) md11 (solid_l l) e
      rw [aval_of Tryd.func4 body4 Tryd.results4 Tryd.ntmps4 ok4]
      simp (implicitDefEqProofs := false) (disch := omega) only [go_sem, seval, rgn Tryd.f4 0 rfl, rgn Tryd.f4 1 rfl, rgn Tryd.f4 3 rfl, rgn Tryd.f4 4 rfl, rgn Tryd.f4 5 rfl, c9, c11, no_c, alive_c, List.length_nil, Int.natCast_zero]
      exact ⟨_, rfl⟩
end Go.Proofs.YtncjbccjpneoiaaDoor
namespace Go.Proofs.YtncjbccjpneoiaaDoor
open Go Go.Ab Go.Proofs Go.RowKit Go.ChangeShapes Go.WideShapes
set_option maxRecDepth 100000
theorem und22 : Tryd.prog.underlying 22 = some (.slice 43) := by kernel_rfl
theorem own : ownKnob Tryd.prog.godebug = none := by kernel_rfl
theorem laidOut : laidOutB Tryd.prog = true := by kernel_rfl
theorem mixed : Tryd.prog.follows .mixedOrders = true := by kernel_rfl
theorem und3 : Tryd.prog.underlying 3 = some (.int .i64) := by kernel_rfl
theorem und9 : Tryd.prog.underlying 9 = some .string := by kernel_rfl
theorem und34 : Tryd.prog.underlying 34 = some (.slice 36) := by kernel_rfl
theorem WT_str {n : Nat} {a : AV} (h : WT Tryd.prog n 9 a) : ∃ s : ByteArray, a = .val (.string s) ∧ s.size ≤ maxLen := by
  cases n with
  | zero => exact h.elim
  | succ n => unfold WT at h; rw [und9] at h; exact h
theorem WT_i64 {n t : Nat} {a : AV} (ht : Tryd.prog.underlying t = some (.int .i64)) (h : WT Tryd.prog n t a) : ∃ x, a = .int x ∧ -9223372036854775808 ≤ x ∧ x ≤ 9223372036854775807 := by
  cases n with
  | zero => exact h.elim
  | succ n =>
    unfold WT at h; rw [ht] at h
    obtain ⟨x, rfl, hw⟩ := h
    have hw' : (decide (-9223372036854775808 ≤ x) && decide (x ≤ 9223372036854775807)) = true := hw
    simp only [Bool.and_eq_true, decide_eq_true_eq] at hw'
    exact ⟨x, rfl, hw'⟩
theorem allF {fs : List Field} {p : Field → Prop} (h : ∀ f ∈ fs.toArray, p f) : ∀ f ∈ fs, p f := fun f hf => h f (List.mem_toArray.2 hf)
mutual
def Tm.num : Tm → Prop | .mk k _ _ n l => (-9223372036854775808 ≤ k ∧ k ≤ 9223372036854775807) ∧ (-9223372036854775808 ≤ n ∧ n ≤ 9223372036854775807) ∧ Tm.nums l
def Tm.nums : List Tm → Prop | [] => True | t :: r => t.num ∧ Tm.nums r
end
theorem fits_of2 : ∀ {l : List Tm}, (∀ t ∈ l, t.fit ∧ t.num) → Tm.fits l ∧ Tm.nums l
  | [], _ => by rw [Tm.fits, Tm.nums]; exact ⟨trivial, trivial⟩
  | t :: r, h => by
    have h1 := h t (List.mem_cons_self ..)
    have h2 := fits_of2 fun u hu => h u (List.mem_cons_of_mem _ hu)
    rw [Tm.fits, Tm.nums]; exact ⟨⟨h1.1, h2.1⟩, ⟨h1.2, h2.2⟩⟩
theorem WT_tm : ∀ (n : Nat) {a : AV}, WT Tryd.prog n 36 a → ∃ t : Tm, a = tmV t ∧ t.fit ∧ t.num
  | 0, a, h => h.elim
  | 1, a, h => by
    unfold WT at h
    rw [Tryd.underlying36] at h
    obtain ⟨cs, rfl, hl, hf⟩ := h
    have hf := allF hf
    simp only [List.forall_mem_cons] at hf
    exact hf.1.elim
  | n + 2, a, h => by
    have ih := fun {a : AV} (h : WT Tryd.prog n 36 a) => WT_tm n h
    unfold WT at h
    rw [Tryd.underlying36] at h
    obtain ⟨cs, rfl, hl, hf⟩ := h
    have hl : cs.length = 5 := hl
    match cs, hl with
    | [a0, a1, a2, a3, a4], _ =>
      have hf := allF hf
      simp only [List.forall_mem_cons] at hf
      obtain ⟨f0, f1, f2, f3, f4, _⟩ := hf
      obtain ⟨k, e0, hk⟩ := WT_i64 und3 (show WT Tryd.prog (n + 1) 3 a0 from f0)
      obtain ⟨s, e1, h1⟩ := WT_str (show WT Tryd.prog (n + 1) 9 a1 from f1)
      obtain ⟨t, e2, h2⟩ := WT_str (show WT Tryd.prog (n + 1) 9 a2 from f2)
      obtain ⟨m, e3, hm⟩ := WT_i64 und3 (show WT Tryd.prog (n + 1) 3 a3 from f3)
      have g4 : WT Tryd.prog (n + 1) 34 a4 := f4
      unfold WT at g4
      rw [und34] at g4
      obtain ⟨es, e4, hlen, he⟩ := g4
      subst e0; subst e1; subst e2; subst e3; subst e4
      have key : ∀ es : List AV, (∀ x ∈ es, WT Tryd.prog n 36 x) → ∃ l : List Tm, es = l.map tmV ∧ ∀ t ∈ l, t.fit ∧ t.num := by
        intro es
        induction es with
        | nil => intro _; exact ⟨[], rfl, by simp⟩
        | cons e r ihr =>
          intro h
          obtain ⟨l, e1, e2⟩ := ihr fun y hy => h y (List.mem_cons_of_mem _ hy)
          obtain ⟨t, et, ft⟩ := ih (h e (List.mem_cons_self ..))
          refine ⟨t :: l, by rw [e1, et]; rfl, ?_⟩
          intro u hu
          rcases List.mem_cons.1 hu with hu | hu
          · rw [hu]; exact ft
          · exact e2 u hu
      obtain ⟨l, el, fl⟩ := key es he
      obtain ⟨S, rfl⟩ := txt_of s
      obtain ⟨T, rfl⟩ := txt_of t
      have := txt_size S
      have := txt_size T
      unfold maxLen at h1 h2 hlen
      refine ⟨⟨k, S, T, m, l⟩, by rw [tmV_mk, ← el], ?_, ?_⟩
      · rw [Tm.fit]
        refine ⟨by omega, by omega, ?_, (fits_of2 fl).1⟩
        have := congrArg List.length el
        rw [List.length_map] at this
        omega
      · rw [Tm.num]; exact ⟨hk, hm, (fits_of2 fl).2⟩
theorem WT_eq : ∀ (n : Nat) {a : AV}, WT Tryd.prog n 43 a → ∃ p : Tm × Tm, a = eqV p ∧ p.1.fit ∧ p.2.fit
  | 0, a, h => h.elim
  | n + 1, a, h => by
    unfold WT at h
    rw [Tryd.underlying43] at h
    obtain ⟨cs, rfl, hl, hf⟩ := h
    have hl : cs.length = 10 := hl
    match cs, hl with
    | [a0, a1, a2, a3, a4, a5, a6, a7, a8, a9], _ =>
      have hf := allF hf
      simp only [List.forall_mem_cons] at hf
      obtain ⟨f0, f1, _⟩ := hf
      obtain ⟨t, e0, h0, _⟩ := WT_tm _ (show WT Tryd.prog n 36 (.agg [a0, a1, a2, a3, a4]) from f0)
      obtain ⟨u, e1, h1, _⟩ := WT_tm _ (show WT Tryd.prog n 36 (.agg [a5, a6, a7, a8, a9]) from f1)
      obtain ⟨k, p, m, q, ks⟩ := t
      obtain ⟨k', p', m', q', ks'⟩ := u
      rw [tmV_mk] at e0 e1
      simp only [AV.agg.injEq, List.cons.injEq, and_true] at e0 e1
      obtain ⟨rfl, rfl, rfl, rfl, rfl⟩ := e0
      obtain ⟨rfl, rfl, rfl, rfl, rfl⟩ := e1
      exact ⟨(⟨k, p, m, q, ks⟩, ⟨k', p', m', q', ks'⟩), rfl, h0, h1⟩
theorem WT_eqs {n : Nat} {a : AV} (h : WT Tryd.prog n 22 a) : ∃ l : List (Tm × Tm), a = .slc false (l.map eqV) ∧ l.length ≤ 9223372036854775807 ∧ Tm.fits (flatE l) := by
  cases n with
  | zero => exact h.elim
  | succ n =>
    unfold WT at h
    rw [und22] at h
    obtain ⟨es, rfl, hlen, he⟩ := h
    have key : ∀ es : List AV, (∀ x ∈ es, WT Tryd.prog n 43 x) → ∃ l : List (Tm × Tm), es = l.map eqV ∧ Tm.fits (flatE l) := by
      intro es
      induction es with
      | nil => intro _; exact ⟨[], rfl, by simp [flatE, Tm.fits]⟩
      | cons e r ihr =>
        intro h
        obtain ⟨l, e1, e2⟩ := ihr fun y hy => h y (List.mem_cons_of_mem _ hy)
        obtain ⟨t, et, f1, f2⟩ := WT_eq n (h e (List.mem_cons_self ..))
        refine ⟨t :: l, by rw [e1, et]; rfl, ?_⟩
        rw [show flatE (t :: l) = t.1 :: t.2 :: flatE l from rfl, Tm.fits, Tm.fits]
        exact ⟨f1, f2, e2⟩
    obtain ⟨l, el, hl⟩ := key es he
    have := congrArg List.length el
    rw [List.length_map] at this
    unfold maxLen at hlen
    exact ⟨l, by rw [el], by omega, hl⟩
end Go.Proofs.YtncjbccjpneoiaaDoor
