/- Parts of the proof, each with its own heading: Terms as abstract values; memories, and some of one's own behind them. How much a term is. Which terms are gone through. Whether two terms are the same. Match: the work list. Match: what is put, and the walk down the work list. Match: the walk down the work list. -/
import Derived.Test.YtedapgcaibbhoaaDoorPart9
set_option linter.unusedSimpArgs false
set_option linter.unusedVariables false
namespace Go.Proofs.YtedapgcaibbhoaaDoor
open Go Go.Ab Go.Proofs
set_option maxRecDepth 100000
set_option linter.unusedSimpArgs false
set_option linter.unusedVariables false
def txt (l : List UInt8) : ByteArray := ⟨l.toArray⟩
theorem txt_of (s : ByteArray) : ∃ l, s = txt l := ⟨s.data.toList, by apply ByteArray.ext; simp [txt]⟩
theorem txt_list (l : List UInt8) : (txt l).data.toList = l := by simp [txt]
theorem txt_size (l : List UInt8) : (txt l).size = l.length := by show l.toArray.size = _; simp
theorem txt_inj {a b : List UInt8} : txt a = txt b ↔ a = b := ⟨fun h => by have := congrArg (fun x => x.data.toList) h; simpa [txt] using this, fun h => by rw [h]⟩
theorem txt_nil_iff (s : List UInt8) : txt s = ⟨#[]⟩ ↔ s = [] := txt_inj (b := [])
theorem txt_eq_nil (s : List UInt8) : (txt s = ⟨#[]⟩) = (s = []) := propext (txt_nil_iff s)
theorem hget_set_eq {h : AHeap} {i : Nat} {o : AObj} (hi : i < h.length) : hget (h.set i o) i = o := by
  unfold hget; rw [List.getD_eq_getElem?_getD, List.getElem?_set_self hi]; rfl
theorem hget_set_ne {h : AHeap} {i j : Nat} {o : AObj} (hij : ¬ i = j) : hget (h.set i o) j = hget h j := by
  unfold hget; rw [List.getD_eq_getElem?_getD, List.getElem?_set_ne hij, ← List.getD_eq_getElem?_getD]
theorem hget_push {h : AHeap} {o : AObj} {i : Nat} (hi : i < h.length) : hget (h ++ [o]) i = hget h i := by
  unfold hget; rw [List.getD_eq_getElem?_getD, List.getElem?_append_left hi, ← List.getD_eq_getElem?_getD]
theorem hget_last {h : AHeap} {o : AObj} : hget (h ++ [o]) h.length = o := by
  unfold hget; rw [List.getD_eq_getElem?_getD, List.getElem?_append_right (Nat.le_refl _), Nat.sub_self]; rfl
theorem hget_out {h : AHeap} {i : Nat} (hi : h.length ≤ i) : hget h i = .dead := by
  unfold hget; rw [List.getD_eq_getElem?_getD, List.getElem?_eq_none hi]; rfl
theorem hget_app {h : AHeap} (l : AHeap) {i : Nat} (hi : i < h.length) : hget (h ++ l) i = hget h i := by
  unfold hget; rw [List.getD_eq_getElem?_getD, List.getElem?_append_left hi, ← List.getD_eq_getElem?_getD]
theorem hlt_of {h : AHeap} {i : Nat} {o : AObj} (e : hget h i = o) (ho : o ≠ .dead) : i < h.length := Nat.lt_of_not_le fun hle => ho (by rw [← e, hget_out hle])
section
variable {h : AHeap} {n : Nat}
theorem sb_get0 (A : AObj) (l : AHeap) (hn : h.length = n) : hget (h ++ A :: l) n = A := by
  subst hn; unfold hget; rw [List.getD_eq_getElem?_getD, List.getElem?_append_right (Nat.le_refl _), Nat.sub_self]; rfl
theorem sb_get1 (A B : AObj) (l : AHeap) (hn : h.length = n) : hget (h ++ A :: B :: l) (n + 1) = B := by
  subst hn; unfold hget; rw [List.getD_eq_getElem?_getD, List.getElem?_append_right (by omega), show h.length + 1 - h.length = 1 by omega]; rfl
theorem sb_get2 (A B C : AObj) (l : AHeap) (hn : h.length = n) : hget (h ++ A :: B :: C :: l) (n + 2) = C := by
  subst hn; unfold hget; rw [List.getD_eq_getElem?_getD, List.getElem?_append_right (by omega), show h.length + 2 - h.length = 2 by omega]; rfl
theorem sb_set0 (A D : AObj) (l : AHeap) (hn : h.length = n) : (h ++ A :: l).set n D = h ++ D :: l := by
  subst hn; rw [List.set_append_right _ _ (Nat.le_refl _), Nat.sub_self]; rfl
theorem sb_set1 (A B D : AObj) (l : AHeap) (hn : h.length = n) : (h ++ A :: B :: l).set (n + 1) D = h ++ A :: D :: l := by
  subst hn; rw [List.set_append_right _ _ (by omega), show h.length + 1 - h.length = 1 by omega]; rfl
theorem sb_set2 (A B C D : AObj) (l : AHeap) (hn : h.length = n) : (h ++ A :: B :: C :: l).set (n + 2) D = h ++ A :: B :: D :: l := by
  subst hn; rw [List.set_append_right _ _ (by omega), show h.length + 2 - h.length = 2 by omega]; rfl
theorem set_last (o o' : AObj) : (h ++ [o]).set h.length o' = h ++ [o'] := sb_set0 o o' [] rfl
end
theorem tail_nil (p : List Nat → Prop) : (∀ T ∈ (subs []).tail, p T) ↔ True := by simp [subs]
theorem subs_nil_all (p : List Nat → Prop) : (∀ T ∈ subs [], p T) ↔ p [] := by simp [subs]
/-- A type, a pattern or an expression. -/
inductive Tm where
  | mk (kind : Int) (pkg name : List UInt8) (n : Int) (kids : List Tm)
def Tm.kind : Tm → Int | .mk k _ _ _ _ => k
def Tm.pkg : Tm → List UInt8 | .mk _ p _ _ _ => p
def Tm.name : Tm → List UInt8 | .mk _ _ m _ _ => m
def Tm.n : Tm → Int | .mk _ _ _ n _ => n
def Tm.kids : Tm → List Tm | .mk _ _ _ _ l => l
mutual
def tmV : Tm → AV | .mk k p m n l => .agg [.int k, .str (txt p), .str (txt m), .int n, .slc false (tmsV l)]
def tmsV : List Tm → List AV | [] => [] | t :: r => tmV t :: tmsV r
end
theorem tmsV_eq : ∀ l, tmsV l = l.map tmV
  | [] => by simp [tmsV]
  | t :: r => by rw [tmsV, tmsV_eq r]; rfl
mutual
/-- How many terms. -/
def tsz : Tm → Nat | .mk _ _ _ _ l => 1 + tszs l
def tszs : List Tm → Nat | [] => 0 | t :: r => tsz t + tszs r
end
mutual
theorem solid_tm : ∀ t : Tm, solid (tmV t) = true
  | .mk k p m n l => by rw [tmV]; simp only [solid, solidL, Bool.not_false, Bool.true_and, Bool.and_true]; exact solid_tms l
theorem solid_tms : ∀ l : List Tm, solidL (tmsV l) = true
  | [] => by simp [tmsV, solidL]
  | t :: r => by rw [tmsV]; simp only [solidL, solid_tm t, solid_tms r, Bool.and_self]
end
mutual
/-- As long as Go's slices and texts may be. -/
def Tm.fit : Tm → Prop | .mk k p m n l => p.length ≤ 9223372036854775807 ∧ m.length ≤ 9223372036854775807 ∧ l.length ≤ 9223372036854775807 ∧ Tm.fits l
def Tm.fits : List Tm → Prop | [] => True | t :: r => t.fit ∧ Tm.fits r
end
theorem fits_mem : ∀ {l : List Tm}, Tm.fits l → ∀ t ∈ l, t.fit
  | [], _, t, h => by cases h
  | a :: r, h, t, ht => by
    rw [Tm.fits] at h
    rcases List.mem_cons.1 ht with rfl | ht
    · exact h.1
    · exact fits_mem h.2 t ht
end Go.Proofs.YtedapgcaibbhoaaDoor
namespace Go.Proofs.YtedapgcaibbhoaaDoor
open Go Go.Ab Go.Proofs
set_option maxRecDepth 100000
set_option linter.unusedSimpArgs false
set_option linter.unusedVariables false
theorem tmV_mk (k : Int) (p m : List UInt8) (n : Int) (l : List Tm) : tmV ⟨k, p, m, n, l⟩ = .agg [.int k, .str (txt p), .str (txt m), .int n, .slc false (l.map tmV)] := by rw [tmV, tmsV_eq]
def W (t : Tm) : Prop := ∀ d : Int, 0 ≤ d → d ≤ 91 → ∃ w : Int, 0 ≤ w ∧ w ≤ 100000 ∧ (w < 100000 → (tsz t : Int) ≤ w) ∧ pcall Tryd.prog md fg 37 [tmV t, .int d] = some (.int w)
theorem w_loop (k : Int) (p m : List UInt8) (n : Int) (l : List Tm) (hl : l.length ≤ 300) (hW : ∀ t ∈ l, W t) (d : Int) (hd0 : 0 ≤ d) (hd : d ≤ 90) : ∀ (r : List Tm) (i : Nat) (c : Int), l.drop i = r → i ≤ l.length → 0 ≤ c → c ≤ 200000 → ∃ c' : Int, 0 ≤ c' ∧ c' ≤ 200000 ∧ (c' < 100000 → c + (tszs r : Int) ≤ c') ∧
    lrun Tryd.prog md fg (fg 37) (loopOf Tryd.f37 0) (fg 37 1) ((.unk :: (.int d) :: (.ptr 0 0) :: .unk :: .unk :: (.int c) :: .unk :: .unk :: .unk :: .unk :: .unk :: .unk :: .unk :: .unk :: .unk :: .unk :: .unk :: .unk :: .unk :: .unk :: .unk :: .unk :: .unk :: .unk :: .unk :: .unk :: .unk :: .unk :: (.int l.length) :: (.int i) :: .unk :: .unk :: .unk :: .unk :: .unk :: .unk :: .unk :: .unk :: .unk :: .unk :: .unk :: .unk :: .unk :: .unk :: .unk :: .unk :: .unk :: [] : List AV)) [.vars [.int k, .str (txt p), .str (txt m), .int n, .slc false (l.map tmV)]] = some (.exit 0, (.unk :: (.int d) :: (.ptr 0 0) :: .unk :: .unk :: (.int c') :: .unk :: .unk :: .unk :: .unk :: .unk :: .unk :: .unk :: .unk :: .unk :: .unk :: .unk :: .unk :: .unk :: .unk :: .unk :: .unk :: .unk :: .unk :: .unk :: .unk :: .unk :: .unk :: (.int l.length) :: (.int l.length) :: .unk :: .unk :: .unk :: .unk :: .unk :: .unk :: .unk :: .unk :: .unk :: .unk :: .unk :: .unk :: .unk :: .unk :: .unk :: .unk :: .unk :: [] : List AV), [.vars [.int k, .str (txt p), .str (txt m), .int n, .slc false (l.map tmV)]])
  | [], i, c, hdr, hi, h0, h1 => by
    have : i = l.length := by have := congrArg List.length hdr; simp at this; omega
    subst this
    refine ⟨c, h0, h1, fun _ => by simp [tszs], ?_⟩
    rw [lrun_atC loop37_0]
    simp (implicitDefEqProofs := false) (disch := omega) only [go_sem, Nat.reduceAdd, Nat.reduceSub, Nat.reduceMul, Nat.reduceLT, Nat.reduceLeDiff, Nat.reduceEqDiff, List.drop_zero, List.take_succ_cons, List.take_zero, List.drop_succ_cons, Bool.and_true, Bool.true_and, Bool.and_false, Bool.false_and, BitVec.reduceOfInt, Nat.zero_add, Nat.mul_one, Nat.add_zero, Int.zero_add, Int.reduceToNat, Nat.reducePow, ↓reduceIte, reduceCtorEq, Int.reduceLE, Int.reduceLT, Int.reduceEq, Int.reduceNe, Int.reduceAdd, Int.reduceSub, Int.reduceMul, Int.reduceNeg, Nat.reduceBEq, show regOf Tryd.f37 5 = Code.region _ _ _ from rfl]
  | ⟨k2, p2, m2, n2, l2⟩ :: r, i, c, hdr, hi, h0, h1 => by
    have hx : l[i]? = some ⟨k2, p2, m2, n2, l2⟩ := by have := congrArg (·[0]?) hdr; simpa using this
    have hlt : i < l.length := (List.getElem?_eq_some_iff.1 hx).1
    have hd' : l.drop (i + 1) = r := by rw [← List.tail_drop, hdr]; rfl
    have ht : ((i : Int)).toNat = i := by omega
    by_cases hc : c < 100000
    · obtain ⟨w, w0, w1, w2, w3⟩ := hW _ (List.mem_of_getElem? hx) (d + 1) (by omega) (by omega)
      have cw : ∀ h : AHeap, doCall md (aval Tryd.prog md fg) 37 [tmV ⟨k2, p2, m2, n2, l2⟩, .int (d + 1)] h = some (.int w, h) := fun h => doCall_pure md37 (by simp only [solidL, solid_tm, Bool.true_and]; rfl) w3
      obtain ⟨c', e0, e1, e2, e3⟩ := w_loop k p m n l hl hW d hd0 hd r (i + 1) (c + w) hd' (by omega) (by omega) (by omega)
      refine ⟨c', e0, e1, fun h => by rw [tszs]; have := e2 h; have := w2 (by omega); omega, ?_⟩
      rw [tmV_mk] at cw
      rw [← e3]
      rw [lrun_atC loop37_0]
      simp (implicitDefEqProofs := false) (disch := omega) only [go_sem, Nat.reduceAdd, Nat.reduceSub, Nat.reduceMul, Nat.reduceLT, Nat.reduceLeDiff, Nat.reduceEqDiff, List.drop_zero, List.take_succ_cons, List.take_zero, List.drop_succ_cons, Bool.and_true, Bool.true_and, Bool.and_false, Bool.false_and, BitVec.reduceOfInt, Nat.zero_add, Nat.mul_one, Nat.add_zero, Int.zero_add, Int.reduceToNat, Nat.reducePow, ↓reduceIte, reduceCtorEq, Int.reduceLE, Int.reduceLT, Int.reduceEq, Int.reduceNe, Int.reduceAdd, Int.reduceSub, Int.reduceMul, Int.reduceNeg, Nat.reduceBEq, show regOf Tryd.f37 5 = Code.region _ _ _ from rfl, show regOf Tryd.f37 6 = Code.region _ _ _ from rfl, show regOf Tryd.f37 7 = Code.region _ _ _ from rfl, show regOf Tryd.f37 8 = Code.region _ _ _ from rfl, show regOf Tryd.f37 9 = Code.region _ _ _ from rfl, List.getElem?_map, ht, hx, Option.map_some, tmV_mk, cw]
      all_goals (congr 1 <;> simp only [List.cons.injEq, AV.val.injEq, Value.int.injEq, Value.bool.injEq, true_and, and_true] <;> omega)
    · obtain ⟨c', e0, e1, e2, e3⟩ := w_loop k p m n l hl hW d hd0 hd r (i + 1) c hd' (by omega) h0 h1
      refine ⟨c', e0, e1, fun h => by have := e2 h; omega, ?_⟩
      rw [← e3]
      rw [lrun_atC loop37_0]
      simp (implicitDefEqProofs := false) (disch := omega) only [go_sem, Nat.reduceAdd, Nat.reduceSub, Nat.reduceMul, Nat.reduceLT, Nat.reduceLeDiff, Nat.reduceEqDiff, List.drop_zero, List.take_succ_cons, List.take_zero, List.drop_succ_cons, Bool.and_true, Bool.true_and, Bool.and_false, Bool.false_and, BitVec.reduceOfInt, Nat.zero_add, Nat.mul_one, Nat.add_zero, Int.zero_add, Int.reduceToNat, Nat.reducePow, ↓reduceIte, reduceCtorEq, Int.reduceLE, Int.reduceLT, Int.reduceEq, Int.reduceNe, Int.reduceAdd, Int.reduceSub, Int.reduceMul, Int.reduceNeg, Nat.reduceBEq, show regOf Tryd.f37 5 = Code.region _ _ _ from rfl, show regOf Tryd.f37 6 = Code.region _ _ _ from rfl, show regOf Tryd.f37 7 = Code.region _ _ _ from rfl, show regOf Tryd.f37 9 = Code.region _ _ _ from rfl]
      all_goals (congr 1 <;> simp only [List.cons.injEq, AV.val.injEq, Value.int.injEq, Value.bool.injEq, true_and, and_true] <;> omega)
theorem quo20 (x : Int) (h0 : 0 ≤ x) (h1 : x ≤ 200000) : ∃ q : Int, 0 ≤ q ∧ q ≤ 10000 ∧ abin Tryd.prog .quo 3 (.int x) (.int 20) = some (.int q) := by
  refine ⟨x / 20, by omega, by omega, ?_⟩
  rw [abin_quo _ _ _ _ (by omega), Int.tdiv_eq_ediv_of_nonneg h0, wrap_i64 (by omega) (by omega)]
mutual
theorem W_all : ∀ t : Tm, t.fit → W t
  | ⟨k, p, m, n, l⟩, hf => by
    rw [Tm.fit] at hf
    obtain ⟨f1, f2, f3, f4⟩ := hf
    have ih := W_alls l f4
    intro d hd0 hd
    have z1 := txt_size p
    have z2 := txt_size m
    by_cases h1 : d ≤ 90
    · by_cases h2 : l.length ≤ 300
      · have e : ∃ (w : Int) (h : AHeap), 0 ≤ w ∧ w ≤ 100000 ∧ (w < 100000 → (tsz ⟨k, p, m, n, l⟩ : Int) ≤ w) ∧ aval Tryd.prog md fg 37 [tmV ⟨k, p, m, n, l⟩, .int d] [] = some (.int w, h) := by
          rw [tmV_mk]
          obtain ⟨q, q0, q1, hq⟩ := quo20 ((if (100000 : Int) < (p.length : Int) then 100000 else (p.length : Int)) + (if (100000 : Int) < (m.length : Int) then 100000 else (m.length : Int))) (by split <;> split <;> omega) (by split <;> split <;> omega)
          rw [aval_of Tryd.func37 body37 Tryd.results37 Tryd.ntmps37 ok37]
          simp (implicitDefEqProofs := false) (disch := omega) only [go_sem, Nat.reduceAdd, Nat.reduceSub, Nat.reduceMul, Nat.reduceLT, Nat.reduceLeDiff, Nat.reduceEqDiff, List.drop_zero, List.take_succ_cons, List.take_zero, List.drop_succ_cons, Bool.and_true, Bool.true_and, Bool.and_false, Bool.false_and, BitVec.reduceOfInt, Nat.zero_add, Nat.mul_one, Nat.add_zero, Int.zero_add, Int.reduceToNat, Nat.reducePow, ↓reduceIte, reduceCtorEq, Int.reduceLE, Int.reduceLT, Int.reduceEq, Int.reduceNe, Int.reduceAdd, Int.reduceSub, Int.reduceMul, Int.reduceNeg, Nat.reduceBEq, show regOf Tryd.f37 0 = Code.region _ _ _ from rfl, show regOf Tryd.f37 1 = Code.region _ _ _ from rfl, show regOf Tryd.f37 3 = Code.region _ _ _ from rfl, List.length_map, z1, z2]
          simp (implicitDefEqProofs := false) (disch := omega) only [go_sem, Nat.reduceAdd, Nat.reduceSub, Nat.reduceMul, Nat.reduceLT, Nat.reduceLeDiff, Nat.reduceEqDiff, List.drop_zero, List.take_succ_cons, List.take_zero, List.drop_succ_cons, Bool.and_true, Bool.true_and, Bool.and_false, Bool.false_and, BitVec.reduceOfInt, Nat.zero_add, Nat.mul_one, Nat.add_zero, Int.zero_add, Int.reduceToNat, Nat.reducePow, ↓reduceIte, reduceCtorEq, Int.reduceLE, Int.reduceLT, Int.reduceEq, Int.reduceNe, Int.reduceAdd, Int.reduceSub, Int.reduceMul, Int.reduceNeg, Nat.reduceBEq, hq]
          obtain ⟨c', e0, e1, e2, e3⟩ := w_loop k p m n l h2 ih d hd0 h1 l 0 (1 + q) (by simp) (by omega) (by omega) (by omega)
          simp only [Int.natCast_zero] at e3
          simp (implicitDefEqProofs := false) (disch := omega) only [go_sem, Nat.reduceAdd, Nat.reduceSub, Nat.reduceMul, Nat.reduceLT, Nat.reduceLeDiff, Nat.reduceEqDiff, List.drop_zero, List.take_succ_cons, List.take_zero, List.drop_succ_cons, Bool.and_true, Bool.true_and, Bool.and_false, Bool.false_and, BitVec.reduceOfInt, Nat.zero_add, Nat.mul_one, Nat.add_zero, Int.zero_add, Int.reduceToNat, Nat.reducePow, ↓reduceIte, reduceCtorEq, Int.reduceLE, Int.reduceLT, Int.reduceEq, Int.reduceNe, Int.reduceAdd, Int.reduceSub, Int.reduceMul, Int.reduceNeg, Nat.reduceBEq, show regOf Tryd.f37 4 = Code.region _ _ _ from rfl, show regOf Tryd.f37 10 = Code.region _ _ _ from rfl, List.length_map, e3]
          by_cases hc : 100000 < c'
          · simp (implicitDefEqProofs := false) (disch := omega) only [hc, if_true]
            exact ⟨100000, _, by omega, by omega, fun h => by omega, rfl⟩
          · simp (implicitDefEqProofs := false) (disch := omega) only [hc, if_false]
            exact ⟨c', _, by omega, by omega, fun h => by rw [tsz]; have := e2 h; omega, rfl⟩
        obtain ⟨w, h, w0, w1, w2, e⟩ := e
        exact ⟨w, w0, w1, w2, by rw [pcall_eq, e, pureRes_solid rfl]⟩
      · have e : ∃ (h : AHeap), aval Tryd.prog md fg 37 [tmV ⟨k, p, m, n, l⟩, .int d] [] = some (.int 100000, h) := by
          rw [tmV_mk]
          rw [aval_of Tryd.func37 body37 Tryd.results37 Tryd.ntmps37 ok37]
          simp (implicitDefEqProofs := false) (disch := omega) only [go_sem, Nat.reduceAdd, Nat.reduceSub, Nat.reduceMul, Nat.reduceLT, Nat.reduceLeDiff, Nat.reduceEqDiff, List.drop_zero, List.take_succ_cons, List.take_zero, List.drop_succ_cons, Bool.and_true, Bool.true_and, Bool.and_false, Bool.false_and, BitVec.reduceOfInt, Nat.zero_add, Nat.mul_one, Nat.add_zero, Int.zero_add, Int.reduceToNat, Nat.reducePow, ↓reduceIte, reduceCtorEq, Int.reduceLE, Int.reduceLT, Int.reduceEq, Int.reduceNe, Int.reduceAdd, Int.reduceSub, Int.reduceMul, Int.reduceNeg, Nat.reduceBEq, show regOf Tryd.f37 0 = Code.region _ _ _ from rfl, show regOf Tryd.f37 1 = Code.region _ _ _ from rfl, show regOf Tryd.f37 2 = Code.region _ _ _ from rfl, List.length_map]
          exact ⟨_, rfl⟩
        obtain ⟨h, e⟩ := e
        exact ⟨100000, by omega, by omega, fun h => by omega, by rw [pcall_eq, e, pureRes_solid rfl]⟩
    · have e : ∃ (h : AHeap), aval Tryd.prog md fg 37 [tmV ⟨k, p, m, n, l⟩, .int d] [] = some (.int 100000, h) := by
        rw [tmV_mk]
        rw [aval_of Tryd.func37 body37 Tryd.results37 Tryd.ntmps37 ok37]
        simp (implicitDefEqProofs := false) (disch := omega) only [go_sem, Nat.reduceAdd, Nat.reduceSub, Nat.reduceMul, Nat.reduceLT, Nat.reduceLeDiff, Nat.reduceEqDiff, List.drop_zero, List.take_succ_cons, List.take_zero, List.drop_succ_cons, Bool.and_true, Bool.true_and, Bool.and_false, Bool.false_and, BitVec.reduceOfInt, Nat.zero_add, Nat.mul_one, Nat.add_zero, Int.zero_add, Int.reduceToNat, Nat.reducePow, ↓reduceIte, reduceCtorEq, Int.reduceLE, Int.reduceLT, Int.reduceEq, Int.reduceNe, Int.reduceAdd, Int.reduceSub, Int.reduceMul, Int.reduceNeg, Nat.reduceBEq, show regOf Tryd.f37 0 = Code.region _ _ _ from rfl, show regOf Tryd.f37 1 = Code.region _ _ _ from rfl, show regOf Tryd.f37 2 = Code.region _ _ _ from rfl, List.length_map]
        exact ⟨_, rfl⟩
      obtain ⟨h, e⟩ := e
      exact ⟨100000, by omega, by omega, fun h => by omega, by rw [pcall_eq, e, pureRes_solid rfl]⟩
theorem W_alls : ∀ l : List Tm, Tm.fits l → ∀ t ∈ l, W t
  | [], _, t, h => by cases h
  | a :: r, hf, t, h => by
    rw [Tm.fits] at hf
    rcases List.mem_cons.1 h with h | h
    · rw [h]; exact W_all a hf.1
    · exact W_alls r hf.2 t h
end
end Go.Proofs.YtedapgcaibbhoaaDoor
namespace Go.Proofs.YtedapgcaibbhoaaDoor
open Go Go.Ab Go.Proofs
set_option maxRecDepth 100000
set_option linter.unusedSimpArgs false
set_option linter.unusedVariables false
mutual
/-- All in the kinds of types, variables without Kids. -/
def typ : Tm → Prop | .mk k p m n l => 1 ≤ k ∧ k ≤ 4 ∧ n = 0 ∧ (k = 1 → l = [] ∧ p = []) ∧ typs l
def typs : List Tm → Prop | [] => True | t :: r => typ t ∧ typs r
end
def Y (t : Tm) : Prop := ∃ b : Bool, (b = true → typ t) ∧ pcall Tryd.prog md fg 24 [tmV t] = some (.val (.bool b))
theorem y_loop (k : Int) (p m : List UInt8) (n : Int) (l : List Tm) (hl : l.length ≤ 9223372036854775807) (hY : ∀ t ∈ l, Y t) : ∀ (r : List Tm) (i : Nat), l.drop i = r → i ≤ l.length → ∃ (b : Bool) (i' : Int), (b = true → typs r) ∧
    lrun Tryd.prog md fg (fg 24) (loopOf Tryd.f24 0) (fg 24 1) ((.unk :: (.ptr 0 0) :: (.val (.bool false)) :: (.int i) :: .unk :: .unk :: .unk :: .unk :: .unk :: .unk :: .unk :: .unk :: .unk :: .unk :: .unk :: .unk :: .unk :: .unk :: .unk :: .unk :: .unk :: .unk :: .unk :: .unk :: .unk :: .unk :: .unk :: .unk :: .unk :: .unk :: .unk :: .unk :: .unk :: .unk :: .unk :: .unk :: .unk :: .unk :: .unk :: .unk :: .unk :: .unk :: .unk :: .unk :: .unk :: .unk :: .unk :: [] : List AV)) [.vars [.int k, .str (txt p), .str (txt m), .int n, .slc false (l.map tmV)]] = some (if b then .exit 0 else .ret, (.unk :: (.ptr 0 0) :: (.val (.bool false)) :: (.int i') :: .unk :: .unk :: .unk :: .unk :: .unk :: .unk :: .unk :: .unk :: .unk :: .unk :: .unk :: .unk :: .unk :: .unk :: .unk :: .unk :: .unk :: .unk :: .unk :: .unk :: .unk :: .unk :: .unk :: .unk :: .unk :: .unk :: .unk :: .unk :: .unk :: .unk :: .unk :: .unk :: .unk :: .unk :: .unk :: .unk :: .unk :: .unk :: .unk :: .unk :: .unk :: .unk :: .unk :: [] : List AV), [.vars [.int k, .str (txt p), .str (txt m), .int n, .slc false (l.map tmV)]])
  | [], i, hdr, hi => by
    have : i = l.length := by have := congrArg List.length hdr; simp at this; omega
    subst this
    refine ⟨true, (l.length : Int), by simp [typs], ?_⟩
    simp only [if_true]
    rw [lrun_atC loop24_0]
    simp (implicitDefEqProofs := false) (disch := omega) only [go_sem, Nat.reduceAdd, Nat.reduceSub, Nat.reduceMul, Nat.reduceLT, Nat.reduceLeDiff, Nat.reduceEqDiff, List.drop_zero, List.take_succ_cons, List.take_zero, List.drop_succ_cons, Bool.and_true, Bool.true_and, Bool.and_false, Bool.false_and, BitVec.reduceOfInt, Nat.zero_add, Nat.mul_one, Nat.add_zero, Int.zero_add, Int.reduceToNat, Nat.reducePow, ↓reduceIte, reduceCtorEq, Int.reduceLE, Int.reduceLT, Int.reduceEq, Int.reduceNe, Int.reduceAdd, Int.reduceSub, Int.reduceMul, Int.reduceNeg, Nat.reduceBEq, show regOf Tryd.f24 4 = Code.region _ _ _ from rfl, List.length_map]
  | ⟨k2, p2, m2, n2, l2⟩ :: r, i, hdr, hi => by
    have hx : l[i]? = some ⟨k2, p2, m2, n2, l2⟩ := by have := congrArg (·[0]?) hdr; simpa using this
    have hlt : i < l.length := (List.getElem?_eq_some_iff.1 hx).1
    have hd' : l.drop (i + 1) = r := by rw [← List.tail_drop, hdr]; rfl
    have ht : ((i : Int)).toNat = i := by omega
    obtain ⟨b, hb, eb⟩ := hY _ (List.mem_of_getElem? hx)
    have cy : ∀ h : AHeap, doCall md (aval Tryd.prog md fg) 24 [tmV ⟨k2, p2, m2, n2, l2⟩] h = some (.val (.bool b), h) := fun h => doCall_pure md24 (by simp only [solidL, solid_tm, Bool.true_and]) eb
    rw [tmV_mk] at cy
    cases b with
    | true =>
      obtain ⟨b', i', e1, e2⟩ := y_loop k p m n l hl hY r (i + 1) hd' (by omega)
      refine ⟨b', i', fun h => by rw [typs]; exact ⟨hb rfl, e1 h⟩, ?_⟩
      rw [← e2]
      rw [lrun_atC loop24_0]
      simp (implicitDefEqProofs := false) (disch := omega) only [go_sem, Nat.reduceAdd, Nat.reduceSub, Nat.reduceMul, Nat.reduceLT, Nat.reduceLeDiff, Nat.reduceEqDiff, List.drop_zero, List.take_succ_cons, List.take_zero, List.drop_succ_cons, Bool.and_true, Bool.true_and, Bool.and_false, Bool.false_and, BitVec.reduceOfInt, Nat.zero_add, Nat.mul_one, Nat.add_zero, Int.zero_add, Int.reduceToNat, Nat.reducePow, ↓reduceIte, reduceCtorEq, Int.reduceLE, Int.reduceLT, Int.reduceEq, Int.reduceNe, Int.reduceAdd, Int.reduceSub, Int.reduceMul, Int.reduceNeg, Nat.reduceBEq, show regOf Tryd.f24 4 = Code.region _ _ _ from rfl, show regOf Tryd.f24 5 = Code.region _ _ _ from rfl, show regOf Tryd.f24 6 = Code.region _ _ _ from rfl, show regOf Tryd.f24 7 = Code.region _ _ _ from rfl, List.length_map, List.getElem?_map, ht, hx, Option.map_some, tmV_mk, cy]
      all_goals (congr 1 <;> simp only [List.cons.injEq, AV.val.injEq, Value.int.injEq, Value.bool.injEq, true_and, and_true] <;> omega)
    | false =>
      refine ⟨false, (i : Int), by simp, ?_⟩
      simp only [Bool.false_eq_true, if_false]
      rw [lrun_atC loop24_0]
      simp (implicitDefEqProofs := false) (disch := omega) only [go_sem, Nat.reduceAdd, Nat.reduceSub, Nat.reduceMul, Nat.reduceLT, Nat.reduceLeDiff, Nat.reduceEqDiff, List.drop_zero, List.take_succ_cons, List.take_zero, List.drop_succ_cons, Bool.and_true, Bool.true_and, Bool.and_false, Bool.false_and, BitVec.reduceOfInt, Nat.zero_add, Nat.mul_one, Nat.add_zero, Int.zero_add, Int.reduceToNat, Nat.reducePow, ↓reduceIte, reduceCtorEq, Int.reduceLE, Int.reduceLT, Int.reduceEq, Int.reduceNe, Int.reduceAdd, Int.reduceSub, Int.reduceMul, Int.reduceNeg, Nat.reduceBEq, show regOf Tryd.f24 4 = Code.region _ _ _ from rfl, show regOf Tryd.f24 5 = Code.region _ _ _ from rfl, show regOf Tryd.f24 6 = Code.region _ _ _ from rfl, show regOf Tryd.f24 7 = Code.region _ _ _ from rfl, List.length_map, List.getElem?_map, ht, hx, Option.map_some, tmV_mk, cy]
mutual
theorem Y_all : ∀ t : Tm, t.fit → Y t
  | ⟨k, p, m, n, l⟩, hf => by
    rw [Tm.fit] at hf
    obtain ⟨f1, f2, f3, f4⟩ := hf
    have ih := Y_alls l f4
    have hp := txt_eq_nil p
    have e : ∃ (b : Bool) (h : AHeap), (b = true → typ ⟨k, p, m, n, l⟩) ∧ aval Tryd.prog md fg 24 [tmV ⟨k, p, m, n, l⟩] [] = some (.val (.bool b), h) := by
      rw [tmV_mk]
      by_cases hg : k < 1 ∨ k > 4 ∨ n ≠ 0 ∨ (k = 1 ∧ (l ≠ [] ∨ p ≠ []))
      · refine ⟨false, ?_⟩
        simp only [Bool.false_eq_true, false_implies, true_and]
        rw [aval_of Tryd.func24 body24 Tryd.results24 Tryd.ntmps24 ok24]
        by_cases h1 : k < 1
        · simp (implicitDefEqProofs := false) (disch := omega) only [go_sem, Nat.reduceAdd, Nat.reduceSub, Nat.reduceMul, Nat.reduceLT, Nat.reduceLeDiff, Nat.reduceEqDiff, List.drop_zero, List.take_succ_cons, List.take_zero, List.drop_succ_cons, Bool.and_true, Bool.true_and, Bool.and_false, Bool.false_and, BitVec.reduceOfInt, Nat.zero_add, Nat.mul_one, Nat.add_zero, Int.zero_add, Int.reduceToNat, Nat.reducePow, ↓reduceIte, reduceCtorEq, Int.reduceLE, Int.reduceLT, Int.reduceEq, Int.reduceNe, Int.reduceAdd, Int.reduceSub, Int.reduceMul, Int.reduceNeg, Nat.reduceBEq, show regOf Tryd.f24 0 = Code.region _ _ _ from rfl, show regOf Tryd.f24 1 = Code.region _ _ _ from rfl, show regOf Tryd.f24 2 = Code.region _ _ _ from rfl, h1]
          exact ⟨_, rfl⟩
        by_cases h2 : k > 4
        · simp (implicitDefEqProofs := false) (disch := omega) only [go_sem, Nat.reduceAdd, Nat.reduceSub, Nat.reduceMul, Nat.reduceLT, Nat.reduceLeDiff, Nat.reduceEqDiff, List.drop_zero, List.take_succ_cons, List.take_zero, List.drop_succ_cons, Bool.and_true, Bool.true_and, Bool.and_false, Bool.false_and, BitVec.reduceOfInt, Nat.zero_add, Nat.mul_one, Nat.add_zero, Int.zero_add, Int.reduceToNat, Nat.reducePow, ↓reduceIte, reduceCtorEq, Int.reduceLE, Int.reduceLT, Int.reduceEq, Int.reduceNe, Int.reduceAdd, Int.reduceSub, Int.reduceMul, Int.reduceNeg, Nat.reduceBEq, show regOf Tryd.f24 0 = Code.region _ _ _ from rfl, show regOf Tryd.f24 1 = Code.region _ _ _ from rfl, show regOf Tryd.f24 2 = Code.region _ _ _ from rfl, h1, h2]
          exact ⟨_, rfl⟩
        by_cases h3 : n = 0
        · have h4 : k = 1 := by
            rcases hg with h | h | h | h
            · exact absurd h h1
            · exact absurd h h2
            · exact absurd h3 h
            · exact h.1
          have h5 : l ≠ [] ∨ p ≠ [] := by
            rcases hg with h | h | h | h
            · exact absurd h h1
            · exact absurd h h2
            · exact absurd h3 h
            · exact h.2
          subst h3; subst h4
          cases l with
          | cons a r =>
            have hlen : (((a :: r).map tmV).length : Int) > 0 := by simp only [List.map_cons, List.length_cons]; omega
            simp only [List.map_cons] at hlen ⊢
            simp (implicitDefEqProofs := false) (disch := omega) only [go_sem, Nat.reduceAdd, Nat.reduceSub, Nat.reduceMul, Nat.reduceLT, Nat.reduceLeDiff, Nat.reduceEqDiff, List.drop_zero, List.take_succ_cons, List.take_zero, List.drop_succ_cons, Bool.and_true, Bool.true_and, Bool.and_false, Bool.false_and, BitVec.reduceOfInt, Nat.zero_add, Nat.mul_one, Nat.add_zero, Int.zero_add, Int.reduceToNat, Nat.reducePow, ↓reduceIte, reduceCtorEq, Int.reduceLE, Int.reduceLT, Int.reduceEq, Int.reduceNe, Int.reduceAdd, Int.reduceSub, Int.reduceMul, Int.reduceNeg, Nat.reduceBEq, show regOf Tryd.f24 0 = Code.region _ _ _ from rfl, show regOf Tryd.f24 1 = Code.region _ _ _ from rfl, show regOf Tryd.f24 2 = Code.region _ _ _ from rfl, hlen]
            exact ⟨_, rfl⟩
          | nil =>
            have h6 : p ≠ [] := by rcases h5 with h | h; exact absurd rfl h; exact h
            have h7 : (p = []) = False := by simp [h6]
            rw [h7] at hp
            simp only [List.map_nil]
            simp (implicitDefEqProofs := false) (disch := omega) only [go_sem, Nat.reduceAdd, Nat.reduceSub, Nat.reduceMul, Nat.reduceLT, Nat.reduceLeDiff, Nat.reduceEqDiff, List.drop_zero, List.take_succ_cons, List.take_zero, List.drop_succ_cons, Bool.and_true, Bool.true_and, Bool.and_false, Bool.false_and, BitVec.reduceOfInt, Nat.zero_add, Nat.mul_one, Nat.add_zero, Int.zero_add, Int.reduceToNat, Nat.reducePow, ↓reduceIte, reduceCtorEq, Int.reduceLE, Int.reduceLT, Int.reduceEq, Int.reduceNe, Int.reduceAdd, Int.reduceSub, Int.reduceMul, Int.reduceNeg, Nat.reduceBEq, show regOf Tryd.f24 0 = Code.region _ _ _ from rfl, show regOf Tryd.f24 1 = Code.region _ _ _ from rfl, show regOf Tryd.f24 2 = Code.region _ _ _ from rfl, List.length_nil, hp]
            exact ⟨_, rfl⟩
        · simp (implicitDefEqProofs := false) (disch := omega) only [go_sem, Nat.reduceAdd, Nat.reduceSub, Nat.reduceMul, Nat.reduceLT, Nat.reduceLeDiff, Nat.reduceEqDiff, List.drop_zero, List.take_succ_cons, List.take_zero, List.drop_succ_cons, Bool.and_true, Bool.true_and, Bool.and_false, Bool.false_and, BitVec.reduceOfInt, Nat.zero_add, Nat.mul_one, Nat.add_zero, Int.zero_add, Int.reduceToNat, Nat.reducePow, ↓reduceIte, reduceCtorEq, Int.reduceLE, Int.reduceLT, Int.reduceEq, Int.reduceNe, Int.reduceAdd, Int.reduceSub, Int.reduceMul, Int.reduceNeg, Nat.reduceBEq, show regOf Tryd.f24 0 = Code.region _ _ _ from rfl, show regOf Tryd.f24 1 = Code.region _ _ _ from rfl, show regOf Tryd.f24 2 = Code.region _ _ _ from rfl, h1, h2, h3]
          exact ⟨_, rfl⟩
      · have h1 : ¬ k < 1 := fun h => hg (.inl h)
        have h2 : ¬ k > 4 := fun h => hg (.inr (.inl h))
        have h3 : n = 0 := Decidable.byContradiction fun h => hg (.inr (.inr (.inl h)))
        have h4 : k = 1 → l = [] ∧ p = [] := fun h => Classical.byContradiction fun hc => hg (.inr (.inr (.inr ⟨h, by
          by_cases hl : l = []
          · exact .inr fun hp => hc ⟨hl, hp⟩
          · exact .inl hl⟩)))
        subst h3
        obtain ⟨b, i', e1, e2⟩ := y_loop k p m 0 l f3 ih l 0 (by simp) (by omega)
        simp only [Int.natCast_zero] at e2
        refine ⟨b, ?_⟩
        have ht : b = true → typ ⟨k, p, m, 0, l⟩ := fun h => by rw [typ]; exact ⟨by omega, by omega, rfl, h4, e1 h⟩
        suffices h : ∃ h, aval Tryd.prog md fg 24 [.agg [.int k, .str (txt p), .str (txt m), .int 0, .slc false (l.map tmV)]] [] = some (.val (.bool b), h) by
          obtain ⟨h, e⟩ := h; exact ⟨h, ht, e⟩
        rw [aval_of Tryd.func24 body24 Tryd.results24 Tryd.ntmps24 ok24]
        by_cases hk : k = 1
        · obtain ⟨rfl, rfl⟩ := h4 hk
          subst hk
          simp only [List.map_nil] at e2 ⊢
          have ht0 : txt [] = ⟨#[]⟩ := rfl
          rw [ht0] at e2 ⊢
          cases b <;> simp only [Bool.false_eq_true, if_false, if_true] at e2 <;>
          · simp (implicitDefEqProofs := false) (disch := omega) only [go_sem, Nat.reduceAdd, Nat.reduceSub, Nat.reduceMul, Nat.reduceLT, Nat.reduceLeDiff, Nat.reduceEqDiff, List.drop_zero, List.take_succ_cons, List.take_zero, List.drop_succ_cons, Bool.and_true, Bool.true_and, Bool.and_false, Bool.false_and, BitVec.reduceOfInt, Nat.zero_add, Nat.mul_one, Nat.add_zero, Int.zero_add, Int.reduceToNat, Nat.reducePow, ↓reduceIte, reduceCtorEq, Int.reduceLE, Int.reduceLT, Int.reduceEq, Int.reduceNe, Int.reduceAdd, Int.reduceSub, Int.reduceMul, Int.reduceNeg, Nat.reduceBEq, show regOf Tryd.f24 0 = Code.region _ _ _ from rfl, show regOf Tryd.f24 1 = Code.region _ _ _ from rfl, show regOf Tryd.f24 3 = Code.region _ _ _ from rfl, show regOf Tryd.f24 8 = Code.region _ _ _ from rfl, List.length_nil, e2]
            exact ⟨_, rfl⟩
        · cases b <;> simp only [Bool.false_eq_true, if_false, if_true] at e2 <;>
          · simp (implicitDefEqProofs := false) (disch := omega) only [go_sem, Nat.reduceAdd, Nat.reduceSub, Nat.reduceMul, Nat.reduceLT, Nat.reduceLeDiff, Nat.reduceEqDiff, List.drop_zero, List.take_succ_cons, List.take_zero, List.drop_succ_cons, Bool.and_true, Bool.true_and, Bool.and_false, Bool.false_and, BitVec.reduceOfInt, Nat.zero_add, Nat.mul_one, Nat.add_zero, Int.zero_add, Int.reduceToNat, Nat.reducePow, ↓reduceIte, reduceCtorEq, Int.reduceLE, Int.reduceLT, Int.reduceEq, Int.reduceNe, Int.reduceAdd, Int.reduceSub, Int.reduceMul, Int.reduceNeg, Nat.reduceBEq, show regOf Tryd.f24 0 = Code.region _ _ _ from rfl, show regOf Tryd.f24 1 = Code.region _ _ _ from rfl, show regOf Tryd.f24 3 = Code.region _ _ _ from rfl, show regOf Tryd.f24 8 = Code.region _ _ _ from rfl, hk, e2]
            exact ⟨_, rfl⟩
    obtain ⟨b, h, hb, e⟩ := e
    exact ⟨b, hb, by rw [pcall_eq, e, pureRes_solid rfl]⟩
theorem Y_alls : ∀ l : List Tm, Tm.fits l → ∀ t ∈ l, Y t
  | [], _, t, h => by cases h
  | a :: r, hf, t, h => by
    rw [Tm.fits] at hf
    rcases List.mem_cons.1 h with h | h
    · rw [h]; exact Y_all a hf.1
    · exact Y_alls r hf.2 t h
end
end Go.Proofs.YtedapgcaibbhoaaDoor
namespace Go.Proofs.YtedapgcaibbhoaaDoor
open Go Go.Ab Go.Proofs
set_option maxRecDepth 100000
set_option linter.unusedSimpArgs false
set_option linter.unusedVariables false
mutual
def sameT : Tm → Tm → Bool
  | .mk k p m n l, .mk k' p' m' n' l' => (k == k') && (decide (p = p') && (decide (m = m') && ((n == n') && (decide (l.length = l'.length) && sameTs l l'))))
def sameTs : List Tm → List Tm → Bool
  | [], _ => true
  | _ :: _, [] => true
  | t :: r, u :: s => sameT t u && sameTs r s
end
def Q (t : Tm) : Prop := ∀ u : Tm, u.fit → pcall Tryd.prog md fg 39 [tmV t, tmV u] = some (.val (.bool (sameT t u)))
theorem eq_loop (l l' : List Tm) (hl : l.length ≤ 9223372036854775807) (hll : l.length = l'.length) (hQ : ∀ t ∈ l, Q t) (hf : ∀ u ∈ l', u.fit) (h : AHeap) : ∀ (r : List Tm) (i : Nat) (j : AHeap), l.drop i = r → i ≤ l.length → ∃ (i' : Int) (j' : AHeap),
    lrun Tryd.prog md fg (fg 55) (loopOf Tryd.f55 0) (fg 55 1) ((.unk :: (.slc false (l'.map tmV)) :: (.clo 39 [] []) :: .unk :: .unk :: .unk :: (.val (.bool false)) :: .unk :: .unk :: .unk :: .unk :: .unk :: .unk :: .unk :: .unk :: (.slc false (l.map tmV)) :: (.int l.length) :: (.int i) :: .unk :: .unk :: .unk :: .unk :: .unk :: .unk :: .unk :: .unk :: .unk :: .unk :: .unk :: .unk :: .unk :: .unk :: [] : List AV)) (h ++ j) = some (if sameTs r (l'.drop i) then .exit 0 else .ret, (.unk :: (.slc false (l'.map tmV)) :: (.clo 39 [] []) :: .unk :: .unk :: .unk :: (.val (.bool false)) :: .unk :: .unk :: .unk :: .unk :: .unk :: .unk :: .unk :: .unk :: (.slc false (l.map tmV)) :: (.int l.length) :: (.int i') :: .unk :: .unk :: .unk :: .unk :: .unk :: .unk :: .unk :: .unk :: .unk :: .unk :: .unk :: .unk :: .unk :: .unk :: [] : List AV), h ++ j')
  | [], i, j, hdr, hi => by
    have : i = l.length := by have := congrArg List.length hdr; simp at this; omega
    subst this
    refine ⟨(l.length : Int), j, ?_⟩
    simp only [sameTs, if_true]
    rw [lrun_atC loop55_0]
    simp (implicitDefEqProofs := false) (disch := omega) only [go_sem, Nat.reduceAdd, Nat.reduceSub, Nat.reduceMul, Nat.reduceLT, Nat.reduceLeDiff, Nat.reduceEqDiff, List.drop_zero, List.take_succ_cons, List.take_zero, List.drop_succ_cons, Bool.and_true, Bool.true_and, Bool.and_false, Bool.false_and, BitVec.reduceOfInt, Nat.zero_add, Nat.mul_one, Nat.add_zero, Int.zero_add, Int.reduceToNat, Nat.reducePow, ↓reduceIte, reduceCtorEq, Int.reduceLE, Int.reduceLT, Int.reduceEq, Int.reduceNe, Int.reduceAdd, Int.reduceSub, Int.reduceMul, Int.reduceNeg, Nat.reduceBEq, show regOf Tryd.f55 4 = Code.region _ _ _ from rfl]
  | ⟨k2, p2, m2, n2, l2⟩ :: r, i, j, hdr, hi => by
    have hx : l[i]? = some ⟨k2, p2, m2, n2, l2⟩ := by have := congrArg (·[0]?) hdr; simpa using this
    have hlt : i < l.length := (List.getElem?_eq_some_iff.1 hx).1
    have hd' : l.drop (i + 1) = r := by rw [← List.tail_drop, hdr]; rfl
    have ht : ((i : Int)).toNat = i := by omega
    obtain ⟨u, hu⟩ : ∃ u, l'[i]? = some u := ⟨l'[i], List.getElem?_eq_getElem (by omega)⟩
    have hud : l'.drop i = u :: l'.drop (i + 1) := by
      rw [List.drop_eq_getElem_cons (by omega)]
      have := (List.getElem?_eq_some_iff.1 hu).2
      rw [this]
    have hq := hQ _ (List.mem_of_getElem? hx) u (hf u (List.mem_of_getElem? hu))
    have cy : ∀ h : AHeap, doCall md (aval Tryd.prog md fg) 39 [tmV ⟨k2, p2, m2, n2, l2⟩, tmV u] h = some (.val (.bool (sameT ⟨k2, p2, m2, n2, l2⟩ u)), h) := fun h => doCall_pure md39 (by simp only [solidL, solid_tm, Bool.true_and]) hq
    rw [hud]
    rw [sameTs]
    obtain ⟨k3, p3, m3, n3, l3⟩ := u
    rw [tmV_mk, tmV_mk] at cy
    generalize sameT ⟨k2, p2, m2, n2, l2⟩ ⟨k3, p3, m3, n3, l3⟩ = b at *
    cases b with
    | true =>
      obtain ⟨i', j', e2⟩ := eq_loop l l' hl hll hQ hf h r (i + 1) (j ++ [.vars [.int k2, .str (txt p2), .str (txt m2), .int n2, .slc false (l2.map tmV)], .vars [.int k3, .str (txt p3), .str (txt m3), .int n3, .slc false (l3.map tmV)]]) hd' (by omega)
      refine ⟨i', j', ?_⟩
      rw [Bool.true_and, ← e2, ← List.append_assoc]
      generalize h ++ j = g
      rw [lrun_atC loop55_0]
      simp (disch := first | omega | exact List.length_set) only [go_sem, Nat.reduceAdd, Nat.reduceSub, Nat.reduceMul, Nat.reduceLT, Nat.reduceLeDiff, Nat.reduceEqDiff, List.drop_zero, List.take_succ_cons, List.take_zero, List.drop_succ_cons, Bool.and_true, Bool.true_and, Bool.and_false, Bool.false_and, BitVec.reduceOfInt, Nat.zero_add, Nat.mul_one, Nat.add_zero, Int.zero_add, Int.reduceToNat, Nat.reducePow, ↓reduceIte, reduceCtorEq, Int.reduceLE, Int.reduceLT, Int.reduceEq, Int.reduceNe, Int.reduceAdd, Int.reduceSub, Int.reduceMul, Int.reduceNeg, Nat.reduceBEq, show regOf Tryd.f55 4 = Code.region _ _ _ from rfl, show regOf Tryd.f55 5 = Code.region _ _ _ from rfl, show regOf Tryd.f55 6 = Code.region _ _ _ from rfl, show regOf Tryd.f55 7 = Code.region _ _ _ from rfl, show regOf Tryd.f55 8 = Code.region _ _ _ from rfl, show regOf Tryd.f55 9 = Code.region _ _ _ from rfl, List.getElem?_map, ht, hx, hu, Option.map_some, tmV_mk, cy, List.append_assoc, List.cons_append, List.nil_append, List.length_append, List.length_cons, List.length_nil, sb_get0, sb_get1, sb_set0, sb_set1]
      all_goals (congr 1 <;> simp only [List.cons.injEq, AV.val.injEq, Value.int.injEq, Value.bool.injEq, true_and, and_true] <;> omega)
    | false =>
      refine ⟨(i : Int), j ++ [.vars [.int k2, .str (txt p2), .str (txt m2), .int n2, .slc false (l2.map tmV)], .vars [.int k3, .str (txt p3), .str (txt m3), .int n3, .slc false (l3.map tmV)]], ?_⟩
      simp only [Bool.false_and, Bool.false_eq_true, if_false]
      rw [← List.append_assoc]
      generalize h ++ j = g
      rw [lrun_atC loop55_0]
      simp (disch := first | omega | exact List.length_set) only [go_sem, Nat.reduceAdd, Nat.reduceSub, Nat.reduceMul, Nat.reduceLT, Nat.reduceLeDiff, Nat.reduceEqDiff, List.drop_zero, List.take_succ_cons, List.take_zero, List.drop_succ_cons, Bool.and_true, Bool.true_and, Bool.and_false, Bool.false_and, BitVec.reduceOfInt, Nat.zero_add, Nat.mul_one, Nat.add_zero, Int.zero_add, Int.reduceToNat, Nat.reducePow, ↓reduceIte, reduceCtorEq, Int.reduceLE, Int.reduceLT, Int.reduceEq, Int.reduceNe, Int.reduceAdd, Int.reduceSub, Int.reduceMul, Int.reduceNeg, Nat.reduceBEq, show regOf Tryd.f55 4 = Code.region _ _ _ from rfl, show regOf Tryd.f55 5 = Code.region _ _ _ from rfl, show regOf Tryd.f55 6 = Code.region _ _ _ from rfl, show regOf Tryd.f55 7 = Code.region _ _ _ from rfl, show regOf Tryd.f55 8 = Code.region _ _ _ from rfl, show regOf Tryd.f55 9 = Code.region _ _ _ from rfl, List.getElem?_map, ht, hx, hu, Option.map_some, tmV_mk, cy, List.append_assoc, List.cons_append, List.nil_append, List.length_append, List.length_cons, List.length_nil, sb_get0, sb_get1, sb_set0, sb_set1]
theorem eqf_c (l l' : List Tm) (hl : l.length ≤ 9223372036854775807) (hl' : l'.length ≤ 9223372036854775807) (hQ : ∀ t ∈ l, Q t) (hf : ∀ u ∈ l', u.fit) (h : AHeap) :
    doCall md (aval Tryd.prog md fg) 55 [.slc false (l.map tmV), .slc false (l'.map tmV), .clo 39 [] []] h = some (.val (.bool (decide (l.length = l'.length) && sameTs l l')), h) := by
  have e : ∃ j, aval Tryd.prog md fg 55 [.slc false (l.map tmV), .slc false (l'.map tmV), .clo 39 [] []] h = some (.val (.bool (decide (l.length = l'.length) && sameTs l l')), h ++ j) := by
    by_cases hll : l.length = l'.length
    · obtain ⟨i', j', e2⟩ := eq_loop l l' hl hll hQ hf h l 0 [] (by simp) (by omega)
      rw [List.append_nil] at e2
      simp only [Int.natCast_zero, List.drop_zero] at e2
      rw [decide_eq_true hll, Bool.true_and]
      refine ⟨j', ?_⟩
      rw [aval_of Tryd.func55 body55 Tryd.results55 Tryd.ntmps55 ok55]
      generalize sameTs l l' = b at *
      cases b <;> simp only [Bool.false_eq_true, if_false, if_true] at e2
      · simp (implicitDefEqProofs := false) (disch := omega) only [go_sem, Nat.reduceAdd, Nat.reduceSub, Nat.reduceMul, Nat.reduceLT, Nat.reduceLeDiff, Nat.reduceEqDiff, List.drop_zero, List.take_succ_cons, List.take_zero, List.drop_succ_cons, Bool.and_true, Bool.true_and, Bool.and_false, Bool.false_and, BitVec.reduceOfInt, Nat.zero_add, Nat.mul_one, Nat.add_zero, Int.zero_add, Int.reduceToNat, Nat.reducePow, ↓reduceIte, reduceCtorEq, Int.reduceLE, Int.reduceLT, Int.reduceEq, Int.reduceNe, Int.reduceAdd, Int.reduceSub, Int.reduceMul, Int.reduceNeg, Nat.reduceBEq, show regOf Tryd.f55 0 = Code.region _ _ _ from rfl, show regOf Tryd.f55 1 = Code.region _ _ _ from rfl, show regOf Tryd.f55 3 = Code.region _ _ _ from rfl, show regOf Tryd.f55 10 = Code.region _ _ _ from rfl, List.length_map, e2]
      · simp (implicitDefEqProofs := false) (disch := omega) only [go_sem, Nat.reduceAdd, Nat.reduceSub, Nat.reduceMul, Nat.reduceLT, Nat.reduceLeDiff, Nat.reduceEqDiff, List.drop_zero, List.take_succ_cons, List.take_zero, List.drop_succ_cons, Bool.and_true, Bool.true_and, Bool.and_false, Bool.false_and, BitVec.reduceOfInt, Nat.zero_add, Nat.mul_one, Nat.add_zero, Int.zero_add, Int.reduceToNat, Nat.reducePow, ↓reduceIte, reduceCtorEq, Int.reduceLE, Int.reduceLT, Int.reduceEq, Int.reduceNe, Int.reduceAdd, Int.reduceSub, Int.reduceMul, Int.reduceNeg, Nat.reduceBEq, show regOf Tryd.f55 0 = Code.region _ _ _ from rfl, show regOf Tryd.f55 1 = Code.region _ _ _ from rfl, show regOf Tryd.f55 3 = Code.region _ _ _ from rfl, show regOf Tryd.f55 10 = Code.region _ _ _ from rfl, List.length_map, e2]
    · rw [decide_eq_false hll, Bool.false_and]
      refine ⟨[], ?_⟩
      have hne : ¬ (l.length : Int) = (l'.length : Int) := by omega
      rw [aval_of Tryd.func55 body55 Tryd.results55 Tryd.ntmps55 ok55]
      simp (implicitDefEqProofs := false) (disch := omega) only [go_sem, Nat.reduceAdd, Nat.reduceSub, Nat.reduceMul, Nat.reduceLT, Nat.reduceLeDiff, Nat.reduceEqDiff, List.drop_zero, List.take_succ_cons, List.take_zero, List.drop_succ_cons, Bool.and_true, Bool.true_and, Bool.and_false, Bool.false_and, BitVec.reduceOfInt, Nat.zero_add, Nat.mul_one, Nat.add_zero, Int.zero_add, Int.reduceToNat, Nat.reducePow, ↓reduceIte, reduceCtorEq, Int.reduceLE, Int.reduceLT, Int.reduceEq, Int.reduceNe, Int.reduceAdd, Int.reduceSub, Int.reduceMul, Int.reduceNeg, Nat.reduceBEq, show regOf Tryd.f55 0 = Code.region _ _ _ from rfl, show regOf Tryd.f55 1 = Code.region _ _ _ from rfl, show regOf Tryd.f55 2 = Code.region _ _ _ from rfl, List.length_map, hne, List.append_nil]
  obtain ⟨j, e⟩ := e
  have := doCall_ref (by decide) (by decide) (by decide) e rfl (gcOk_append h j)
  rw [List.take_left' rfl] at this
  exact this
theorem str_eq (a b : List UInt8) : (txt a = txt b) = (a = b) := propext txt_inj
mutual
theorem Q_all : ∀ t : Tm, t.fit → Q t
  | ⟨k, p, m, n, l⟩, hf => by
    rw [Tm.fit] at hf
    obtain ⟨f1, f2, f3, f4⟩ := hf
    have ih := Q_alls l f4
    intro u hu
    obtain ⟨k', p', m', n', l'⟩ := u
    rw [Tm.fit] at hu
    obtain ⟨g1, g2, g3, g4⟩ := hu
    have c := eqf_c l l' f3 g3 ih (fits_mem g4)
    have e : ∃ h, aval Tryd.prog md fg 39 [tmV ⟨k, p, m, n, l⟩, tmV ⟨k', p', m', n', l'⟩] [] = some (.val (.bool (sameT ⟨k, p, m, n, l⟩ ⟨k', p', m', n', l'⟩)), h) := by
      rw [tmV_mk, tmV_mk, sameT]
      have hp := str_eq p p'
      have hm := str_eq m m'
      have ek : (k == k') = decide (k = k') := rfl
      have en : (n == n') = decide (n = n') := rfl
      rw [ek, en]
      rw [aval_of Tryd.func39 body39 Tryd.results39 Tryd.ntmps39 ok39]
      by_cases h1 : k = k'
      · by_cases h2 : p = p'
        · by_cases h3 : m = m'
          · by_cases h4 : n = n'
            · subst h1; subst h2; subst h3; subst h4
              simp (implicitDefEqProofs := false) (disch := omega) only [go_sem, Nat.reduceAdd, Nat.reduceSub, Nat.reduceMul, Nat.reduceLT, Nat.reduceLeDiff, Nat.reduceEqDiff, List.drop_zero, List.take_succ_cons, List.take_zero, List.drop_succ_cons, Bool.and_true, Bool.true_and, Bool.and_false, Bool.false_and, BitVec.reduceOfInt, Nat.zero_add, Nat.mul_one, Nat.add_zero, Int.zero_add, Int.reduceToNat, Nat.reducePow, ↓reduceIte, reduceCtorEq, Int.reduceLE, Int.reduceLT, Int.reduceEq, Int.reduceNe, Int.reduceAdd, Int.reduceSub, Int.reduceMul, Int.reduceNeg, Nat.reduceBEq, show regOf Tryd.f39 0 = Code.region _ _ _ from rfl, show regOf Tryd.f39 1 = Code.region _ _ _ from rfl, c]
              exact ⟨_, rfl⟩
            · simp (implicitDefEqProofs := false) (disch := omega) only [go_sem, Nat.reduceAdd, Nat.reduceSub, Nat.reduceMul, Nat.reduceLT, Nat.reduceLeDiff, Nat.reduceEqDiff, List.drop_zero, List.take_succ_cons, List.take_zero, List.drop_succ_cons, Bool.and_true, Bool.true_and, Bool.and_false, Bool.false_and, BitVec.reduceOfInt, Nat.zero_add, Nat.mul_one, Nat.add_zero, Int.zero_add, Int.reduceToNat, Nat.reducePow, ↓reduceIte, reduceCtorEq, Int.reduceLE, Int.reduceLT, Int.reduceEq, Int.reduceNe, Int.reduceAdd, Int.reduceSub, Int.reduceMul, Int.reduceNeg, Nat.reduceBEq, show regOf Tryd.f39 0 = Code.region _ _ _ from rfl, show regOf Tryd.f39 1 = Code.region _ _ _ from rfl, h1, h2, h3, h4, hp, hm]
              exact ⟨_, rfl⟩
          · simp (implicitDefEqProofs := false) (disch := omega) only [go_sem, Nat.reduceAdd, Nat.reduceSub, Nat.reduceMul, Nat.reduceLT, Nat.reduceLeDiff, Nat.reduceEqDiff, List.drop_zero, List.take_succ_cons, List.take_zero, List.drop_succ_cons, Bool.and_true, Bool.true_and, Bool.and_false, Bool.false_and, BitVec.reduceOfInt, Nat.zero_add, Nat.mul_one, Nat.add_zero, Int.zero_add, Int.reduceToNat, Nat.reducePow, ↓reduceIte, reduceCtorEq, Int.reduceLE, Int.reduceLT, Int.reduceEq, Int.reduceNe, Int.reduceAdd, Int.reduceSub, Int.reduceMul, Int.reduceNeg, Nat.reduceBEq, show regOf Tryd.f39 0 = Code.region _ _ _ from rfl, show regOf Tryd.f39 1 = Code.region _ _ _ from rfl, h1, h2, h3, hp, hm]
            exact ⟨_, rfl⟩
        · simp (implicitDefEqProofs := false) (disch := omega) only [go_sem, Nat.reduceAdd, Nat.reduceSub, Nat.reduceMul, Nat.reduceLT, Nat.reduceLeDiff, Nat.reduceEqDiff, List.drop_zero, List.take_succ_cons, List.take_zero, List.drop_succ_cons, Bool.and_true, Bool.true_and, Bool.and_false, Bool.false_and, BitVec.reduceOfInt, Nat.zero_add, Nat.mul_one, Nat.add_zero, Int.zero_add, Int.reduceToNat, Nat.reducePow, ↓reduceIte, reduceCtorEq, Int.reduceLE, Int.reduceLT, Int.reduceEq, Int.reduceNe, Int.reduceAdd, Int.reduceSub, Int.reduceMul, Int.reduceNeg, Nat.reduceBEq, show regOf Tryd.f39 0 = Code.region _ _ _ from rfl, show regOf Tryd.f39 1 = Code.region _ _ _ from rfl, h1, h2, hp, hm]
          exact ⟨_, rfl⟩
      · simp (implicitDefEqProofs := false) (disch := omega) only [go_sem, Nat.reduceAdd, Nat.reduceSub, Nat.reduceMul, Nat.reduceLT, Nat.reduceLeDiff, Nat.reduceEqDiff, List.drop_zero, List.take_succ_cons, List.take_zero, List.drop_succ_cons, Bool.and_true, Bool.true_and, Bool.and_false, Bool.false_and, BitVec.reduceOfInt, Nat.zero_add, Nat.mul_one, Nat.add_zero, Int.zero_add, Int.reduceToNat, Nat.reducePow, ↓reduceIte, reduceCtorEq, Int.reduceLE, Int.reduceLT, Int.reduceEq, Int.reduceNe, Int.reduceAdd, Int.reduceSub, Int.reduceMul, Int.reduceNeg, Nat.reduceBEq, show regOf Tryd.f39 0 = Code.region _ _ _ from rfl, show regOf Tryd.f39 1 = Code.region _ _ _ from rfl, h1, hp, hm]
        exact ⟨_, rfl⟩
    obtain ⟨h, e⟩ := e
    rw [pcall_eq, e, pureRes_solid rfl]
theorem Q_alls : ∀ l : List Tm, Tm.fits l → ∀ t ∈ l, Q t
  | [], _, t, h => by cases h
  | a :: r, hf, t, h => by
    rw [Tm.fits] at hf
    rcases List.mem_cons.1 h with h | h
    · rw [h]; exact Q_all a hf.1
    · exact Q_alls r hf.2 t h
end
theorem tsame_c (t u : Tm) (ht : t.fit) (hu : u.fit) (h : AHeap) : doCall md (aval Tryd.prog md fg) 39 [tmV t, tmV u] h = some (.val (.bool (sameT t u)), h) := doCall_pure md39 (by simp only [solidL, solid_tm, Bool.true_and]) (Q_all t ht u hu)
end Go.Proofs.YtedapgcaibbhoaaDoor
namespace Go.Proofs.YtedapgcaibbhoaaDoor
open Go Go.Ab Go.Proofs
set_option maxRecDepth 100000
set_option linter.unusedSimpArgs false
set_option linter.unusedVariables false
section
variable {d : Option Tmp} {ty : TypeId} {pos : String} {aft : Array Edge} {g : Option (Nat × Bool)} {env : Env} {md : FuncId → Nat} {P : Program} {h : AHeap}
theorem thenDraw_append (cs : Array Operand) (ts : Array TypeId) (h0 : AHeap) (v : AV) (h' : AHeap) (call : CallF) (k : Env → AHeap → Option (Env × AHeap)) : thenDraw P ⟨d, .call ⟨.builtin .append, cs, ts⟩, ty, pos, aft, g⟩ h0 (some (.value v h')) md call d k env = k (aput env d v) h' := thenDraw_eff _ _ _ _ _ _ rfl
theorem thenDraw_store (t : TypeId) (a x : Operand) (h0 : AHeap) (v : AV) (h' : AHeap) (call : CallF) (k : Env → AHeap → Option (Env × AHeap)) : thenDraw P ⟨d, .store t a x, ty, pos, aft, g⟩ h0 (some (.value v h')) md call d k env = k (aput env d v) h' := thenDraw_eff _ _ _ _ _ _ rfl
theorem thenDraw_own70 (n : Nat) (ps : Array (Nat × Operand)) (h0 : AHeap) (v : AV) (h' : AHeap) (call : CallF) (k : Env → AHeap → Option (Env × AHeap)) : thenDraw Tryd.prog ⟨d, .buildSlice 70 n ps, ty, pos, aft, g⟩ h0 (some (.value v h')) md call d k env = k (aput env d v) h' := thenDraw_eff _ _ _ _ _ _ ownT_70
theorem appT_arr2 (ks b : Nat) (z : AV) (id len g : Nat) (es xs : List AV) (ho : hget h id = .arr ks es g) (hl : len ≤ es.length) (hk : headOk ks xs = true) (hb : (len + xs.length) * b ≤ 140737488355328) :
    appT (some (ks, b, z)) h (.arr id 0 len g ks) (some xs) = some (.arr id 0 (len + xs.length) (g + 1) ks, h.set id (.arr ks (es.take len ++ xs) (g + 1))) := by
  have : (len + xs.length) * b ≤ 2 ^ 47 := hb
  simp [appT, hk, ho, this, hl]
end
theorem b69 (k : Int) (p m : ByteArray) (n : Int) (l : List AV) (k' : Int) (p' m' : ByteArray) (n' : Int) (l' : List AV) : abuild Tryd.prog 69 [(0, .agg [.int k, .str p, .str m, .int n, .slc false l]), (1, .agg [.int k', .str p', .str m', .int n', .slc false l'])] = some (.agg [.int k, .str p, .str m, .int n, .slc false l, .int k', .str p', .str m', .int n', .slc false l']) := by kernel_rfl
/-- A pair of terms in a work list. -/
def pairV (p : Tm × Tm) : AV := .agg ((tmV p.1).cells ++ (tmV p.2).cells)
theorem pairV_mk (k : Int) (p m : List UInt8) (n : Int) (l : List Tm) (k' : Int) (p' m' : List UInt8) (n' : Int) (l' : List Tm) : pairV (⟨k, p, m, n, l⟩, ⟨k', p', m', n', l'⟩) = .agg [.int k, .str (txt p), .str (txt m), .int n, .slc false (l.map tmV), .int k', .str (txt p'), .str (txt m'), .int n', .slc false (l'.map tmV)] := by
  unfold pairV; rw [tmV_mk, tmV_mk]; rfl
/-- A work list: a stack, its top last. -/
def TB (h : AHeap) (v : AV) (st : List (Tm × Tm)) : Prop :=
  ∃ k gg es, v = .arr k 0 st.length gg 10 ∧ hget h k = .arr 10 es gg ∧ st.length ≤ es.length ∧ es.take st.length = st.reverse.map pairV
/-- What is not a work list stays. -/
def KeepO (h h' : AHeap) : Prop := h.length ≤ h'.length ∧ ∀ j o, hget h j = o → (∀ a b c, o ≠ .arr a b c) → o ≠ .dead → hget h' j = o
theorem KeepO.refl (h : AHeap) : KeepO h h := ⟨Nat.le_refl _, fun _ _ e _ _ => e⟩
theorem KeepO.trans {a b c : AHeap} (x : KeepO a b) (y : KeepO b c) : KeepO a c := ⟨Nat.le_trans x.1 y.1, fun j o e h1 h2 => y.2 j o (x.2 j o e h1 h2) h1 h2⟩
theorem keep_app (h l : AHeap) : KeepO h (h ++ l) := ⟨by simp, fun j o e _ hd => by rw [hget_app l (hlt_of e hd)]; exact e⟩
theorem tb_app {h : AHeap} {v : AV} {st : List (Tm × Tm)} (hT : TB h v st) (l : AHeap) : TB (h ++ l) v st := by
  obtain ⟨k, gg, es, e1, e2, e3, e4⟩ := hT
  exact ⟨k, gg, es, e1, by rw [hget_app l (hlt_of e2 (by simp))]; exact e2, e3, e4⟩
theorem tb_push {h : AHeap} {v : AV} {st : List (Tm × Tm)} (hT : TB h v st) (p : Tm × Tm) (hn : st.length ≤ 100000) :
    ∃ v' h', (∀ z, appT (some (10, 144, z)) h v (some [pairV p]) = some (v', h')) ∧ TB h' v' (p :: st) ∧ KeepO h h' := by
  obtain ⟨k, gg, es, rfl, e2, e3, e4⟩ := hT
  have hk := hlt_of e2 (by simp)
  refine ⟨_, _, fun z => appT_arr2 10 144 z k st.length gg es [pairV p] e2 e3 (by obtain ⟨⟨a, b, c, d, e⟩, ⟨a', b', c', d', e'⟩⟩ := p; rw [pairV_mk]; rfl) (by simp only [List.length_cons, List.length_nil]; omega), ⟨k, gg + 1, es.take st.length ++ [pairV p], by simp, hget_set_eq hk, by simp; omega, ?_⟩, by simp, fun j o e h1 h2 => ?_⟩
  · rw [e4, List.length_cons, List.reverse_cons, List.map_append]
    rw [List.take_of_length_le (by simp)]
    rfl
  · have hjk : ¬ k = j := by rintro rfl; rw [e2] at e; exact h1 _ _ _ e.symm
    rw [hget_set_ne hjk]; exact e
set_option maxHeartbeats 8000000 in
theorem push_loop {M : Nat} (k : Int) (p m : List UInt8) (n : Int) (l l' : List Tm) (hl : l.length ≤ 9223372036854775807) (hll : l.length = l'.length) (q : Nat) : ∀ (r : List Tm) (i : Nat) (h : AHeap) (v : AV) (st : List (Tm × Tm)), l.drop i = r → i ≤ l.length → TB h v st → hget h q = .vars [.int k, .str (txt p), .str (txt m), .int n, .slc false (l'.map tmV)] → st.length + r.length ≤ 100000 → ∃ (v' : AV) (h' : AHeap),
    lrun Tryd.prog md fg (fg 27) (loopOf Tryd.f27 2) (fg 27 3) ((.unk :: .unk :: .unk :: .unk :: .unk :: .unk :: (.mp M) :: (v) :: .unk :: (.ptr q 0) :: .unk :: .unk :: .unk :: .unk :: .unk :: .unk :: .unk :: .unk :: .unk :: .unk :: .unk :: .unk :: .unk :: .unk :: .unk :: .unk :: .unk :: .unk :: .unk :: .unk :: .unk :: .unk :: .unk :: .unk :: .unk :: .unk :: .unk :: .unk :: .unk :: .unk :: .unk :: .unk :: .unk :: .unk :: .unk :: .unk :: .unk :: .unk :: .unk :: .unk :: .unk :: .unk :: .unk :: .unk :: .unk :: .unk :: .unk :: .unk :: .unk :: .unk :: .unk :: .unk :: .unk :: .unk :: .unk :: .unk :: .unk :: .unk :: .unk :: .unk :: .unk :: .unk :: .unk :: .unk :: .unk :: .unk :: .unk :: .unk :: .unk :: .unk :: .unk :: .unk :: .unk :: .unk :: .unk :: .unk :: .unk :: .unk :: .unk :: .unk :: .unk :: .unk :: .unk :: .unk :: .unk :: .unk :: .unk :: .unk :: (.slc false (l.map tmV)) :: (.int l.length) :: (.int i) :: .unk :: .unk :: .unk :: .unk :: .unk :: .unk :: .unk :: .unk :: .unk :: .unk :: .unk :: .unk :: .unk :: .unk :: .unk :: .unk :: [] : List AV)) h = some (.exit 2, (.unk :: .unk :: .unk :: .unk :: .unk :: .unk :: (.mp M) :: (v') :: .unk :: (.ptr q 0) :: .unk :: .unk :: .unk :: .unk :: .unk :: .unk :: .unk :: .unk :: .unk :: .unk :: .unk :: .unk :: .unk :: .unk :: .unk :: .unk :: .unk :: .unk :: .unk :: .unk :: .unk :: .unk :: .unk :: .unk :: .unk :: .unk :: .unk :: .unk :: .unk :: .unk :: .unk :: .unk :: .unk :: .unk :: .unk :: .unk :: .unk :: .unk :: .unk :: .unk :: .unk :: .unk :: .unk :: .unk :: .unk :: .unk :: .unk :: .unk :: .unk :: .unk :: .unk :: .unk :: .unk :: .unk :: .unk :: .unk :: .unk :: .unk :: .unk :: .unk :: .unk :: .unk :: .unk :: .unk :: .unk :: .unk :: .unk :: .unk :: .unk :: .unk :: .unk :: .unk :: .unk :: .unk :: .unk :: .unk :: .unk :: .unk :: .unk :: .unk :: .unk :: .unk :: .unk :: .unk :: .unk :: .unk :: .unk :: .unk :: (.slc false (l.map tmV)) :: (.int l.length) :: (.int l.length) :: .unk :: .unk :: .unk :: .unk :: .unk :: .unk :: .unk :: .unk :: .unk :: .unk :: .unk :: .unk :: .unk :: .unk :: .unk :: .unk :: [] : List AV), h') ∧ TB h' v' ((r.zip (l'.drop i)).reverse ++ st) ∧ KeepO h h'
  | [], i, h, v, st, hdr, hi, hT, hq, hn => by
    have : i = l.length := by have := congrArg List.length hdr; simp at this; omega
    subst this
    refine ⟨v, h, ?_, by simpa using hT, KeepO.refl h⟩
    rw [lrun_atC loop27_2]
    simp (implicitDefEqProofs := false) (disch := omega) only [go_sem, Nat.reduceAdd, Nat.reduceSub, Nat.reduceMul, Nat.reduceLT, Nat.reduceLeDiff, Nat.reduceEqDiff, List.drop_zero, List.take_succ_cons, List.take_zero, List.drop_succ_cons, Bool.and_true, Bool.true_and, Bool.and_false, Bool.false_and, BitVec.reduceOfInt, Nat.zero_add, Nat.mul_one, Nat.add_zero, Int.zero_add, Int.reduceToNat, Nat.reducePow, ↓reduceIte, reduceCtorEq, Int.reduceLE, Int.reduceLT, Int.reduceEq, Int.reduceNe, Int.reduceAdd, Int.reduceSub, Int.reduceMul, Int.reduceNeg, Nat.reduceBEq, show regOf Tryd.f27 14 = Code.region _ _ _ from rfl]
  | ⟨k2, p2, m2, n2, l2⟩ :: r, i, h, v, st, hdr, hi, hT, hq, hn => by
    have hx : l[i]? = some ⟨k2, p2, m2, n2, l2⟩ := by have := congrArg (·[0]?) hdr; simpa using this
    have hlt : i < l.length := (List.getElem?_eq_some_iff.1 hx).1
    have hd' : l.drop (i + 1) = r := by rw [← List.tail_drop, hdr]; rfl
    have ht : ((i : Int)).toNat = i := by omega
    obtain ⟨u, hu⟩ : ∃ u, l'[i]? = some u := ⟨l'[i], List.getElem?_eq_getElem (by omega)⟩
    have hud : l'.drop i = u :: l'.drop (i + 1) := by
      rw [List.drop_eq_getElem_cons (by omega)]
      have := (List.getElem?_eq_some_iff.1 hu).2
      rw [this]
    obtain ⟨k3, p3, m3, n3, l3⟩ := u
    simp only [List.length_cons] at hn
    obtain ⟨v1, h1, e1, t1, k1⟩ := tb_push (tb_app hT [.vars [.int k2, .str (txt p2), .str (txt m2), .int n2, .slc false (l2.map tmV)], .arr 10 [pairV (⟨k2, p2, m2, n2, l2⟩, ⟨k3, p3, m3, n3, l3⟩)] 0]) (⟨k2, p2, m2, n2, l2⟩, ⟨k3, p3, m3, n3, l3⟩) (by omega)
    have kk := (keep_app h [.vars [.int k2, .str (txt p2), .str (txt m2), .int n2, .slc false (l2.map tmV)], .arr 10 [pairV (⟨k2, p2, m2, n2, l2⟩, ⟨k3, p3, m3, n3, l3⟩)] 0]).trans k1
    obtain ⟨v', h', e2, t2, k2'⟩ := push_loop k p m n l l' hl hll q r (i + 1) h1 v1 _ hd' (by omega) t1 (kk.2 q _ hq (by simp) (by simp)) (by simp only [List.length_cons]; omega)
    refine ⟨v', h', ?_, ?_, kk.trans k2'⟩
    · rw [← e2]
      have gq : ∀ l, hget (h ++ l) q = .vars [.int k, .str (txt p), .str (txt m), .int n, .slc false (l'.map tmV)] := fun l => by rw [hget_app l (hlt_of hq (by simp))]; exact hq
      have sv : ∀ (A : AObj) (x : AV), sview (h ++ [A, .arr 10 [x] 0]) (.arr (h.length + 1) 0 1 0 10) = some [x] := fun A x => sview_arr _ _ _ _ _ (sb_get1 _ _ [] rfl) rfl
      rw [pairV_mk] at e1
      rw [lrun_atC loop27_2]
      simp (implicitDefEqProofs := false) (disch := first | omega | exact List.length_set) only [go_sem, Nat.reduceAdd, Nat.reduceSub, Nat.reduceMul, Nat.reduceLT, Nat.reduceLeDiff, Nat.reduceEqDiff, List.drop_zero, List.take_succ_cons, List.take_zero, List.drop_succ_cons, Bool.and_true, Bool.true_and, Bool.and_false, Bool.false_and, BitVec.reduceOfInt, Nat.zero_add, Nat.mul_one, Nat.add_zero, Int.zero_add, Int.reduceToNat, Nat.reducePow, ↓reduceIte, reduceCtorEq, Int.reduceLE, Int.reduceLT, Int.reduceEq, Int.reduceNe, Int.reduceAdd, Int.reduceSub, Int.reduceMul, Int.reduceNeg, Nat.reduceBEq, show regOf Tryd.f27 14 = Code.region _ _ _ from rfl, show regOf Tryd.f27 15 = Code.region _ _ _ from rfl, List.getElem?_map, ht, hx, hu, Option.map_some, tmV_mk, gq, List.append_assoc, List.cons_append, List.nil_append, List.length_append, List.length_cons, List.length_nil, sb_get0, sb_get1, sb_set0, sb_set1]
      simp (implicitDefEqProofs := false) (disch := first | omega | exact List.length_set) only [go_sem, Nat.reduceAdd, Nat.reduceSub, Nat.reduceMul, Nat.reduceLT, Nat.reduceLeDiff, Nat.reduceEqDiff, List.drop_zero, List.take_succ_cons, List.take_zero, List.drop_succ_cons, Bool.and_true, Bool.true_and, Bool.and_false, Bool.false_and, BitVec.reduceOfInt, Nat.zero_add, Nat.mul_one, Nat.add_zero, Int.zero_add, Int.reduceToNat, Nat.reducePow, ↓reduceIte, reduceCtorEq, Int.reduceLE, Int.reduceLT, Int.reduceEq, Int.reduceNe, Int.reduceAdd, Int.reduceSub, Int.reduceMul, Int.reduceNeg, Nat.reduceBEq, show regOf Tryd.f27 16 = Code.region _ _ _ from rfl, show regOf Tryd.f27 17 = Code.region _ _ _ from rfl, List.getElem?_map, ht, hx, hu, Option.map_some, tmV_mk, gq, List.append_assoc, List.cons_append, List.nil_append, List.length_append, List.length_cons, List.length_nil, sb_get0, sb_get1, sb_set0, sb_set1, b69, thenDraw_own70, thenDraw_append, sv, e1]
      all_goals (congr 1 <;> simp only [List.cons.injEq, AV.val.injEq, Value.int.injEq, Value.bool.injEq, true_and, and_true] <;> omega)
    · rw [hud, List.zip_cons_cons, List.reverse_cons, List.append_assoc]
      exact t2
end Go.Proofs.YtedapgcaibbhoaaDoor
namespace Go.Proofs.YtedapgcaibbhoaaDoor
open Go Go.Ab Go.Proofs
set_option maxRecDepth 100000
set_option linter.unusedSimpArgs false
set_option linter.unusedVariables false
/-- What was put in: names, types, in order. -/
abbrev Put := List (List UInt8 × Tm × Nat) × Nat
def encP (es : List (List UInt8 × Tm × Nat)) : List (AV × AV × Nat) := es.map fun e => (AV.str (txt e.1), tmV e.2.1, e.2.2)
def pf (k : List UInt8) : List (List UInt8 × Tm × Nat) → Nat → Option (Nat × Tm)
  | [], _ => none
  | e :: r, i => if k = e.1 then some (i, e.2.1) else pf k r (i + 1)
def putS (P : Put) (k : List UInt8) (t : Tm) : Put :=
  match pf k P.1 0 with
  | some (i, _) => (P.1.modify i fun e => (e.1, t, e.2.2), P.2)
  | none => (P.1 ++ [(k, t, P.2)], P.2 + 1)
theorem eqT9 (a b : ByteArray) : aeqT Tryd.prog eqDepth 9 (.str a) (.str b) = some (a.data.toList == b.data.toList) := by kernel_rfl
theorem afind_pf (k : List UInt8) : ∀ (es : List (List UInt8 × Tm × Nat)) (i : Nat), afind (aeqT Tryd.prog eqDepth 9) (.str (txt k)) (encP es) i = some ((pf k es i).map fun p => (p.1, tmV p.2))
  | [], i => rfl
  | e :: r, i => by
    obtain ⟨n, t, c⟩ := e
    show (match aeqT Tryd.prog eqDepth 9 (.str (txt k)) (.str (txt n)) with | some true => _ | some false => _ | none => _) = _
    rw [eqT9, txt_list, txt_list]
    unfold pf
    by_cases h : k = n
    · have : (k == n) = true := by simpa using h
      rw [this, if_pos h]; rfl
    · have : (k == n) = false := by simpa using h
      rw [this, if_neg h]
      exact afind_pf k r (i + 1)
theorem pf_at (k : List UInt8) : ∀ (es : List (List UInt8 × Tm × Nat)) (i : Nat) (j : Nat) (t : Tm), pf k es i = some (j, t) → i ≤ j ∧ ∃ c, es[j - i]? = some (k, t, c)
  | [], i, j, t, h => by cases h
  | e :: r, i, j, t, h => by
    unfold pf at h
    split at h
    · rename_i hk
      cases h
      exact ⟨Nat.le_refl _, e.2.2, by rw [Nat.sub_self, hk]; rfl⟩
    · obtain ⟨h1, c, h2⟩ := pf_at k r (i + 1) j t h
      refine ⟨by omega, c, ?_⟩
      rw [show j - i = (j - (i + 1)) + 1 by omega, List.getElem?_cons_succ]; exact h2
theorem tmap_47 : tmap Tryd.prog 47 = some (9, 24) := by kernel_rfl
theorem strKey (k : ByteArray) : ((aeqT Tryd.prog eqDepth 9 (.str k) (.str k)).isSome && keyOk (.str k)) = true := by rw [eqT9]; rfl
abbrev zeroT : AV := .agg [.int 0, .str ⟨#[]⟩, .str ⟨#[]⟩, .int 0, .slc true []]
theorem look_p {M : Nat} {h : AHeap} {es : List (List UInt8 × Tm × Nat)} {c : Nat} (hm : hget h M = .map (encP es) c) (k : List UInt8) :
    alookup Tryd.prog 47 h (.mp M) (.str (txt k)) true = some (match pf k es 0 with | some (_, t) => .tup [tmV t, .bool true] | none => .tup [zeroT, .bool false]) := by
  unfold alookup
  rw [tmap_47]
  dsimp only
  rw [tzero_24]
  dsimp only
  rw [if_pos (strKey _), hm]
  dsimp only
  rw [afind_pf]
  cases pf k es 0 with
  | none => rfl
  | some p => rfl
theorem mput_p {M : Nat} {h : AHeap} {P : Put} (hm : hget h M = .map (encP P.1) P.2) (k : List UInt8) (t : Tm) :
    amapPut Tryd.prog 47 h (.mp M) (.str (txt k)) (tmV t) = some (h.set M (.map (encP (putS P k t).1) (putS P k t).2)) := by
  unfold amapPut
  rw [tmap_47]
  dsimp only
  rw [hm]
  dsimp only
  have hk : ((aeqT Tryd.prog eqDepth 9 (.str (txt k)) (.str (txt k))).isSome && keyOk (.str (txt k)) && okVal (tmV t)) = true := by
    rw [strKey]; obtain ⟨a, b, c, d, e⟩ := t; rw [tmV_mk]; rfl
  rw [if_pos hk, afind_pf]
  unfold putS
  cases hp : pf k P.1 0 with
  | none =>
    dsimp only [Option.map_none]
    unfold encP
    rw [List.map_append]; rfl
  | some p =>
    obtain ⟨i, was⟩ := p
    dsimp only [Option.map_some]
    obtain ⟨_, c, hi⟩ := pf_at k P.1 0 i was hp
    rw [Nat.sub_zero] at hi
    have h1 : ((encP P.1)[i]?.map fun e => keySame e.1 (AV.str (txt k))) = some true := by
      unfold encP
      rw [List.getElem?_map, hi]
      show some (keySame (AV.str (txt k)) (AV.str (txt k))) = some true
      simp [keySame, same1]
    rw [if_pos h1]
    unfold encP
    congr 3
    apply List.ext_getElem?
    intro j
    simp only [List.getElem?_modify, List.getElem?_map, Option.map_map]
    cases P.1[j]? with
    | none => rfl
    | some e => simp only [Option.map_some, Function.comp]; split <;> rfl
/-- The walk: what is put in the end, if all matches. -/
def mS : Nat → List (Tm × Tm) → Put → Option Put
  | _, [], P => some P
  | 0, _ :: _, _ => none
  | f + 1, (g, s) :: r, P =>
    if g.kind = 1 then
      match pf g.name P.1 0 with
      | some (_, was) => if sameT was s then mS f r (putS P g.name s) else none
      | none => mS f r (putS P g.name s)
    else if g.kind = s.kind ∧ g.pkg = s.pkg ∧ g.name = s.name ∧ g.n = s.n ∧ g.kids.length = s.kids.length then mS f ((g.kids.zip s.kids).reverse ++ r) P else none
def psz : List (Tm × Tm) → Nat
  | [] => 0
  | p :: r => tsz p.1 + psz r
theorem psz_append : ∀ a b, psz (a ++ b) = psz a + psz b
  | [], b => by simp [psz]
  | p :: r, b => by simp only [List.cons_append, psz, psz_append r b]; omega
theorem psz_rev : ∀ a, psz a.reverse = psz a
  | [] => rfl
  | p :: r => by rw [List.reverse_cons, psz_append, psz_rev r]; simp only [psz]; omega
theorem psz_zip : ∀ (a b : List Tm), psz (a.zip b) ≤ tszs a
  | [], _ => by simp [psz]
  | _ :: _, [] => by simp [psz]
  | x :: a, y :: b => by have := psz_zip a b; simp only [List.zip_cons_cons, psz, tszs]; omega
theorem tsz_pos (t : Tm) : 0 < tsz t := by cases t; rw [tsz]; omega
theorem psz_len : ∀ a : List (Tm × Tm), a.length ≤ psz a
  | [] => by simp [psz]
  | p :: r => by have := psz_len r; have := tsz_pos p.1; simp only [psz, List.length_cons]; omega
end Go.Proofs.YtedapgcaibbhoaaDoor
namespace Go.Proofs.YtedapgcaibbhoaaDoor
open Go Go.Ab Go.Proofs
set_option maxRecDepth 100000
set_option linter.unusedSimpArgs false
set_option linter.unusedVariables false
theorem aop_makeMap0 {P : Program} {env : Env} {h : AHeap} {d : Option Tmp} {ty : TypeId} {pos : String} {aft : Array Edge} {g : Option (Nat × Bool)} (t : TypeId) : aop P env h ⟨d, .makeMap t none, ty, pos, aft, g⟩ = if isMapT P t then some (.value (.mp h.length) (h ++ [.map [] 0])) else none := rfl
theorem aop_lookup {P : Program} {env : Env} {h : AHeap} {d : Option Tmp} {ty : TypeId} {pos : String} {aft : Array Edge} {g : Option (Nat × Bool)} (t : TypeId) (x k : Operand) (ok : Bool) : aop P env h ⟨d, .lookup t x k ok, ty, pos, aft, g⟩ = ato (alookup P t h (oval env x) (oval env k) ok) h := rfl
theorem aop_mapUpdate {P : Program} {env : Env} {h : AHeap} {d : Option Tmp} {ty : TypeId} {pos : String} {aft : Array Edge} {g : Option (Nat × Bool)} (t : TypeId) (x k v : Operand) : aop P env h ⟨d, .mapUpdate t x k v, ty, pos, aft, g⟩ = (amapPut P t h (oval env x) (oval env k) (oval env v)).map (.value .und ·) := rfl
theorem rd_len70 {d : Option Tmp} {ty : TypeId} {pos : String} {aft : Array Edge} {g : Option (Nat × Bool)} (x : Operand) : readOp Tryd.prog ⟨d, .call ⟨.builtin .len, #[x], #[70]⟩, ty, pos, aft, g⟩ = false := by
  show isMapT Tryd.prog 70 = false
  kernel_rfl
theorem ixT_aeptr (s len : Nat) (e : TypeId) (b : Option (Nat × Nat × AV)) (id g k idx off : Nat) (n : Int) : ixT s (some (len, e)) b (.eptr id g k idx off) n = if 0 ≤ n ∧ n < len ∧ 0 < s then some (.eptr id g k idx (off + n.toNat * s)) else none := rfl
theorem tb_set {h : AHeap} {v : AV} {st : List (Tm × Tm)} (hT : TB h v st) {j : Nat} {o o' : AObj} (hj : hget h j = o) (ho : ∀ a b c, o ≠ .arr a b c) : TB (h.set j o') v st := by
  obtain ⟨k, gg, es, e1, e2, e3, e4⟩ := hT
  refine ⟨k, gg, es, e1, ?_, e3, e4⟩
  have hjk : ¬ j = k := by rintro rfl; rw [e2] at hj; exact ho _ _ _ hj.symm
  rw [hget_set_ne hjk]; exact e2
theorem tb_pop {h : AHeap} {v : AV} {x : Tm × Tm} {r : List (Tm × Tm)} (hT : TB h v (x :: r)) : ∃ k gg es, v = .arr k 0 (r.length + 1) gg 10 ∧ hget h k = .arr 10 es gg ∧ r.length + 1 ≤ es.length ∧ es[r.length]? = some (pairV x) ∧ TB h (.arr k 0 r.length gg 10) r := by
  obtain ⟨k, gg, es, e1, e2, e3, e4⟩ := hT
  simp only [List.length_cons, List.reverse_cons, List.map_append, List.map_cons, List.map_nil] at e1 e3 e4
  refine ⟨k, gg, es, e1, e2, e3, ?_, k, gg, es, rfl, e2, by omega, ?_⟩
  · have := congrArg (·[r.length]?) e4
    simp only [List.getElem?_take] at this
    rw [if_pos (by omega)] at this
    rw [this, List.getElem?_append_right (by simp)]
    simp
  · have := congrArg (List.take r.length) e4
    rw [List.take_take, Nat.min_eq_left (by omega)] at this
    rw [this, List.take_left' (by simp)]
/-- Variables stay. -/
def KeepV (h h' : AHeap) : Prop := h.length ≤ h'.length ∧ ∀ j cs, hget h j = .vars cs → hget h' j = .vars cs
theorem KeepV.trans {a b c : AHeap} (x : KeepV a b) (y : KeepV b c) : KeepV a c := ⟨Nat.le_trans x.1 y.1, fun j cs e => y.2 j cs (x.2 j cs e)⟩
theorem keepV_app (h l : AHeap) : KeepV h (h ++ l) := ⟨by simp, fun j cs e => by rw [hget_app l (hlt_of e (by simp))]; exact e⟩
theorem keepV_set {h : AHeap} {j : Nat} {o o' : AObj} (hj : hget h j = o) (ho : ∀ cs, o ≠ .vars cs) : KeepV h (h.set j o') := ⟨by simp, fun i cs e => by
  have hij : ¬ j = i := by rintro rfl; rw [hj] at e; exact ho _ e
  rw [hget_set_ne hij]; exact e⟩
theorem KeepO.v {h h' : AHeap} (x : KeepO h h') : KeepV h h' := ⟨x.1, fun j cs e => x.2 j _ e (by simp) (by simp)⟩
def MRes (M : Nat) (h : AHeap) (x : RunR) (o : Option Put) : Prop :=
  match o with
  | some P' => ∃ v' h' a4 a5, x = some (.exit 0, (.unk :: .unk :: .unk :: .unk :: (a4) :: (a5) :: (.mp M) :: (v') :: .unk :: .unk :: .unk :: .unk :: .unk :: .unk :: .unk :: .unk :: .unk :: .unk :: .unk :: .unk :: .unk :: .unk :: .unk :: .unk :: .unk :: .unk :: .unk :: .unk :: .unk :: .unk :: .unk :: .unk :: .unk :: .unk :: .unk :: .unk :: .unk :: .unk :: .unk :: .unk :: .unk :: .unk :: .unk :: .unk :: .unk :: .unk :: .unk :: .unk :: .unk :: .unk :: .unk :: .unk :: .unk :: .unk :: .unk :: .unk :: .unk :: .unk :: .unk :: .unk :: .unk :: .unk :: .unk :: .unk :: .unk :: .unk :: .unk :: .unk :: .unk :: .unk :: .unk :: .unk :: .unk :: .unk :: .unk :: .unk :: .unk :: .unk :: .unk :: .unk :: .unk :: .unk :: .unk :: .unk :: .unk :: .unk :: .unk :: .unk :: .unk :: .unk :: .unk :: .unk :: .unk :: .unk :: .unk :: .unk :: .unk :: .unk :: .unk :: .unk :: .unk :: .unk :: .unk :: .unk :: .unk :: .unk :: .unk :: .unk :: .unk :: .unk :: .unk :: .unk :: .unk :: .unk :: .unk :: .unk :: .unk :: [] : List AV), h') ∧ hget h' M = .map (encP P'.1) P'.2 ∧ KeepV h h'
  | none => ∃ (e' : Env) (h' : AHeap), x = some (.ret, e', h') ∧ e'.getD 4 .und = .val (.map .none) ∧ e'.getD 5 .und = .val (.bool false) ∧ KeepV h h'
theorem MRes.mono {M : Nat} {h g : AHeap} {x : RunR} {o : Option Put} (k : KeepV h g) (m : MRes M g x o) : MRes M h x o := by
  cases o with
  | none => obtain ⟨e', h', a, b, c, d⟩ := m; exact ⟨e', h', a, b, c, k.trans d⟩
  | some P => obtain ⟨v', h', a4, a5, a, b, c⟩ := m; exact ⟨v', h', a4, a5, a, b, k.trans c⟩
theorem put_fit {P : Put} (hP : ∀ e ∈ P.1, Tm.fit e.2.1) (k : List UInt8) {t : Tm} (ht : t.fit) : ∀ e ∈ (putS P k t).1, Tm.fit e.2.1 := by
  intro e he
  unfold putS at he
  cases hp : pf k P.1 0 with
  | none =>
    rw [hp] at he
    rcases List.mem_append.1 he with h | h
    · exact hP e h
    · rw [List.mem_singleton.1 h]; exact ht
  | some p =>
    rw [hp] at he
    obtain ⟨i, w⟩ := p
    dsimp only at he
    obtain ⟨j, hj⟩ := List.mem_iff_getElem?.1 he
    rw [List.getElem?_modify] at hj
    cases hx : P.1[j]? with
    | none => rw [hx] at hj; cases hj
    | some y =>
      rw [hx] at hj
      have hj := Option.some.inj hj
      have hy := hP y (List.mem_of_getElem? hx)
      split at hj
      · rw [← hj]; exact ht
      · rw [← hj]; exact hy
/-- What is to be shown of a work list, with so much to go through. -/
def MAll (M f : Nat) : Prop := ∀ (st : List (Tm × Tm)) (P : Put) (h : AHeap) (v a4 a5 : AV), psz st ≤ f → f ≤ 100000 → (∀ p ∈ st, p.1.fit ∧ p.2.fit) → (∀ e ∈ P.1, Tm.fit e.2.1) → hget h M = .map (encP P.1) P.2 → TB h v st →
    MRes M h (lrun Tryd.prog md fg (fg 27) (loopOf Tryd.f27 0) (fg 27 1) ((.unk :: .unk :: .unk :: .unk :: (a4) :: (a5) :: (.mp M) :: (v) :: .unk :: .unk :: .unk :: .unk :: .unk :: .unk :: .unk :: .unk :: .unk :: .unk :: .unk :: .unk :: .unk :: .unk :: .unk :: .unk :: .unk :: .unk :: .unk :: .unk :: .unk :: .unk :: .unk :: .unk :: .unk :: .unk :: .unk :: .unk :: .unk :: .unk :: .unk :: .unk :: .unk :: .unk :: .unk :: .unk :: .unk :: .unk :: .unk :: .unk :: .unk :: .unk :: .unk :: .unk :: .unk :: .unk :: .unk :: .unk :: .unk :: .unk :: .unk :: .unk :: .unk :: .unk :: .unk :: .unk :: .unk :: .unk :: .unk :: .unk :: .unk :: .unk :: .unk :: .unk :: .unk :: .unk :: .unk :: .unk :: .unk :: .unk :: .unk :: .unk :: .unk :: .unk :: .unk :: .unk :: .unk :: .unk :: .unk :: .unk :: .unk :: .unk :: .unk :: .unk :: .unk :: .unk :: .unk :: .unk :: .unk :: .unk :: .unk :: .unk :: .unk :: .unk :: .unk :: .unk :: .unk :: .unk :: .unk :: .unk :: .unk :: .unk :: .unk :: .unk :: .unk :: .unk :: .unk :: .unk :: .unk :: [] : List AV)) h) (mS f st P)
theorem m_nil {M : Nat} (f : Nat) (P : Put) (h : AHeap) (v a4 a5 : AV) (hm : hget h M = .map (encP P.1) P.2) (hT : TB h v []) : MRes M h (lrun Tryd.prog md fg (fg 27) (loopOf Tryd.f27 0) (fg 27 1) ((.unk :: .unk :: .unk :: .unk :: (a4) :: (a5) :: (.mp M) :: (v) :: .unk :: .unk :: .unk :: .unk :: .unk :: .unk :: .unk :: .unk :: .unk :: .unk :: .unk :: .unk :: .unk :: .unk :: .unk :: .unk :: .unk :: .unk :: .unk :: .unk :: .unk :: .unk :: .unk :: .unk :: .unk :: .unk :: .unk :: .unk :: .unk :: .unk :: .unk :: .unk :: .unk :: .unk :: .unk :: .unk :: .unk :: .unk :: .unk :: .unk :: .unk :: .unk :: .unk :: .unk :: .unk :: .unk :: .unk :: .unk :: .unk :: .unk :: .unk :: .unk :: .unk :: .unk :: .unk :: .unk :: .unk :: .unk :: .unk :: .unk :: .unk :: .unk :: .unk :: .unk :: .unk :: .unk :: .unk :: .unk :: .unk :: .unk :: .unk :: .unk :: .unk :: .unk :: .unk :: .unk :: .unk :: .unk :: .unk :: .unk :: .unk :: .unk :: .unk :: .unk :: .unk :: .unk :: .unk :: .unk :: .unk :: .unk :: .unk :: .unk :: .unk :: .unk :: .unk :: .unk :: .unk :: .unk :: .unk :: .unk :: .unk :: .unk :: .unk :: .unk :: .unk :: .unk :: .unk :: .unk :: .unk :: [] : List AV)) h) (mS f [] P) := by
  have e : mS f [] P = some P := by cases f <;> rfl
  rw [e]
  refine ⟨v, h, a4, a5, ?_, hm, Nat.le_refl _, fun _ _ e => e⟩
  obtain ⟨k, gg, es, rfl, e2, e3, e4⟩ := hT
  simp only [List.length_nil]
  rw [lrun_atC loop27_0]
  simp (implicitDefEqProofs := false) (disch := omega) only [go_sem, Nat.reduceAdd, Nat.reduceSub, Nat.reduceMul, Nat.reduceLT, Nat.reduceLeDiff, Nat.reduceEqDiff, List.drop_zero, List.take_succ_cons, List.take_zero, List.drop_succ_cons, Bool.and_true, Bool.true_and, Bool.and_false, Bool.false_and, BitVec.reduceOfInt, Nat.zero_add, Nat.mul_one, Nat.add_zero, Int.zero_add, Int.reduceToNat, Nat.reducePow, ↓reduceIte, reduceCtorEq, Int.reduceLE, Int.reduceLT, Int.reduceEq, Int.reduceNe, Int.reduceAdd, Int.reduceSub, Int.reduceMul, Int.reduceNeg, Nat.reduceBEq, show regOf Tryd.f27 3 = Code.region _ _ _ from rfl]
set_option maxHeartbeats 16000000 in
theorem m_step {M f : Nat} (IH : MAll M f) (k : Int) (p m : List UInt8) (n : Int) (l : List Tm) (k' : Int) (p' m' : List UInt8) (n' : Int) (l' : List Tm) (r : List (Tm × Tm)) (P : Put) (h : AHeap) (v a4 a5 : AV) (hs : psz ((⟨k, p, m, n, l⟩, ⟨k', p', m', n', l'⟩) :: r) ≤ f + 1) (hf : f + 1 ≤ 100000)
    (hst : ∀ p_1 ∈ ((⟨k, p, m, n, l⟩, ⟨k', p', m', n', l'⟩) :: r : List (Tm × Tm)), p_1.1.fit ∧ p_1.2.fit) (hP : ∀ e ∈ P.1, Tm.fit e.2.1) (hm : hget h M = .map (encP P.1) P.2) (hT : TB h v ((⟨k, p, m, n, l⟩, ⟨k', p', m', n', l'⟩) :: r)) :
    MRes M h (lrun Tryd.prog md fg (fg 27) (loopOf Tryd.f27 0) (fg 27 1) ((.unk :: .unk :: .unk :: .unk :: (a4) :: (a5) :: (.mp M) :: (v) :: .unk :: .unk :: .unk :: .unk :: .unk :: .unk :: .unk :: .unk :: .unk :: .unk :: .unk :: .unk :: .unk :: .unk :: .unk :: .unk :: .unk :: .unk :: .unk :: .unk :: .unk :: .unk :: .unk :: .unk :: .unk :: .unk :: .unk :: .unk :: .unk :: .unk :: .unk :: .unk :: .unk :: .unk :: .unk :: .unk :: .unk :: .unk :: .unk :: .unk :: .unk :: .unk :: .unk :: .unk :: .unk :: .unk :: .unk :: .unk :: .unk :: .unk :: .unk :: .unk :: .unk :: .unk :: .unk :: .unk :: .unk :: .unk :: .unk :: .unk :: .unk :: .unk :: .unk :: .unk :: .unk :: .unk :: .unk :: .unk :: .unk :: .unk :: .unk :: .unk :: .unk :: .unk :: .unk :: .unk :: .unk :: .unk :: .unk :: .unk :: .unk :: .unk :: .unk :: .unk :: .unk :: .unk :: .unk :: .unk :: .unk :: .unk :: .unk :: .unk :: .unk :: .unk :: .unk :: .unk :: .unk :: .unk :: .unk :: .unk :: .unk :: .unk :: .unk :: .unk :: .unk :: .unk :: .unk :: .unk :: .unk :: [] : List AV)) h) (mS (f + 1) ((⟨k, p, m, n, l⟩, ⟨k', p', m', n', l'⟩) :: r) P) := by
  obtain ⟨ka, gg, es, rfl, e2, e3, e4, hTr⟩ := tb_pop hT
  obtain ⟨fg1, fs1⟩ := hst _ (List.mem_cons_self ..)
  dsimp only at fg1 fs1
  have hst' : ∀ p ∈ r, p.1.fit ∧ p.2.fit := fun p hp => hst p (List.mem_cons_of_mem _ hp)
  rw [pairV_mk] at e4
  simp only [psz, tsz] at hs
  have gk : ∀ l, hget (h ++ l) ka = .arr 10 es gg := fun l => by rw [hget_app l (hlt_of e2 (by simp))]; exact e2
  have hk2 : ¬ ka = M := by rintro rfl; rw [e2] at hm; cases hm
  have gm : ∀ l, hget (h ++ l) M = .map (encP P.1) P.2 := fun l => by rw [hget_app l (hlt_of hm (by simp))]; exact hm
  have hln : ((r.length + 1 : Nat) : Int) = (r.length : Int) + 1 := rfl
  have hlen := psz_len r
  have htn : (((r.length : Int) + 1 - 1)).toNat = r.length := by omega
  have hp := str_eq p p'
  have hmm := str_eq m m'
  rw [Tm.fit] at fg1
  obtain ⟨q1, q2, q3, q4⟩ := fg1
  have fs2 := fs1
  rw [Tm.fit] at fs2
  obtain ⟨r1, r2, r3, r4⟩ := fs2
  rw [lrun_atC loop27_0]
  simp (implicitDefEqProofs := false) (maxSteps := 400000) (disch := first | omega | exact List.length_set) only [go_sem, Nat.reduceAdd, Nat.reduceSub, Nat.reduceMul, Nat.reduceLT, Nat.reduceLeDiff, Nat.reduceEqDiff, List.drop_zero, List.take_succ_cons, List.take_zero, List.drop_succ_cons, Bool.and_true, Bool.true_and, Bool.and_false, Bool.false_and, BitVec.reduceOfInt, Nat.zero_add, Nat.mul_one, Nat.add_zero, Int.zero_add, Int.reduceToNat, Nat.reducePow, ↓reduceIte, reduceCtorEq, Int.reduceLE, Int.reduceLT, Int.reduceEq, Int.reduceNe, Int.reduceAdd, Int.reduceSub, Int.reduceMul, Int.reduceNeg, Nat.reduceBEq, show regOf Tryd.f27 3 = Code.region _ _ _ from rfl, show regOf Tryd.f27 4 = Code.region _ _ _ from rfl, ↓tail_nil, ↓subs_nil_all, ↓List.forall_mem_cons, ↓all_nil, Bool.true_or, subs_two, List.tail_cons, killAt_nil, killAt_cons, List.append_assoc, List.cons_append, List.nil_append, List.length_append, List.length_cons, List.length_nil, List.length_set, sb_get0, sb_get1, sb_set0, sb_set1, gk, e4, hln, htn, rd_len70, ixT_aeptr]
  by_cases hk : k = 1
  · subst hk
    have lk := fun l0 => look_p (h := h ++ l0) (gm l0) m
    have mu := fun l0 => mput_p (h := h ++ l0) (gm l0) m ⟨k', p', m', n', l'⟩
    have hP' := put_fit hP m fs1
    rw [tmV_mk] at mu
    cases hpf : pf m P.1 0 with
    | none =>
      have em : mS (f + 1) ((⟨1, p, m, n, l⟩, ⟨k', p', m', n', l'⟩) :: r) P = mS f r (putS P m ⟨k', p', m', n', l'⟩) := by
        rw [mS]
        rw [if_pos (show (Tm.kind ⟨1, p, m, n, l⟩ = 1) from rfl)]
        show (match pf m P.1 0 with | some (_, was) => _ | none => _) = _
        rw [hpf]
        rfl
      rw [em]
      clear em
      simp only [hpf] at lk
      have ih := MRes.mono ((keepV_app h _).trans (keepV_set (gm _) (by simp))) <| IH r (putS P m ⟨k', p', m', n', l'⟩) ((h ++ [AObj.vars [.int 1, .str (txt p), .str (txt m), .int n, .slc false (l.map tmV)], AObj.vars [.int k', .str (txt p'), .str (txt m'), .int n', .slc false (l'.map tmV)], AObj.vars [.int 0, .str ⟨#[]⟩, .str ⟨#[]⟩, .int 0, .slc true []]]).set M (AObj.map (encP (putS P m ⟨k', p', m', n', l'⟩).1) (putS P m ⟨k', p', m', n', l'⟩).2)) (.arr ka 0 r.length gg 10) a4 a5 (by omega) (by omega) hst' hP' (hget_set_eq (hlt_of (gm _) (by simp))) (tb_set (tb_app hTr _) (gm _) (by simp))
      generalize mS f r (putS P m ⟨k', p', m', n', l'⟩) = o at *
      refine Eq.mp (congrArg (fun x => MRes M h x o) ?_) ih
      symm
      simp (implicitDefEqProofs := false) (disch := first | omega | exact List.length_set) only [go_sem, Nat.reduceAdd, Nat.reduceSub, Nat.reduceMul, Nat.reduceLT, Nat.reduceLeDiff, Nat.reduceEqDiff, List.drop_zero, List.take_succ_cons, List.take_zero, List.drop_succ_cons, Bool.and_true, Bool.true_and, Bool.and_false, Bool.false_and, BitVec.reduceOfInt, Nat.zero_add, Nat.mul_one, Nat.add_zero, Int.zero_add, Int.reduceToNat, Nat.reducePow, ↓reduceIte, reduceCtorEq, Int.reduceLE, Int.reduceLT, Int.reduceEq, Int.reduceNe, Int.reduceAdd, Int.reduceSub, Int.reduceMul, Int.reduceNeg, Nat.reduceBEq, show regOf Tryd.f27 5 = Code.region _ _ _ from rfl, show regOf Tryd.f27 6 = Code.region _ _ _ from rfl, hln, htn, Nat.sub_zero, sb_get0, sb_get1]
      simp (implicitDefEqProofs := false) (disch := first | omega | exact List.length_set) only [go_sem, Nat.reduceAdd, Nat.reduceSub, Nat.reduceMul, Nat.reduceLT, Nat.reduceLeDiff, Nat.reduceEqDiff, List.drop_zero, List.take_succ_cons, List.take_zero, List.drop_succ_cons, Bool.and_true, Bool.true_and, Bool.and_false, Bool.false_and, BitVec.reduceOfInt, Nat.zero_add, Nat.mul_one, Nat.add_zero, Int.zero_add, Int.reduceToNat, Nat.reducePow, ↓reduceIte, reduceCtorEq, Int.reduceLE, Int.reduceLT, Int.reduceEq, Int.reduceNe, Int.reduceAdd, Int.reduceSub, Int.reduceMul, Int.reduceNeg, Nat.reduceBEq, show regOf Tryd.f27 7 = Code.region _ _ _ from rfl, show regOf Tryd.f27 8 = Code.region _ _ _ from rfl, show regOf Tryd.f27 10 = Code.region _ _ _ from rfl, aop_lookup, aop_mapUpdate, lk, mu, Option.map_some, List.append_assoc, List.cons_append, List.nil_append, List.length_append, List.length_cons, List.length_nil, sb_get0, sb_get1, sb_get2, sb_set0, sb_set1, sb_set2]
    | some w =>
      obtain ⟨j, was⟩ := w
      have hwf : was.fit := by
        obtain ⟨_, c, hj⟩ := pf_at m P.1 0 j was hpf
        exact hP _ (List.mem_of_getElem? hj)
      have cs := tsame_c was ⟨k', p', m', n', l'⟩ hwf fs1
      have em : mS (f + 1) ((⟨1, p, m, n, l⟩, ⟨k', p', m', n', l'⟩) :: r) P = if sameT was ⟨k', p', m', n', l'⟩ then mS f r (putS P m ⟨k', p', m', n', l'⟩) else none := by
        rw [mS]
        rw [if_pos (show (Tm.kind ⟨1, p, m, n, l⟩ = 1) from rfl)]
        show (match pf m P.1 0 with | some (_, was) => _ | none => _) = _
        rw [hpf]
        rfl
      rw [em]
      clear em
      simp only [hpf] at lk
      generalize sameT was ⟨k', p', m', n', l'⟩ = b at *
      obtain ⟨wk, wp, wm, wn, wl⟩ := was
      rw [tmV_mk, tmV_mk] at cs
      simp only [tmV_mk] at lk
      cases b with
      | true =>
        simp only [if_true]
        have ih := MRes.mono ((keepV_app h _).trans (keepV_set (gm _) (by simp))) <| IH r (putS P m ⟨k', p', m', n', l'⟩) ((h ++ [AObj.vars [.int 1, .str (txt p), .str (txt m), .int n, .slc false (l.map tmV)], AObj.vars [.int k', .str (txt p'), .str (txt m'), .int n', .slc false (l'.map tmV)], AObj.vars [.int wk, .str (txt wp), .str (txt wm), .int wn, .slc false (wl.map tmV)]]).set M (AObj.map (encP (putS P m ⟨k', p', m', n', l'⟩).1) (putS P m ⟨k', p', m', n', l'⟩).2)) (.arr ka 0 r.length gg 10) a4 a5 (by omega) (by omega) hst' hP' (hget_set_eq (hlt_of (gm _) (by simp))) (tb_set (tb_app hTr _) (gm _) (by simp))
        generalize mS f r (putS P m ⟨k', p', m', n', l'⟩) = o at *
        refine Eq.mp (congrArg (fun x => MRes M h x o) ?_) ih
        symm
        simp (implicitDefEqProofs := false) (disch := first | omega | exact List.length_set) only [go_sem, Nat.reduceAdd, Nat.reduceSub, Nat.reduceMul, Nat.reduceLT, Nat.reduceLeDiff, Nat.reduceEqDiff, List.drop_zero, List.take_succ_cons, List.take_zero, List.drop_succ_cons, Bool.and_true, Bool.true_and, Bool.and_false, Bool.false_and, BitVec.reduceOfInt, Nat.zero_add, Nat.mul_one, Nat.add_zero, Int.zero_add, Int.reduceToNat, Nat.reducePow, ↓reduceIte, reduceCtorEq, Int.reduceLE, Int.reduceLT, Int.reduceEq, Int.reduceNe, Int.reduceAdd, Int.reduceSub, Int.reduceMul, Int.reduceNeg, Nat.reduceBEq, show regOf Tryd.f27 5 = Code.region _ _ _ from rfl, show regOf Tryd.f27 6 = Code.region _ _ _ from rfl, hln, htn, Nat.sub_zero, sb_get0, sb_get1]
        simp (implicitDefEqProofs := false) (disch := first | omega | exact List.length_set) only [go_sem, Nat.reduceAdd, Nat.reduceSub, Nat.reduceMul, Nat.reduceLT, Nat.reduceLeDiff, Nat.reduceEqDiff, List.drop_zero, List.take_succ_cons, List.take_zero, List.drop_succ_cons, Bool.and_true, Bool.true_and, Bool.and_false, Bool.false_and, BitVec.reduceOfInt, Nat.zero_add, Nat.mul_one, Nat.add_zero, Int.zero_add, Int.reduceToNat, Nat.reducePow, ↓reduceIte, reduceCtorEq, Int.reduceLE, Int.reduceLT, Int.reduceEq, Int.reduceNe, Int.reduceAdd, Int.reduceSub, Int.reduceMul, Int.reduceNeg, Nat.reduceBEq, show regOf Tryd.f27 7 = Code.region _ _ _ from rfl, show regOf Tryd.f27 8 = Code.region _ _ _ from rfl, show regOf Tryd.f27 10 = Code.region _ _ _ from rfl, aop_lookup, aop_mapUpdate, lk, mu, cs, Option.map_some, List.append_assoc, List.cons_append, List.nil_append, List.length_append, List.length_cons, List.length_nil, sb_get0, sb_get1, sb_get2, sb_set0, sb_set1, sb_set2]
      | false =>
        simp only [Bool.false_eq_true, if_false]
        unfold MRes
        dsimp only
        simp (implicitDefEqProofs := false) (disch := first | omega | exact List.length_set) only [go_sem, Nat.reduceAdd, Nat.reduceSub, Nat.reduceMul, Nat.reduceLT, Nat.reduceLeDiff, Nat.reduceEqDiff, List.drop_zero, List.take_succ_cons, List.take_zero, List.drop_succ_cons, Bool.and_true, Bool.true_and, Bool.and_false, Bool.false_and, BitVec.reduceOfInt, Nat.zero_add, Nat.mul_one, Nat.add_zero, Int.zero_add, Int.reduceToNat, Nat.reducePow, ↓reduceIte, reduceCtorEq, Int.reduceLE, Int.reduceLT, Int.reduceEq, Int.reduceNe, Int.reduceAdd, Int.reduceSub, Int.reduceMul, Int.reduceNeg, Nat.reduceBEq, show regOf Tryd.f27 5 = Code.region _ _ _ from rfl, show regOf Tryd.f27 6 = Code.region _ _ _ from rfl, hln, htn, Nat.sub_zero, sb_get0, sb_get1]
        simp (implicitDefEqProofs := false) (disch := first | omega | exact List.length_set) only [go_sem, Nat.reduceAdd, Nat.reduceSub, Nat.reduceMul, Nat.reduceLT, Nat.reduceLeDiff, Nat.reduceEqDiff, List.drop_zero, List.take_succ_cons, List.take_zero, List.drop_succ_cons, Bool.and_true, Bool.true_and, Bool.and_false, Bool.false_and, BitVec.reduceOfInt, Nat.zero_add, Nat.mul_one, Nat.add_zero, Int.zero_add, Int.reduceToNat, Nat.reducePow, ↓reduceIte, reduceCtorEq, Int.reduceLE, Int.reduceLT, Int.reduceEq, Int.reduceNe, Int.reduceAdd, Int.reduceSub, Int.reduceMul, Int.reduceNeg, Nat.reduceBEq, show regOf Tryd.f27 7 = Code.region _ _ _ from rfl, show regOf Tryd.f27 8 = Code.region _ _ _ from rfl, show regOf Tryd.f27 9 = Code.region _ _ _ from rfl, aop_lookup, lk, cs, Option.map_some, List.append_assoc, List.cons_append, List.nil_append, List.length_append, List.length_cons, List.length_nil, sb_get0, sb_get1, sb_get2, sb_set0, sb_set1, sb_set2]
        exact ⟨_, _, rfl, rfl, rfl, keepV_app h _⟩
  · by_cases hall : k = k' ∧ p = p' ∧ m = m' ∧ n = n' ∧ l.length = l'.length
    · obtain ⟨rfl, rfl, rfl, rfl, h5⟩ := hall
      have em : mS (f + 1) ((⟨k, p, m, n, l⟩, ⟨k, p, m, n, l'⟩) :: r) P = mS f ((l.zip l').reverse ++ r) P := by
        rw [mS]
        rw [if_neg (show ¬ (Tm.kind ⟨k, p, m, n, l⟩ = 1) from hk)]
        exact if_pos ⟨rfl, rfl, rfl, rfl, h5⟩
      rw [em]
      clear em
      obtain ⟨v3, h3, x1, x2, x3⟩ := push_loop (M := M) k p m n l l' q3 h5 (h.length + 1) l 0 (h ++ [.vars [.int k, .str (txt p), .str (txt m), .int n, .slc false (l.map tmV)], .vars [.int k, .str (txt p), .str (txt m), .int n, .slc false (l'.map tmV)]]) (.arr ka 0 r.length gg 10) r (by simp) (by omega) (tb_app hTr _) (sb_get1 _ _ [] rfl) (by
        have : l.length ≤ tszs l := by
          clear hst hst' q4 h5 e4 hT hTr hs
          induction l with
          | nil => simp
          | cons a b ih => have := tsz_pos a; simp only [tszs, List.length_cons]; have := ih (by simp only [List.length_cons] at q3; omega); omega
        omega)
      simp only [List.drop_zero, Int.natCast_zero] at x1 x2
      have hz := psz_zip l l'
      have ih := MRes.mono ((keepV_app h _).trans x3.v) <| IH ((l.zip l').reverse ++ r) P h3 v3 .unk .unk (by rw [psz_append, psz_rev]; omega) (by omega) (by
        intro y hy
        rcases List.mem_append.1 hy with hy | hy
        · have := List.of_mem_zip (List.mem_reverse.1 hy)
          exact ⟨fits_mem q4 _ this.1, fits_mem r4 _ this.2⟩
        · exact hst' y hy) hP (x3.2 M _ (gm _) (by simp) (by simp)) x2
      generalize mS f ((l.zip l').reverse ++ r) P = o at *
      refine Eq.mp (congrArg (fun x => MRes M h x o) ?_) ih
      symm
      simp (implicitDefEqProofs := false) (disch := first | omega | exact List.length_set) only [go_sem, Nat.reduceAdd, Nat.reduceSub, Nat.reduceMul, Nat.reduceLT, Nat.reduceLeDiff, Nat.reduceEqDiff, List.drop_zero, List.take_succ_cons, List.take_zero, List.drop_succ_cons, Bool.and_true, Bool.true_and, Bool.and_false, Bool.false_and, BitVec.reduceOfInt, Nat.zero_add, Nat.mul_one, Nat.add_zero, Int.zero_add, Int.reduceToNat, Nat.reducePow, ↓reduceIte, reduceCtorEq, Int.reduceLE, Int.reduceLT, Int.reduceEq, Int.reduceNe, Int.reduceAdd, Int.reduceSub, Int.reduceMul, Int.reduceNeg, Nat.reduceBEq, show regOf Tryd.f27 5 = Code.region _ _ _ from rfl, show regOf Tryd.f27 6 = Code.region _ _ _ from rfl, hk, hln, htn, Nat.sub_zero, sb_get0, sb_get1]
      have h6 : ((l.length : Int) = (l'.length : Int)) = True := by simp [h5]
      simp (implicitDefEqProofs := false) (disch := first | omega | exact List.length_set) only [go_sem, Nat.reduceAdd, Nat.reduceSub, Nat.reduceMul, Nat.reduceLT, Nat.reduceLeDiff, Nat.reduceEqDiff, List.drop_zero, List.take_succ_cons, List.take_zero, List.drop_succ_cons, Bool.and_true, Bool.true_and, Bool.and_false, Bool.false_and, BitVec.reduceOfInt, Nat.zero_add, Nat.mul_one, Nat.add_zero, Int.zero_add, Int.reduceToNat, Nat.reducePow, ↓reduceIte, reduceCtorEq, Int.reduceLE, Int.reduceLT, Int.reduceEq, Int.reduceNe, Int.reduceAdd, Int.reduceSub, Int.reduceMul, Int.reduceNeg, Nat.reduceBEq, show regOf Tryd.f27 11 = Code.region _ _ _ from rfl, show regOf Tryd.f27 13 = Code.region _ _ _ from rfl, h6, List.length_map, sb_get0, sb_get1, x1]
    · have em : mS (f + 1) ((⟨k, p, m, n, l⟩, ⟨k', p', m', n', l'⟩) :: r) P = none := by
        rw [mS]
        rw [if_neg (show ¬ (Tm.kind ⟨k, p, m, n, l⟩ = 1) from hk)]
        exact if_neg hall
      rw [em]
      clear em
      unfold MRes
      dsimp only
      simp (implicitDefEqProofs := false) (disch := first | omega | exact List.length_set) only [go_sem, Nat.reduceAdd, Nat.reduceSub, Nat.reduceMul, Nat.reduceLT, Nat.reduceLeDiff, Nat.reduceEqDiff, List.drop_zero, List.take_succ_cons, List.take_zero, List.drop_succ_cons, Bool.and_true, Bool.true_and, Bool.and_false, Bool.false_and, BitVec.reduceOfInt, Nat.zero_add, Nat.mul_one, Nat.add_zero, Int.zero_add, Int.reduceToNat, Nat.reducePow, ↓reduceIte, reduceCtorEq, Int.reduceLE, Int.reduceLT, Int.reduceEq, Int.reduceNe, Int.reduceAdd, Int.reduceSub, Int.reduceMul, Int.reduceNeg, Nat.reduceBEq, show regOf Tryd.f27 5 = Code.region _ _ _ from rfl, show regOf Tryd.f27 6 = Code.region _ _ _ from rfl, hk, hln, htn, Nat.sub_zero, sb_get0, sb_get1]
      by_cases h1 : k = k'
      · by_cases h2 : p = p'
        · by_cases h3 : m = m'
          · by_cases h4 : n = n'
            · have h5 : ¬ (l.length : Int) = (l'.length : Int) := fun h => hall ⟨h1, h2, h3, h4, by omega⟩
              simp (implicitDefEqProofs := false) (disch := first | omega | exact List.length_set) only [go_sem, Nat.reduceAdd, Nat.reduceSub, Nat.reduceMul, Nat.reduceLT, Nat.reduceLeDiff, Nat.reduceEqDiff, List.drop_zero, List.take_succ_cons, List.take_zero, List.drop_succ_cons, Bool.and_true, Bool.true_and, Bool.and_false, Bool.false_and, BitVec.reduceOfInt, Nat.zero_add, Nat.mul_one, Nat.add_zero, Int.zero_add, Int.reduceToNat, Nat.reducePow, ↓reduceIte, reduceCtorEq, Int.reduceLE, Int.reduceLT, Int.reduceEq, Int.reduceNe, Int.reduceAdd, Int.reduceSub, Int.reduceMul, Int.reduceNeg, Nat.reduceBEq, show regOf Tryd.f27 11 = Code.region _ _ _ from rfl, show regOf Tryd.f27 12 = Code.region _ _ _ from rfl, h1, h2, h3, h4, h5, hp, hmm, List.length_map, sb_get0, sb_get1]
              exact ⟨_, _, rfl, rfl, rfl, keepV_app h _⟩
            · simp (implicitDefEqProofs := false) (disch := first | omega | exact List.length_set) only [go_sem, Nat.reduceAdd, Nat.reduceSub, Nat.reduceMul, Nat.reduceLT, Nat.reduceLeDiff, Nat.reduceEqDiff, List.drop_zero, List.take_succ_cons, List.take_zero, List.drop_succ_cons, Bool.and_true, Bool.true_and, Bool.and_false, Bool.false_and, BitVec.reduceOfInt, Nat.zero_add, Nat.mul_one, Nat.add_zero, Int.zero_add, Int.reduceToNat, Nat.reducePow, ↓reduceIte, reduceCtorEq, Int.reduceLE, Int.reduceLT, Int.reduceEq, Int.reduceNe, Int.reduceAdd, Int.reduceSub, Int.reduceMul, Int.reduceNeg, Nat.reduceBEq, show regOf Tryd.f27 11 = Code.region _ _ _ from rfl, show regOf Tryd.f27 12 = Code.region _ _ _ from rfl, h1, h2, h3, h4, hp, hmm, List.length_map, sb_get0, sb_get1]
              exact ⟨_, _, rfl, rfl, rfl, keepV_app h _⟩
          · simp (implicitDefEqProofs := false) (disch := first | omega | exact List.length_set) only [go_sem, Nat.reduceAdd, Nat.reduceSub, Nat.reduceMul, Nat.reduceLT, Nat.reduceLeDiff, Nat.reduceEqDiff, List.drop_zero, List.take_succ_cons, List.take_zero, List.drop_succ_cons, Bool.and_true, Bool.true_and, Bool.and_false, Bool.false_and, BitVec.reduceOfInt, Nat.zero_add, Nat.mul_one, Nat.add_zero, Int.zero_add, Int.reduceToNat, Nat.reducePow, ↓reduceIte, reduceCtorEq, Int.reduceLE, Int.reduceLT, Int.reduceEq, Int.reduceNe, Int.reduceAdd, Int.reduceSub, Int.reduceMul, Int.reduceNeg, Nat.reduceBEq, show regOf Tryd.f27 11 = Code.region _ _ _ from rfl, show regOf Tryd.f27 12 = Code.region _ _ _ from rfl, h1, h2, h3, hp, hmm, List.length_map, sb_get0, sb_get1]
            exact ⟨_, _, rfl, rfl, rfl, keepV_app h _⟩
        · simp (implicitDefEqProofs := false) (disch := first | omega | exact List.length_set) only [go_sem, Nat.reduceAdd, Nat.reduceSub, Nat.reduceMul, Nat.reduceLT, Nat.reduceLeDiff, Nat.reduceEqDiff, List.drop_zero, List.take_succ_cons, List.take_zero, List.drop_succ_cons, Bool.and_true, Bool.true_and, Bool.and_false, Bool.false_and, BitVec.reduceOfInt, Nat.zero_add, Nat.mul_one, Nat.add_zero, Int.zero_add, Int.reduceToNat, Nat.reducePow, ↓reduceIte, reduceCtorEq, Int.reduceLE, Int.reduceLT, Int.reduceEq, Int.reduceNe, Int.reduceAdd, Int.reduceSub, Int.reduceMul, Int.reduceNeg, Nat.reduceBEq, show regOf Tryd.f27 11 = Code.region _ _ _ from rfl, show regOf Tryd.f27 12 = Code.region _ _ _ from rfl, h1, h2, hp, hmm, List.length_map, sb_get0, sb_get1]
          exact ⟨_, _, rfl, rfl, rfl, keepV_app h _⟩
      · simp (implicitDefEqProofs := false) (disch := first | omega | exact List.length_set) only [go_sem, Nat.reduceAdd, Nat.reduceSub, Nat.reduceMul, Nat.reduceLT, Nat.reduceLeDiff, Nat.reduceEqDiff, List.drop_zero, List.take_succ_cons, List.take_zero, List.drop_succ_cons, Bool.and_true, Bool.true_and, Bool.and_false, Bool.false_and, BitVec.reduceOfInt, Nat.zero_add, Nat.mul_one, Nat.add_zero, Int.zero_add, Int.reduceToNat, Nat.reducePow, ↓reduceIte, reduceCtorEq, Int.reduceLE, Int.reduceLT, Int.reduceEq, Int.reduceNe, Int.reduceAdd, Int.reduceSub, Int.reduceMul, Int.reduceNeg, Nat.reduceBEq, show regOf Tryd.f27 11 = Code.region _ _ _ from rfl, show regOf Tryd.f27 12 = Code.region _ _ _ from rfl, h1, hp, hmm, List.length_map, sb_get0, sb_get1]
        exact ⟨_, _, rfl, rfl, rfl, keepV_app h _⟩
theorem m_loop {M : Nat} : ∀ f, MAll M f
  | f, [], P, h, v, a4, a5, hs, hf, hst, hP, hm, hT => m_nil f P h v a4 a5 hm hT
  | 0, x :: r, P, h, v, a4, a5, hs, hf, hst, hP, hm, hT => by
    have := tsz_pos x.1
    simp only [psz] at hs; omega
  | f + 1, (⟨k, p, m, n, l⟩, ⟨k', p', m', n', l'⟩) :: r, P, h, v, a4, a5, hs, hf, hst, hP, hm, hT => m_step (m_loop f) k p m n l k' p' m' n' l' r P h v a4 a5 hs hf hst hP hm hT
end Go.Proofs.YtedapgcaibbhoaaDoor
