/- CodecWrites, by rounds: items, Text, the first loop. -/
import Derived.Test.YtlpkfeplbcadbaaC18
namespace Go.Proofs.Ytlpkfeplbcadbaa
open Go Go.Ab Go.Proofs
set_option maxRecDepth 100000
set_option linter.unusedSimpArgs false
set_option linter.unusedVariables false
/-- An item of the law. -/
structure Itm where
  kd : Int
  u : BitVec 64
  n : Int
  s : List UInt8
  hk : -9223372036854775808 ≤ kd ∧ kd ≤ 9223372036854775807
  hn : -9223372036854775808 ≤ n ∧ n ≤ 9223372036854775807
abbrev Itm.cells (i : Itm) : List AV := [.val (.int .i64 i.kd), .val (.int .u64 (i.u.toNat : Int)), .val (.int .i64 i.n), .val (.string (txt i.s))]
abbrev Itm.v (i : Itm) : AV := .agg i.cells
def itN (l : List Itm) : Nat := (l.map fun i => min i.s.length 100000).sum
theorem it_round (l : List Itm) (i n : Nat) (hi : i < l.length) (hj : i ≤ 60) (hn : n ≤ i * 100000) :
    lrun Try.prog md fg (fg 27) (loopOf Try.f27 0) (fg 27 1) ([.slc false (l.map Itm.v), .unk, .unk, .int n, .int i, .unk, .unk, .unk, .unk, .unk, .unk, .unk, .unk, .unk, .unk, .unk, .unk, .unk, .unk, .unk, .unk, .unk, .unk, .unk, .unk, .unk, .unk, .unk, .unk, .unk, .unk]) [] = lrun Try.prog md fg (fg 27) (loopOf Try.f27 0) (fg 27 1) ([.slc false (l.map Itm.v), .unk, .unk, .int ((n + min l[i].s.length 100000 : Nat) : Int), .int ((i + 1 : Nat) : Int), .unk, .unk, .unk, .unk, .unk, .unk, .unk, .unk, .unk, .unk, .unk, .unk, .unk, .unk, .unk, .unk, .unk, .unk, .unk, .unk, .unk, .unk, .unk, .unk, .unk, .unk]) [] := by
  rw [lrun_atC loop27_0]
  have hz := txt_size l[i].s
  simp (implicitDefEqProofs := false) (disch := omega) only [go_sem, Nat.reduceAdd, Nat.reduceSub, Nat.reduceMul, Nat.reduceLT, Nat.reduceLeDiff, Nat.reduceEqDiff, List.drop_zero, List.take_succ_cons, List.take_zero, List.drop_succ_cons, Bool.and_true, Bool.true_and, Bool.and_false, Bool.false_and, BitVec.reduceOfInt, Nat.zero_add, Nat.mul_one, Nat.add_zero, Int.zero_add, Int.reduceToNat, Nat.reducePow, ↓reduceIte, reduceCtorEq, Int.reduceLE, Int.reduceLT, Int.reduceEq, Int.reduceNe, Int.reduceAdd, Int.reduceSub, Int.reduceMul, Int.reduceNeg, Nat.reduceBEq, show regOf Try.f27 3 = Code.region _ _ _ from rfl, show regOf Try.f27 4 = Code.region _ _ _ from rfl, show regOf Try.f27 5 = Code.region _ _ _ from rfl, List.getElem?_map, List.length_map, List.getElem?_eq_getElem hi, Itm.v, Itm.cells, txt_size]
  all_goals (congr 1 <;> simp only [List.cons.injEq, AV.val.injEq, Value.int.injEq, Value.bool.injEq, true_and, and_true] <;> omega)
theorem it_end (l : List Itm) (i n : Nat) (hi : ¬ (i < l.length ∧ i ≤ 60)) :
    lrun Try.prog md fg (fg 27) (loopOf Try.f27 0) (fg 27 1) ([.slc false (l.map Itm.v), .unk, .unk, .int n, .int i, .unk, .unk, .unk, .unk, .unk, .unk, .unk, .unk, .unk, .unk, .unk, .unk, .unk, .unk, .unk, .unk, .unk, .unk, .unk, .unk, .unk, .unk, .unk, .unk, .unk, .unk]) [] = some (.exit 0, [.slc false (l.map Itm.v), .unk, .unk, .int n, .int i, .unk, .unk, .unk, .unk, .unk, .unk, .unk, .unk, .unk, .unk, .unk, .unk, .unk, .unk, .unk, .unk, .unk, .unk, .unk, .unk, .unk, .unk, .unk, .unk, .unk, .unk], []) := by
  rw [lrun_atC loop27_0]
  by_cases h1 : i < l.length
  · simp (implicitDefEqProofs := false) (disch := omega) only [go_sem, Nat.reduceAdd, Nat.reduceSub, Nat.reduceMul, Nat.reduceLT, Nat.reduceLeDiff, Nat.reduceEqDiff, List.drop_zero, List.take_succ_cons, List.take_zero, List.drop_succ_cons, Bool.and_true, Bool.true_and, Bool.and_false, Bool.false_and, BitVec.reduceOfInt, Nat.zero_add, Nat.mul_one, Nat.add_zero, Int.zero_add, Int.reduceToNat, Nat.reducePow, ↓reduceIte, reduceCtorEq, Int.reduceLE, Int.reduceLT, Int.reduceEq, Int.reduceNe, Int.reduceAdd, Int.reduceSub, Int.reduceMul, Int.reduceNeg, Nat.reduceBEq, show regOf Try.f27 3 = Code.region _ _ _ from rfl, show regOf Try.f27 4 = Code.region _ _ _ from rfl, show regOf Try.f27 5 = Code.region _ _ _ from rfl, List.getElem?_map, List.length_map]
  · simp (implicitDefEqProofs := false) (disch := omega) only [go_sem, Nat.reduceAdd, Nat.reduceSub, Nat.reduceMul, Nat.reduceLT, Nat.reduceLeDiff, Nat.reduceEqDiff, List.drop_zero, List.take_succ_cons, List.take_zero, List.drop_succ_cons, Bool.and_true, Bool.true_and, Bool.and_false, Bool.false_and, BitVec.reduceOfInt, Nat.zero_add, Nat.mul_one, Nat.add_zero, Int.zero_add, Int.reduceToNat, Nat.reducePow, ↓reduceIte, reduceCtorEq, Int.reduceLE, Int.reduceLT, Int.reduceEq, Int.reduceNe, Int.reduceAdd, Int.reduceSub, Int.reduceMul, Int.reduceNeg, Nat.reduceBEq, show regOf Try.f27 3 = Code.region _ _ _ from rfl, show regOf Try.f27 4 = Code.region _ _ _ from rfl, show regOf Try.f27 5 = Code.region _ _ _ from rfl, List.getElem?_map, List.length_map]
theorem it_loop (l : List Itm) : ∀ (k i n : Nat), i + k = min l.length 61 → n ≤ i * 100000 → ∃ j : Nat,
    lrun Try.prog md fg (fg 27) (loopOf Try.f27 0) (fg 27 1) ([.slc false (l.map Itm.v), .unk, .unk, .int n, .int i, .unk, .unk, .unk, .unk, .unk, .unk, .unk, .unk, .unk, .unk, .unk, .unk, .unk, .unk, .unk, .unk, .unk, .unk, .unk, .unk, .unk, .unk, .unk, .unk, .unk, .unk]) [] = some (.exit 0, [.slc false (l.map Itm.v), .unk, .unk, .int ((n + itN ((l.drop i).take k) : Nat) : Int), .int j, .unk, .unk, .unk, .unk, .unk, .unk, .unk, .unk, .unk, .unk, .unk, .unk, .unk, .unk, .unk, .unk, .unk, .unk, .unk, .unk, .unk, .unk, .unk, .unk, .unk, .unk], [])
  | 0, i, n, hk, hn => ⟨i, by
      rw [it_end l i n (by omega)]
      simp only [List.take_zero, itN, List.map_nil, List.sum_nil, Nat.add_zero]⟩
  | k + 1, i, n, hk, hn => by
    have hi : i < l.length := by omega
    obtain ⟨j, e⟩ := it_loop l k (i + 1) (n + min l[i].s.length 100000) (by omega) (by omega)
    refine ⟨j, ?_⟩
    rw [it_round l i n hi (by omega) hn, e]
    have : itN ((l.drop i).take (k + 1)) = min l[i].s.length 100000 + itN ((l.drop (i + 1)).take k) := by
      rw [List.drop_eq_getElem_cons hi]; simp only [List.take_succ_cons, itN, List.map_cons, List.sum_cons]
    rw [this, Nat.add_assoc]
def itB (l : List Itm) : Bool := decide (l.length ≤ 60) && decide (itN l ≤ 3000)
theorem items (l : List Itm) : aval Try.prog md fg 27 [.slc false (l.map Itm.v)] [] = some (.val (.bool (itB l)), []) := by
  rw [aval_of Try.func27 body27 Try.results27 Try.ntmps27 ok27]
  obtain ⟨j, e⟩ := it_loop l (min l.length 61) 0 0 (by omega) (by omega)
  simp only [Int.natCast_zero, List.drop_zero, Nat.zero_add] at e
  by_cases h1 : l.length ≤ 60
  · have ht : l.take (min l.length 61) = l := List.take_of_length_le (by omega)
    rw [ht] at e
    by_cases h2 : itN l ≤ 3000
    · simp (implicitDefEqProofs := false) (disch := omega) only [go_sem, Nat.reduceAdd, Nat.reduceSub, Nat.reduceMul, Nat.reduceLT, Nat.reduceLeDiff, Nat.reduceEqDiff, List.drop_zero, List.take_succ_cons, List.take_zero, List.drop_succ_cons, Bool.and_true, Bool.true_and, Bool.and_false, Bool.false_and, BitVec.reduceOfInt, Nat.zero_add, Nat.mul_one, Nat.add_zero, Int.zero_add, Int.reduceToNat, Nat.reducePow, ↓reduceIte, reduceCtorEq, Int.reduceLE, Int.reduceLT, Int.reduceEq, Int.reduceNe, Int.reduceAdd, Int.reduceSub, Int.reduceMul, Int.reduceNeg, Nat.reduceBEq, show regOf Try.f27 0 = Code.region _ _ _ from rfl, show regOf Try.f27 1 = Code.region _ _ _ from rfl, show regOf Try.f27 2 = Code.region _ _ _ from rfl, show regOf Try.f27 3 = Code.region _ _ _ from rfl, show regOf Try.f27 5 = Code.region _ _ _ from rfl, show regOf Try.f27 4 = Code.region _ _ _ from rfl, show regOf Try.f27 6 = Code.region _ _ _ from rfl, e, List.length_map]
      simp [itB, h1, h2]
    · simp (implicitDefEqProofs := false) (disch := omega) only [go_sem, Nat.reduceAdd, Nat.reduceSub, Nat.reduceMul, Nat.reduceLT, Nat.reduceLeDiff, Nat.reduceEqDiff, List.drop_zero, List.take_succ_cons, List.take_zero, List.drop_succ_cons, Bool.and_true, Bool.true_and, Bool.and_false, Bool.false_and, BitVec.reduceOfInt, Nat.zero_add, Nat.mul_one, Nat.add_zero, Int.zero_add, Int.reduceToNat, Nat.reducePow, ↓reduceIte, reduceCtorEq, Int.reduceLE, Int.reduceLT, Int.reduceEq, Int.reduceNe, Int.reduceAdd, Int.reduceSub, Int.reduceMul, Int.reduceNeg, Nat.reduceBEq, show regOf Try.f27 0 = Code.region _ _ _ from rfl, show regOf Try.f27 1 = Code.region _ _ _ from rfl, show regOf Try.f27 2 = Code.region _ _ _ from rfl, show regOf Try.f27 3 = Code.region _ _ _ from rfl, show regOf Try.f27 5 = Code.region _ _ _ from rfl, show regOf Try.f27 4 = Code.region _ _ _ from rfl, show regOf Try.f27 6 = Code.region _ _ _ from rfl, e, List.length_map]
      simp [itB, h1, h2]
  · simp (implicitDefEqProofs := false) (disch := omega) only [go_sem, Nat.reduceAdd, Nat.reduceSub, Nat.reduceMul, Nat.reduceLT, Nat.reduceLeDiff, Nat.reduceEqDiff, List.drop_zero, List.take_succ_cons, List.take_zero, List.drop_succ_cons, Bool.and_true, Bool.true_and, Bool.and_false, Bool.false_and, BitVec.reduceOfInt, Nat.zero_add, Nat.mul_one, Nat.add_zero, Int.zero_add, Int.reduceToNat, Nat.reducePow, ↓reduceIte, reduceCtorEq, Int.reduceLE, Int.reduceLT, Int.reduceEq, Int.reduceNe, Int.reduceAdd, Int.reduceSub, Int.reduceMul, Int.reduceNeg, Nat.reduceBEq, show regOf Try.f27 0 = Code.region _ _ _ from rfl, show regOf Try.f27 1 = Code.region _ _ _ from rfl, show regOf Try.f27 2 = Code.region _ _ _ from rfl, show regOf Try.f27 3 = Code.region _ _ _ from rfl, show regOf Try.f27 5 = Code.region _ _ _ from rfl, show regOf Try.f27 4 = Code.region _ _ _ from rfl, show regOf Try.f27 6 = Code.region _ _ _ from rfl, e, List.length_map]
    simp [itB, h1]
theorem refText_p (t : List UInt8) (ht : t.length ≤ 100000) : pcall Try.prog md fg 31 [.val (.string (txt t))] = some (.val (.string (txt (textL t)))) := by
  rw [pcall_eq]
  rw [aval_of Try.func31 body31 Try.results31 Try.ntmps31 ok31]
  have hlen : (BitVec.ofNat 64 t.length).toNat = t.length := by rw [BitVec.toNat_ofNat]; exact Nat.mod_eq_of_lt (by omega)
  have hu := uvarN_len t.length (by omega)
  have c : doCall md (aval Try.prog md fg) 26 [.val (.int .u64 ((BitVec.ofNat 64 t.length).toNat : Int))] [] = some (.val (.string (txt (uvarN t.length))), []) := doCall_pure md26 rfl ((refUvarint_p _).trans (by unfold uvarT; rw [hlen]; rfl))
  simp (implicitDefEqProofs := false) (disch := omega) only [go_sem, Nat.reduceAdd, Nat.reduceSub, Nat.reduceMul, Nat.reduceLT, Nat.reduceLeDiff, Nat.reduceEqDiff, List.drop_zero, List.take_succ_cons, List.take_zero, List.drop_succ_cons, Bool.and_true, Bool.true_and, Bool.and_false, Bool.false_and, BitVec.reduceOfInt, Nat.zero_add, Nat.mul_one, Nat.add_zero, Int.zero_add, Int.reduceToNat, Nat.reducePow, ↓reduceIte, reduceCtorEq, Int.reduceLE, Int.reduceLT, Int.reduceEq, Int.reduceNe, Int.reduceAdd, Int.reduceSub, Int.reduceMul, Int.reduceNeg, Nat.reduceBEq, show regOf Try.f31 0 = Code.region _ _ _ from rfl, show regOf Try.f31 1 = Code.region _ _ _ from rfl, txt_size, BitVec.ofInt_natCast, c, cat2]
  rw [pureRes_solid rfl]; rfl
/-- What is written of an item. -/
def enc (i : Itm) : List UInt8 := if i.kd = 0 then uvarN i.u.toNat else if i.kd = 1 then uvarN (zigN i.n).toNat else textL i.s
theorem WB_push {h : AHeap} {id : Nat} {l : List UInt8} {o : AObj} (hw : WB h id l) : WB (h ++ [o]) id l := by
  obtain ⟨h1, ⟨h2, h3⟩ | ⟨k, g, hk, hne, hb, hk2⟩⟩ := hw
  · exact ⟨by simp; omega, .inl ⟨by rw [hget_push h1]; exact h2, h3⟩⟩
  · exact ⟨by simp; omega, .inr ⟨k, g, by simp; omega, hne, by rw [hget_push h1]; exact hb, by rw [hget_push hk]; exact hk2⟩⟩
theorem set_last (h : AHeap) (o o' : AObj) : (h ++ [o]).set h.length o' = h ++ [o'] := by
  rw [List.set_append_right _ _ (Nat.le_refl _), Nat.sub_self]; rfl
theorem cw_round (l : List Itm) (k : Nat) (hk : k < l.length) (h60 : l.length ≤ 60) {h : AHeap} {w : List UInt8} (hw : WB h 0 w) (hl : w.length ≤ 90000) (hs : l[k].s.length ≤ 9000) :
    ∃ h', WB h' 0 (w ++ enc l[k]) ∧
    lrun Try.prog md fg (fg 8) (loopOf Try.f8 0) (fg 8 1) ([.slc false (l.map Itm.v), .unk, .unk, .ptr 0 0, .str (txt w), .unk, .unk, .unk, .unk, .unk, .unk, .unk, .unk, .unk, .unk, .unk, .slc false (l.map Itm.v), .int l.length, .int k, .unk, .unk, .unk, .unk, .unk, .unk, .unk, .unk, .unk, .unk, .unk, .unk, .unk, .unk, .unk, .unk, .unk, .unk, .unk, .unk, .unk, .unk, .unk, .unk, .unk, .unk, .unk, .unk, .unk, .unk, .unk, .unk, .unk, .unk, .unk, .unk, .unk, .unk, .unk, .unk, .unk, .unk, .unk, .unk, .unk, .unk, .unk, .unk, .unk, .unk, .unk, .unk, .unk, .unk, .unk, .unk, .unk, .unk, .unk, .unk, .unk, .unk, .unk, .unk, .unk, .unk, .unk, .unk, .unk, .unk, .unk, .unk, .unk, .unk, .unk, .unk, .unk, .unk, .unk, .unk, .unk, .unk, .unk, .unk, .unk, .unk, .unk, .unk, .unk, .unk, .unk, .unk, .unk, .unk, .unk, .unk, .unk, .unk, .unk, .unk, .unk, .unk, .unk]) h = lrun Try.prog md fg (fg 8) (loopOf Try.f8 0) (fg 8 1) ([.slc false (l.map Itm.v), .unk, .unk, .ptr 0 0, .str (txt (w ++ enc l[k])), .unk, .unk, .unk, .unk, .unk, .unk, .unk, .unk, .unk, .unk, .unk, .slc false (l.map Itm.v), .int l.length, .int ((k + 1 : Nat) : Int), .unk, .unk, .unk, .unk, .unk, .unk, .unk, .unk, .unk, .unk, .unk, .unk, .unk, .unk, .unk, .unk, .unk, .unk, .unk, .unk, .unk, .unk, .unk, .unk, .unk, .unk, .unk, .unk, .unk, .unk, .unk, .unk, .unk, .unk, .unk, .unk, .unk, .unk, .unk, .unk, .unk, .unk, .unk, .unk, .unk, .unk, .unk, .unk, .unk, .unk, .unk, .unk, .unk, .unk, .unk, .unk, .unk, .unk, .unk, .unk, .unk, .unk, .unk, .unk, .unk, .unk, .unk, .unk, .unk, .unk, .unk, .unk, .unk, .unk, .unk, .unk, .unk, .unk, .unk, .unk, .unk, .unk, .unk, .unk, .unk, .unk, .unk, .unk, .unk, .unk, .unk, .unk, .unk, .unk, .unk, .unk, .unk, .unk, .unk, .unk, .unk, .unk, .unk]) h' := by
  obtain ⟨i, hi⟩ : ∃ i, l[k] = i := ⟨_, rfl⟩
  have hkk : l[k]? = some i := by rw [List.getElem?_eq_getElem hk, hi]
  rw [hi] at hs ⊢
  have h0 := hw.1
  have w1 : WB (h ++ [.vars i.cells]) 0 w := WB_push hw
  have hne : h.length ≠ 0 := by omega
  have hlast : hget (h ++ [.vars i.cells]) h.length = .vars i.cells := hget_last
  have i1 := i.hk
  have i2 := i.hn
  by_cases k0 : i.kd = 0
  · obtain ⟨h', c, w2, f⟩ := wU_c i.u w1 (by omega)
    have hx := f.2 h.length i.cells hne hlast
    have hu := uvarN_len i.u.toNat i.u.isLt
    have cr : ∀ g, doCall md (aval Try.prog md fg) 26 [.val (.int .u64 (i.u.toNat : Int))] g = some (.val (.string (txt (uvarN i.u.toNat))), g) := fun g => doCall_pure md26 rfl (refUvarint_p _)
    have he : enc i = uvarN i.u.toNat := by unfold enc; rw [if_pos k0]
    rw [he]
    refine ⟨h', w2, ?_⟩
    rw [lrun_atC loop8_0]
    simp (implicitDefEqProofs := false) (disch := omega) only [go_sem, Nat.reduceAdd, Nat.reduceSub, Nat.reduceMul, Nat.reduceLT, Nat.reduceLeDiff, Nat.reduceEqDiff, List.drop_zero, List.take_succ_cons, List.take_zero, List.drop_succ_cons, Bool.and_true, Bool.true_and, Bool.and_false, Bool.false_and, BitVec.reduceOfInt, Nat.zero_add, Nat.mul_one, Nat.add_zero, Int.zero_add, Int.reduceToNat, Nat.reducePow, ↓reduceIte, reduceCtorEq, Int.reduceLE, Int.reduceLT, Int.reduceEq, Int.reduceNe, Int.reduceAdd, Int.reduceSub, Int.reduceMul, Int.reduceNeg, Nat.reduceBEq, show regOf Try.f8 6 = Code.region _ _ _ from rfl, show regOf Try.f8 7 = Code.region _ _ _ from rfl, show regOf Try.f8 8 = Code.region _ _ _ from rfl, show regOf Try.f8 11 = Code.region _ _ _ from rfl, show regOf Try.f8 12 = Code.region _ _ _ from rfl, show regOf Try.f8 13 = Code.region _ _ _ from rfl, show regOf Try.f8 17 = Code.region _ _ _ from rfl, List.getElem?_map, List.length_map, hkk, Itm.v, hget_last, set_last, c, hx, cr, cat2]
    all_goals (congr 1 <;> simp only [List.cons.injEq, AV.val.injEq, Value.int.injEq, Value.bool.injEq, true_and, and_true] <;> omega)
  · by_cases k1 : i.kd = 1
    · obtain ⟨h', c, w2, f⟩ := wI_c i2.1 i2.2 w1 (by omega)
      have hx := f.2 h.length i.cells hne hlast
      have zr := zigN_range i2.1 i2.2
      have hu := uvarN_len (zigN i.n).toNat (by omega)
      obtain ⟨y, hy⟩ : ∃ y : BitVec 64, zigN i.n = (y.toNat : Int) := ⟨_, v64_of zr.1 zr.2⟩
      have cz : ∀ g, doCall md (aval Try.prog md fg) 16 [.val (.int .i64 i.n)] g = some (.val (.int .u64 (y.toNat : Int)), g) := fun g => doCall_pure md16 rfl ((refZig_p i2.1 i2.2).trans (by rw [hy]))
      have cr : ∀ g, doCall md (aval Try.prog md fg) 26 [.val (.int .u64 (y.toNat : Int))] g = some (.val (.string (txt (uvarN (zigN i.n).toNat))), g) := fun g => doCall_pure md26 rfl ((refUvarint_p _).trans (by unfold uvarT; rw [hy, Int.toNat_natCast]; rfl))
      have he : enc i = uvarN (zigN i.n).toNat := by unfold enc; rw [if_neg k0, if_pos k1]
      rw [he]
      refine ⟨h', w2, ?_⟩
      rw [lrun_atC loop8_0]
      simp (implicitDefEqProofs := false) (disch := omega) only [go_sem, Nat.reduceAdd, Nat.reduceSub, Nat.reduceMul, Nat.reduceLT, Nat.reduceLeDiff, Nat.reduceEqDiff, List.drop_zero, List.take_succ_cons, List.take_zero, List.drop_succ_cons, Bool.and_true, Bool.true_and, Bool.and_false, Bool.false_and, BitVec.reduceOfInt, Nat.zero_add, Nat.mul_one, Nat.add_zero, Int.zero_add, Int.reduceToNat, Nat.reducePow, ↓reduceIte, reduceCtorEq, Int.reduceLE, Int.reduceLT, Int.reduceEq, Int.reduceNe, Int.reduceAdd, Int.reduceSub, Int.reduceMul, Int.reduceNeg, Nat.reduceBEq, show regOf Try.f8 6 = Code.region _ _ _ from rfl, show regOf Try.f8 7 = Code.region _ _ _ from rfl, show regOf Try.f8 8 = Code.region _ _ _ from rfl, show regOf Try.f8 11 = Code.region _ _ _ from rfl, show regOf Try.f8 14 = Code.region _ _ _ from rfl, show regOf Try.f8 15 = Code.region _ _ _ from rfl, show regOf Try.f8 16 = Code.region _ _ _ from rfl, show regOf Try.f8 17 = Code.region _ _ _ from rfl, List.getElem?_map, List.length_map, hkk, Itm.v, hget_last, set_last, c, hx, cz, cr, cat2]
      all_goals (congr 1 <;> simp only [List.cons.injEq, AV.val.injEq, Value.int.injEq, Value.bool.injEq, true_and, and_true] <;> omega)
    · obtain ⟨h', c, w2, f⟩ := wT_c (t := i.s) w1 (by omega) (by omega)
      have hx := f.2 h.length i.cells hne hlast
      have hu := uvarN_len i.s.length (by omega)
      have hlen : (textL i.s).length = (uvarN i.s.length).length + i.s.length := List.length_append
      have cr : ∀ g, doCall md (aval Try.prog md fg) 31 [.val (.string (txt i.s))] g = some (.val (.string (txt (textL i.s))), g) := fun g => doCall_pure md31 rfl (refText_p _ (by omega))
      have he : enc i = textL i.s := by unfold enc; rw [if_neg k0, if_neg k1]
      rw [he]
      refine ⟨h', w2, ?_⟩
      rw [lrun_atC loop8_0]
      simp (implicitDefEqProofs := false) (disch := omega) only [go_sem, Nat.reduceAdd, Nat.reduceSub, Nat.reduceMul, Nat.reduceLT, Nat.reduceLeDiff, Nat.reduceEqDiff, List.drop_zero, List.take_succ_cons, List.take_zero, List.drop_succ_cons, Bool.and_true, Bool.true_and, Bool.and_false, Bool.false_and, BitVec.reduceOfInt, Nat.zero_add, Nat.mul_one, Nat.add_zero, Int.zero_add, Int.reduceToNat, Nat.reducePow, ↓reduceIte, reduceCtorEq, Int.reduceLE, Int.reduceLT, Int.reduceEq, Int.reduceNe, Int.reduceAdd, Int.reduceSub, Int.reduceMul, Int.reduceNeg, Nat.reduceBEq, show regOf Try.f8 6 = Code.region _ _ _ from rfl, show regOf Try.f8 7 = Code.region _ _ _ from rfl, show regOf Try.f8 8 = Code.region _ _ _ from rfl, show regOf Try.f8 11 = Code.region _ _ _ from rfl, show regOf Try.f8 14 = Code.region _ _ _ from rfl, show regOf Try.f8 9 = Code.region _ _ _ from rfl, show regOf Try.f8 10 = Code.region _ _ _ from rfl, show regOf Try.f8 17 = Code.region _ _ _ from rfl, List.getElem?_map, List.length_map, hkk, Itm.v, hget_last, set_last, c, hx, cr, cat2]
      all_goals (congr 1 <;> simp only [List.cons.injEq, AV.val.injEq, Value.int.injEq, Value.bool.injEq, true_and, and_true] <;> omega)
end Go.Proofs.Ytlpkfeplbcadbaa
