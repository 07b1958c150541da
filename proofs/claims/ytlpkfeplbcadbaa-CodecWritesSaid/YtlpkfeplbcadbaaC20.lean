/- CodecWrites, by rounds: what was written is read back. -/
import Derived.Test.YtlpkfeplbcadbaaC19
namespace Go.Proofs.Ytlpkfeplbcadbaa
open Go Go.Ab Go.Proofs
set_option maxRecDepth 100000
set_option linter.unusedSimpArgs false
set_option linter.unusedVariables false
theorem uvarN_pos (y : Nat) : 0 < (uvarN y).length := by
  obtain ⟨p, c, e, _⟩ := uvarN_form y
  rw [e]; simp
theorem u_back (x : BitVec 64) (r : List UInt8) : uA (uvarN x.toNat ++ r) false = x ∧ uS (uvarN x.toNat ++ r) false = (r, false) := by
  have hp := uvarN_pos x.toNat
  unfold uA uS uAns uRest
  rw [goU_back]
  refine ⟨rfl, ?_⟩
  rw [if_neg (by simp)]
  dsimp only
  rw [if_neg (by omega), List.drop_left]
theorem t_back (t r : List UInt8) (ht : t.length ≤ 100000) : tA (textL t ++ r) false = t ∧ tS (textL t ++ r) false = (r, false) := by
  have hlen : (BitVec.ofNat 64 t.length).toNat = t.length := by rw [BitVec.toNat_ofNat]; exact Nat.mod_eq_of_lt (by omega)
  have e := u_back (BitVec.ofNat 64 t.length) (t ++ r)
  rw [hlen, ← List.append_assoc] at e
  have e1 : uA (textL t ++ r) false = BitVec.ofNat 64 t.length := e.1
  have e2 : uS (textL t ++ r) false = (t ++ r, false) := e.2
  unfold tA tS
  rw [e1, e2, hlen]
  dsimp only
  rw [if_neg (by simp), if_neg (by simp), List.take_left, List.drop_left]
  exact ⟨rfl, rfl⟩
theorem enc_len (i : Itm) (hs : i.s.length ≤ 9000) : (enc i).length ≤ 10 + i.s.length := by
  have h1 := uvarN_len i.u.toNat i.u.isLt
  have z := zigN_range i.hn.1 i.hn.2
  have h2 := uvarN_len (zigN i.n).toNat (by omega)
  have h3 := uvarN_len i.s.length (by omega)
  unfold enc textL
  split
  · omega
  · split
    · omega
    · rw [List.length_append]; omega
def encs (l : List Itm) : List UInt8 := (l.map enc).flatten
theorem cw_end (l : List Itm) {h : AHeap} {w : List UInt8} :
    lrun Try.prog md fg (fg 8) (loopOf Try.f8 0) (fg 8 1) ([.slc false (l.map Itm.v), .unk, .unk, .ptr 0 0, .str (txt w), .unk, .unk, .unk, .unk, .unk, .unk, .unk, .unk, .unk, .unk, .unk, .slc false (l.map Itm.v), .int l.length, .int l.length, .unk, .unk, .unk, .unk, .unk, .unk, .unk, .unk, .unk, .unk, .unk, .unk, .unk, .unk, .unk, .unk, .unk, .unk, .unk, .unk, .unk, .unk, .unk, .unk, .unk, .unk, .unk, .unk, .unk, .unk, .unk, .unk, .unk, .unk, .unk, .unk, .unk, .unk, .unk, .unk, .unk, .unk, .unk, .unk, .unk, .unk, .unk, .unk, .unk, .unk, .unk, .unk, .unk, .unk, .unk, .unk, .unk, .unk, .unk, .unk, .unk, .unk, .unk, .unk, .unk, .unk, .unk, .unk, .unk, .unk, .unk, .unk, .unk, .unk, .unk, .unk, .unk, .unk, .unk, .unk, .unk, .unk, .unk, .unk, .unk, .unk, .unk, .unk, .unk, .unk, .unk, .unk, .unk, .unk, .unk, .unk, .unk, .unk, .unk, .unk, .unk, .unk, .unk]) h = some (.exit 0, [.slc false (l.map Itm.v), .unk, .unk, .ptr 0 0, .str (txt w), .unk, .unk, .unk, .unk, .unk, .unk, .unk, .unk, .unk, .unk, .unk, .slc false (l.map Itm.v), .int l.length, .int l.length, .unk, .unk, .unk, .unk, .unk, .unk, .unk, .unk, .unk, .unk, .unk, .unk, .unk, .unk, .unk, .unk, .unk, .unk, .unk, .unk, .unk, .unk, .unk, .unk, .unk, .unk, .unk, .unk, .unk, .unk, .unk, .unk, .unk, .unk, .unk, .unk, .unk, .unk, .unk, .unk, .unk, .unk, .unk, .unk, .unk, .unk, .unk, .unk, .unk, .unk, .unk, .unk, .unk, .unk, .unk, .unk, .unk, .unk, .unk, .unk, .unk, .unk, .unk, .unk, .unk, .unk, .unk, .unk, .unk, .unk, .unk, .unk, .unk, .unk, .unk, .unk, .unk, .unk, .unk, .unk, .unk, .unk, .unk, .unk, .unk, .unk, .unk, .unk, .unk, .unk, .unk, .unk, .unk, .unk, .unk, .unk, .unk, .unk, .unk, .unk, .unk, .unk, .unk], h) := by
  rw [lrun_atC loop8_0]
  simp (implicitDefEqProofs := false) (disch := omega) only [go_sem, Nat.reduceAdd, Nat.reduceSub, Nat.reduceMul, Nat.reduceLT, Nat.reduceLeDiff, Nat.reduceEqDiff, List.drop_zero, List.take_succ_cons, List.take_zero, List.drop_succ_cons, Bool.and_true, Bool.true_and, Bool.and_false, Bool.false_and, BitVec.reduceOfInt, Nat.zero_add, Nat.mul_one, Nat.add_zero, Int.zero_add, Int.reduceToNat, Nat.reducePow, ↓reduceIte, reduceCtorEq, Int.reduceLE, Int.reduceLT, Int.reduceEq, Int.reduceNe, Int.reduceAdd, Int.reduceSub, Int.reduceMul, Int.reduceNeg, Nat.reduceBEq, show regOf Try.f8 6 = Code.region _ _ _ from rfl]
theorem itN_le (l : List Itm) (i : Itm) (h : i ∈ l) : min i.s.length 100000 ≤ itN l := by
  unfold itN
  induction l with
  | nil => cases h
  | cons a r ih =>
    rw [List.map_cons, List.sum_cons]
    rcases List.mem_cons.mp h with rfl | h
    · omega
    · have := ih h
      omega
theorem cw_loop (l : List Itm) (h60 : l.length ≤ 60) (hN : itN l ≤ 3000) : ∀ (m k : Nat) (h : AHeap) (w : List UInt8), k + m = l.length → WB h 0 w → w.length + 10 * m + itN (l.drop k) ≤ 90000 →
    ∃ h', WB h' 0 (w ++ encs (l.drop k)) ∧
    lrun Try.prog md fg (fg 8) (loopOf Try.f8 0) (fg 8 1) ([.slc false (l.map Itm.v), .unk, .unk, .ptr 0 0, .str (txt w), .unk, .unk, .unk, .unk, .unk, .unk, .unk, .unk, .unk, .unk, .unk, .slc false (l.map Itm.v), .int l.length, .int k, .unk, .unk, .unk, .unk, .unk, .unk, .unk, .unk, .unk, .unk, .unk, .unk, .unk, .unk, .unk, .unk, .unk, .unk, .unk, .unk, .unk, .unk, .unk, .unk, .unk, .unk, .unk, .unk, .unk, .unk, .unk, .unk, .unk, .unk, .unk, .unk, .unk, .unk, .unk, .unk, .unk, .unk, .unk, .unk, .unk, .unk, .unk, .unk, .unk, .unk, .unk, .unk, .unk, .unk, .unk, .unk, .unk, .unk, .unk, .unk, .unk, .unk, .unk, .unk, .unk, .unk, .unk, .unk, .unk, .unk, .unk, .unk, .unk, .unk, .unk, .unk, .unk, .unk, .unk, .unk, .unk, .unk, .unk, .unk, .unk, .unk, .unk, .unk, .unk, .unk, .unk, .unk, .unk, .unk, .unk, .unk, .unk, .unk, .unk, .unk, .unk, .unk, .unk]) h = some (.exit 0, [.slc false (l.map Itm.v), .unk, .unk, .ptr 0 0, .str (txt (w ++ encs (l.drop k))), .unk, .unk, .unk, .unk, .unk, .unk, .unk, .unk, .unk, .unk, .unk, .slc false (l.map Itm.v), .int l.length, .int l.length, .unk, .unk, .unk, .unk, .unk, .unk, .unk, .unk, .unk, .unk, .unk, .unk, .unk, .unk, .unk, .unk, .unk, .unk, .unk, .unk, .unk, .unk, .unk, .unk, .unk, .unk, .unk, .unk, .unk, .unk, .unk, .unk, .unk, .unk, .unk, .unk, .unk, .unk, .unk, .unk, .unk, .unk, .unk, .unk, .unk, .unk, .unk, .unk, .unk, .unk, .unk, .unk, .unk, .unk, .unk, .unk, .unk, .unk, .unk, .unk, .unk, .unk, .unk, .unk, .unk, .unk, .unk, .unk, .unk, .unk, .unk, .unk, .unk, .unk, .unk, .unk, .unk, .unk, .unk, .unk, .unk, .unk, .unk, .unk, .unk, .unk, .unk, .unk, .unk, .unk, .unk, .unk, .unk, .unk, .unk, .unk, .unk, .unk, .unk, .unk, .unk, .unk, .unk], h')
  | 0, k, h, w, hm, hw, hl => by
    obtain rfl : k = l.length := by omega
    have e : l.drop l.length = [] := List.drop_length
    rw [e]
    simp only [encs, List.map_nil, List.flatten_nil, List.append_nil]
    exact ⟨h, hw, cw_end l⟩
  | m + 1, k, h, w, hm, hw, hl => by
    have hk : k < l.length := by omega
    have hd : l.drop k = l[k] :: l.drop (k + 1) := List.drop_eq_getElem_cons hk
    have hi := itN_le l l[k] (List.getElem_mem hk)
    have hs : l[k].s.length ≤ 9000 := by omega
    have he := enc_len l[k] hs
    have hsum : itN (l.drop k) = min l[k].s.length 100000 + itN (l.drop (k + 1)) := by
      rw [hd]; simp only [itN, List.map_cons, List.sum_cons]
    obtain ⟨h1, w1, e1⟩ := cw_round l k hk h60 hw (by omega) hs
    obtain ⟨h2, w2, e2⟩ := cw_loop l h60 hN m (k + 1) h1 (w ++ enc l[k]) (by omega) w1 (by rw [List.length_append]; omega)
    have hw2 : (w ++ enc l[k]) ++ encs (l.drop (k + 1)) = w ++ encs (l.drop k) := by
      rw [hd, List.append_assoc]; simp only [encs, List.map_cons, List.flatten_cons]
    rw [hw2] at w2 e2
    exact ⟨h2, w2, e1.trans e2⟩
theorem cr_round (l : List Itm) (k : Nat) (hk : k < l.length) (h60 : l.length ≤ 60) (hs : l[k].s.length ≤ 9000) {h : AHeap} {r : Nat} {rest : List UInt8} (hr : hget h r = RO (enc l[k] ++ rest) false) (hrl : r < h.length) (hlen : (enc l[k] ++ rest).length ≤ 90000) :
    ∃ h', hget h' r = RO rest false ∧ r < h'.length ∧
    lrun Try.prog md fg (fg 8) (loopOf Try.f8 3) (fg 8 4) ([.unk, .unk, .unk, .unk, .unk, .unk, .unk, .ptr r 0, .unk, .unk, .unk, .unk, .unk, .unk, .unk, .unk, .unk, .unk, .unk, .unk, .unk, .unk, .unk, .unk, .unk, .unk, .unk, .unk, .unk, .unk, .unk, .unk, .unk, .unk, .unk, .unk, .unk, .unk, .unk, .unk, .unk, .unk, .unk, .unk, .unk, .unk, .unk, .unk, .unk, .unk, .unk, .unk, .unk, .unk, .unk, .unk, .unk, .unk, .unk, .unk, .unk, .unk, .unk, .unk, .unk, .unk, .slc false (l.map Itm.v), .int l.length, .int k, .unk, .unk, .unk, .unk, .unk, .unk, .unk, .unk, .unk, .unk, .unk, .unk, .unk, .unk, .unk, .unk, .unk, .unk, .unk, .unk, .unk, .unk, .unk, .unk, .unk, .unk, .unk, .unk, .unk, .unk, .unk, .unk, .unk, .unk, .unk, .unk, .unk, .unk, .unk, .unk, .unk, .unk, .unk, .unk, .unk, .unk, .unk, .unk, .unk, .unk, .unk, .unk, .unk]) h = lrun Try.prog md fg (fg 8) (loopOf Try.f8 3) (fg 8 4) ([.unk, .unk, .unk, .unk, .unk, .unk, .unk, .ptr r 0, .unk, .unk, .unk, .unk, .unk, .unk, .unk, .unk, .unk, .unk, .unk, .unk, .unk, .unk, .unk, .unk, .unk, .unk, .unk, .unk, .unk, .unk, .unk, .unk, .unk, .unk, .unk, .unk, .unk, .unk, .unk, .unk, .unk, .unk, .unk, .unk, .unk, .unk, .unk, .unk, .unk, .unk, .unk, .unk, .unk, .unk, .unk, .unk, .unk, .unk, .unk, .unk, .unk, .unk, .unk, .unk, .unk, .unk, .slc false (l.map Itm.v), .int l.length, .int ((k + 1 : Nat) : Int), .unk, .unk, .unk, .unk, .unk, .unk, .unk, .unk, .unk, .unk, .unk, .unk, .unk, .unk, .unk, .unk, .unk, .unk, .unk, .unk, .unk, .unk, .unk, .unk, .unk, .unk, .unk, .unk, .unk, .unk, .unk, .unk, .unk, .unk, .unk, .unk, .unk, .unk, .unk, .unk, .unk, .unk, .unk, .unk, .unk, .unk, .unk, .unk, .unk, .unk, .unk, .unk, .unk]) h' := by
  obtain ⟨i, hi⟩ : ∃ i, l[k] = i := ⟨_, rfl⟩
  have hkk : l[k]? = some i := by rw [List.getElem?_eq_getElem hk, hi]
  rw [hi] at hs hr hlen
  have hne : ¬ r = h.length := by omega
  have hlast : hget (h ++ [AObj.vars i.cells]) h.length = .vars i.cells := hget_last
  have hr1 : hget (h ++ [AObj.vars i.cells]) r = RO (enc i ++ rest) false := by rw [hget_push hrl]; exact hr
  have hrl1 : r < (h ++ [AObj.vars i.cells]).length := by simp; omega
  have hx : hget ((h ++ [AObj.vars i.cells]).set r (RO rest false)) h.length = .vars i.cells := by rw [hget_set_ne hne]; exact hlast
  refine ⟨(h ++ [AObj.vars i.cells]).set r (RO rest false), hget_set_eq hrl1, by simp; omega, ?_⟩
  have i1 := i.hk
  have i2 := i.hn
  by_cases k0 : i.kd = 0
  · have he : enc i = uvarN i.u.toNat := by unfold enc; rw [if_pos k0]
    rw [he] at hr1 hlen
    have c := rU_c hr1 hrl1 (by omega)
    rw [(u_back i.u rest).1, (u_back i.u rest).2] at c
    rw [lrun_atC loop8_3]
    simp (implicitDefEqProofs := false) (disch := omega) only [go_sem, Nat.reduceAdd, Nat.reduceSub, Nat.reduceMul, Nat.reduceLT, Nat.reduceLeDiff, Nat.reduceEqDiff, List.drop_zero, List.take_succ_cons, List.take_zero, List.drop_succ_cons, Bool.and_true, Bool.true_and, Bool.and_false, Bool.false_and, BitVec.reduceOfInt, Nat.zero_add, Nat.mul_one, Nat.add_zero, Int.zero_add, Int.reduceToNat, Nat.reducePow, ↓reduceIte, reduceCtorEq, Int.reduceLE, Int.reduceLT, Int.reduceEq, Int.reduceNe, Int.reduceAdd, Int.reduceSub, Int.reduceMul, Int.reduceNeg, Nat.reduceBEq, show regOf Try.f8 22 = Code.region _ _ _ from rfl, show regOf Try.f8 23 = Code.region _ _ _ from rfl, show regOf Try.f8 24 = Code.region _ _ _ from rfl, show regOf Try.f8 26 = Code.region _ _ _ from rfl, List.getElem?_map, List.length_map, hkk, Itm.v, hget_last, set_last, c, hx, md34, md35, md36, beq_self_eq_true]
    all_goals (congr 1 <;> simp only [List.cons.injEq, AV.val.injEq, Value.int.injEq, Value.bool.injEq, true_and, and_true] <;> omega)
  · by_cases k1 : i.kd = 1
    · have zr := zigN_range i2.1 i2.2
      obtain ⟨y, hy⟩ : ∃ y : BitVec 64, zigN i.n = (y.toNat : Int) := ⟨_, v64_of zr.1 zr.2⟩
      have he : enc i = uvarN y.toNat := by unfold enc; rw [if_neg k0, if_pos k1, hy, Int.toNat_natCast]
      rw [he] at hr1 hlen
      have c := rI_c hr1 hrl1 (by omega)
      rw [(u_back y rest).1, (u_back y rest).2, ← hy] at c
      rw [zag_zig] at c
      rw [lrun_atC loop8_3]
      simp (implicitDefEqProofs := false) (disch := omega) only [go_sem, Nat.reduceAdd, Nat.reduceSub, Nat.reduceMul, Nat.reduceLT, Nat.reduceLeDiff, Nat.reduceEqDiff, List.drop_zero, List.take_succ_cons, List.take_zero, List.drop_succ_cons, Bool.and_true, Bool.true_and, Bool.and_false, Bool.false_and, BitVec.reduceOfInt, Nat.zero_add, Nat.mul_one, Nat.add_zero, Int.zero_add, Int.reduceToNat, Nat.reducePow, ↓reduceIte, reduceCtorEq, Int.reduceLE, Int.reduceLT, Int.reduceEq, Int.reduceNe, Int.reduceAdd, Int.reduceSub, Int.reduceMul, Int.reduceNeg, Nat.reduceBEq, show regOf Try.f8 22 = Code.region _ _ _ from rfl, show regOf Try.f8 23 = Code.region _ _ _ from rfl, show regOf Try.f8 24 = Code.region _ _ _ from rfl, show regOf Try.f8 26 = Code.region _ _ _ from rfl, List.getElem?_map, List.length_map, hkk, Itm.v, hget_last, set_last, c, hx, md34, md35, md36, beq_self_eq_true]
      all_goals (congr 1 <;> simp only [List.cons.injEq, AV.val.injEq, Value.int.injEq, Value.bool.injEq, true_and, and_true] <;> omega)
    · have he : enc i = textL i.s := by unfold enc; rw [if_neg k0, if_neg k1]
      rw [he] at hr1 hlen
      have c := rT_c hr1 hrl1 (by omega)
      rw [(t_back i.s rest (by omega)).1, (t_back i.s rest (by omega)).2] at c
      rw [lrun_atC loop8_3]
      simp (implicitDefEqProofs := false) (disch := omega) only [go_sem, Nat.reduceAdd, Nat.reduceSub, Nat.reduceMul, Nat.reduceLT, Nat.reduceLeDiff, Nat.reduceEqDiff, List.drop_zero, List.take_succ_cons, List.take_zero, List.drop_succ_cons, Bool.and_true, Bool.true_and, Bool.and_false, Bool.false_and, BitVec.reduceOfInt, Nat.zero_add, Nat.mul_one, Nat.add_zero, Int.zero_add, Int.reduceToNat, Nat.reducePow, ↓reduceIte, reduceCtorEq, Int.reduceLE, Int.reduceLT, Int.reduceEq, Int.reduceNe, Int.reduceAdd, Int.reduceSub, Int.reduceMul, Int.reduceNeg, Nat.reduceBEq, show regOf Try.f8 22 = Code.region _ _ _ from rfl, show regOf Try.f8 23 = Code.region _ _ _ from rfl, show regOf Try.f8 24 = Code.region _ _ _ from rfl, show regOf Try.f8 26 = Code.region _ _ _ from rfl, List.getElem?_map, List.length_map, hkk, Itm.v, hget_last, set_last, c, hx, md34, md35, md36, beq_self_eq_true]
      all_goals (congr 1 <;> simp only [List.cons.injEq, AV.val.injEq, Value.int.injEq, Value.bool.injEq, true_and, and_true] <;> omega)
end Go.Proofs.Ytlpkfeplbcadbaa
