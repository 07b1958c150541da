/- Fixed and GetFixed by rounds; CodecFixed. -/
import Derived.Test.YtlpkfeplbcadbaaC7
namespace Go.Proofs.Ytlpkfeplbcadbaa
open Go Go.Ab Go.Proofs
set_option maxRecDepth 100000
set_option linter.unusedSimpArgs false
/-- A text of these bytes. -/
def txt (l : List UInt8) : ByteArray := ⟨l.toArray⟩
theorem txt_of (s : ByteArray) : ∃ l, s = txt l := ⟨s.data.toList, by apply ByteArray.ext; simp [txt]⟩
theorem txt_list (l : List UInt8) : (txt l).data.toList = l := by simp [txt]
theorem txt_size (l : List UInt8) : (txt l).size = l.length := by rw [← size_toList, txt_list]
theorem txt_append (a b : List UInt8) : txt a ++ txt b = txt (a ++ b) := by
  apply ByteArray.ext
  have : (txt a ++ txt b).data = (txt a).data ++ (txt b).data := ByteArray.data_append ..
  rw [this]; apply Array.ext'; simp [txt]
theorem txt_extract (l : List UInt8) (a b : Nat) : (txt l).extract a b = txt ((l.drop a).take (b - a)) := by
  apply ByteArray.ext
  rw [ByteArray.data_extract]
  apply Array.ext'
  simp [txt]
theorem cat1 {P : Program} (t : TypeId) (a : List UInt8) (b : UInt8) (hl : a.length + 1 ≤ 9223372036854775807) : abin P .add t (.val (.string (txt a))) (.val (.string ⟨#[b]⟩)) = some (.val (.string (txt (a ++ [b])))) := by
  have e : (⟨#[b]⟩ : ByteArray) = txt [b] := rfl
  rw [e, abin_cat _ _ _ (by rw [txt_size, txt_size]; exact hl), txt_append]
theorem cat2 {P : Program} (t : TypeId) (a b : List UInt8) (hl : a.length + b.length ≤ 9223372036854775807) : abin P .add t (.val (.string (txt a))) (.val (.string (txt b))) = some (.val (.string (txt (a ++ b)))) := by
  rw [abin_cat _ _ _ (by rw [txt_size, txt_size]; exact hl), txt_append]
theorem or_add (x y : BitVec 32) (k : Nat) (hx : x.toNat < 2 ^ k) (hy : y.toNat * 2 ^ k < 2 ^ 32) : (x ||| y <<< k).toNat = x.toNat + y.toNat * 2 ^ k := by
  rw [BitVec.toNat_or, BitVec.toNat_shiftLeft, Nat.shiftLeft_eq, Nat.mod_eq_of_lt hy, Nat.or_comm, ← Nat.shiftLeft_eq, ← Nat.shiftLeft_add_eq_or_of_lt hx, Nat.add_comm]
/-- The number of four bytes. -/
def fixN (a b c d : UInt8) : BitVec 32 := BitVec.ofNat 32 (a.toNat + 256 * b.toNat + 65536 * c.toNat + 16777216 * d.toNat)
def getF : List UInt8 → BitVec 32
  | a :: b :: c :: d :: _ => fixN a b c d
  | _ => 0#32
theorem or_fix (a b c d : UInt8) : (a.toBitVec.setWidth 32 ||| b.toBitVec.setWidth 32 <<< 8 ||| c.toBitVec.setWidth 32 <<< 16 ||| d.toBitVec.setWidth 32 <<< 24 : BitVec 32) = fixN a b c d := by
  have hw : ∀ x : UInt8, (x.toBitVec.setWidth 32 : BitVec 32).toNat = x.toNat := fun x => by
    rw [BitVec.toNat_setWidth]; exact Nat.mod_eq_of_lt (Nat.lt_trans x.toBitVec.isLt (by decide))
  have ha := a.toNat_lt; have hb := b.toNat_lt; have hc := c.toNat_lt; have hd := d.toNat_lt
  have h1 : (a.toBitVec.setWidth 32 ||| b.toBitVec.setWidth 32 <<< 8 : BitVec 32).toNat = a.toNat + b.toNat * 256 := by
    rw [or_add _ _ 8 (by rw [hw]; omega) (by rw [hw]; omega), hw, hw]
  have h2 : (a.toBitVec.setWidth 32 ||| b.toBitVec.setWidth 32 <<< 8 ||| c.toBitVec.setWidth 32 <<< 16 : BitVec 32).toNat = a.toNat + b.toNat * 256 + c.toNat * 65536 := by
    rw [or_add _ _ 16 (by rw [h1]; omega) (by rw [hw]; omega), h1, hw]
  apply BitVec.eq_of_toNat_eq
  rw [or_add _ _ 24 (by rw [h2]; omega) (by rw [hw]; omega), h2, hw, fixN, BitVec.toNat_ofNat]
  omega
theorem getFixed_p (l : List UInt8) (hl : l.length < 2 ^ 62) : pcall Try.prog md fg 19 [.str (txt l)] = some (.tup [v32 (getF l), .bool (decide (4 ≤ l.length))]) := by
  rw [pcall_eq]
  rw [aval_of Try.func19 body19 Try.results19 Try.ntmps19 ok19]
  have hz := txt_size l
  by_cases h : 4 ≤ l.length
  · match l, h with
    | a :: b :: c :: d :: r, h =>
      simp only [List.length_cons] at hz hl h
      simp (implicitDefEqProofs := false) (disch := omega) only [go_sem, Nat.reduceAdd, Nat.reduceSub, Nat.reduceMul, Nat.reduceLT, Nat.reduceLeDiff, Nat.reduceEqDiff, List.drop_zero, List.take_succ_cons, List.take_zero, List.drop_succ_cons, Bool.and_true, Bool.true_and, Bool.and_false, Bool.false_and, BitVec.reduceOfInt, Nat.zero_add, Nat.mul_one, Nat.add_zero, Int.zero_add, Int.reduceToNat, Nat.reducePow, ↓reduceIte, reduceCtorEq, Int.reduceLE, Int.reduceLT, Int.reduceEq, Int.reduceNe, Int.reduceAdd, Int.reduceSub, Int.reduceMul, Int.reduceNeg, Nat.reduceBEq, show regOf Try.f19 0 = Code.region _ _ _ from rfl, show regOf Try.f19 1 = Code.region _ _ _ from rfl, show regOf Try.f19 2 = Code.region _ _ _ from rfl, show regOf Try.f19 3 = Code.region _ _ _ from rfl, txt_list, or_fix]
      rw [pureRes_solid rfl]
      simp [getF]
  · simp (implicitDefEqProofs := false) (disch := omega) only [go_sem, Nat.reduceAdd, Nat.reduceSub, Nat.reduceMul, Nat.reduceLT, Nat.reduceLeDiff, Nat.reduceEqDiff, List.drop_zero, List.take_succ_cons, List.take_zero, List.drop_succ_cons, Bool.and_true, Bool.true_and, Bool.and_false, Bool.false_and, BitVec.reduceOfInt, Nat.zero_add, Nat.mul_one, Nat.add_zero, Int.zero_add, Int.reduceToNat, Nat.reducePow, ↓reduceIte, reduceCtorEq, Int.reduceLE, Int.reduceLT, Int.reduceEq, Int.reduceNe, Int.reduceAdd, Int.reduceSub, Int.reduceMul, Int.reduceNeg, Nat.reduceBEq, show regOf Try.f19 0 = Code.region _ _ _ from rfl, show regOf Try.f19 1 = Code.region _ _ _ from rfl, show regOf Try.f19 2 = Code.region _ _ _ from rfl, show regOf Try.f19 3 = Code.region _ _ _ from rfl, txt_list]
    rw [pureRes_solid rfl]
    have : getF l = 0#32 := by
      match l, h with
      | [], _ => rfl
      | [_], _ => rfl
      | [_, _], _ => rfl
      | [_, _, _], _ => rfl
      | _ :: _ :: _ :: _ :: _, h => exact absurd (by simp) h
    rw [this]; rfl
theorem rgf_round (s : ByteArray) (x : BitVec 32) (i : Nat) (b : UInt8) (hb : s.data.toList[i]? = some b) (hi : i < 100) :
    lrun Try.prog md fg (fg 20) (loopOf Try.f20 0) (fg 20 1) ([.str s, .unk, .unk, .unk, v32 x, .int i, .unk, .unk, .unk, .unk, .unk, .unk, .unk, .unk, .unk, .unk, .unk, .unk, .unk, .unk, .unk]) [] = lrun Try.prog md fg (fg 20) (loopOf Try.f20 0) (fg 20 1) ([.str s, .unk, .unk, .unk, v32 (256#32 * x + b.toBitVec.setWidth 32), .int ((i : Int) - 1), .unk, .unk, .unk, .unk, .unk, .unk, .unk, .unk, .unk, .unk, .unk, .unk, .unk, .unk, .unk]) [] := by
  rw [lrun_atC loop20_0]
  simp (implicitDefEqProofs := false) (disch := omega) only [go_sem, Nat.reduceAdd, Nat.reduceSub, Nat.reduceMul, Nat.reduceLT, Nat.reduceLeDiff, Nat.reduceEqDiff, List.drop_zero, List.take_succ_cons, List.take_zero, List.drop_succ_cons, Bool.and_true, Bool.true_and, Bool.and_false, Bool.false_and, BitVec.reduceOfInt, Nat.zero_add, Nat.mul_one, Nat.add_zero, Int.zero_add, Int.reduceToNat, Nat.reducePow, ↓reduceIte, reduceCtorEq, Int.reduceLE, Int.reduceLT, Int.reduceEq, Int.reduceNe, Int.reduceAdd, Int.reduceSub, Int.reduceMul, Int.reduceNeg, Nat.reduceBEq, show regOf Try.f20 5 = Code.region _ _ _ from rfl, show regOf Try.f20 6 = Code.region _ _ _ from rfl, show regOf Try.f20 7 = Code.region _ _ _ from rfl, hb]
theorem rgf_end (s : ByteArray) (x : BitVec 32) :
    lrun Try.prog md fg (fg 20) (loopOf Try.f20 0) (fg 20 1) ([.str s, .unk, .unk, .unk, v32 x, .int (-1), .unk, .unk, .unk, .unk, .unk, .unk, .unk, .unk, .unk, .unk, .unk, .unk, .unk, .unk, .unk]) [] = some (.exit 0, [.str s, .unk, .unk, .unk, v32 x, .int (-1), .unk, .unk, .unk, .unk, .unk, .unk, .unk, .unk, .unk, .unk, .unk, .unk, .unk, .unk, .unk], []) := by
  rw [lrun_atC loop20_0]
  simp (implicitDefEqProofs := false) (disch := omega) only [go_sem, Nat.reduceAdd, Nat.reduceSub, Nat.reduceMul, Nat.reduceLT, Nat.reduceLeDiff, Nat.reduceEqDiff, List.drop_zero, List.take_succ_cons, List.take_zero, List.drop_succ_cons, Bool.and_true, Bool.true_and, Bool.and_false, Bool.false_and, BitVec.reduceOfInt, Nat.zero_add, Nat.mul_one, Nat.add_zero, Int.zero_add, Int.reduceToNat, Nat.reducePow, ↓reduceIte, reduceCtorEq, Int.reduceLE, Int.reduceLT, Int.reduceEq, Int.reduceNe, Int.reduceAdd, Int.reduceSub, Int.reduceMul, Int.reduceNeg, Nat.reduceBEq, show regOf Try.f20 5 = Code.region _ _ _ from rfl, show regOf Try.f20 6 = Code.region _ _ _ from rfl, show regOf Try.f20 7 = Code.region _ _ _ from rfl]
theorem mul_fix (a b c d : UInt8) : 256#32 * (256#32 * (256#32 * (256#32 * 0#32 + d.toBitVec.setWidth 32) + c.toBitVec.setWidth 32) + b.toBitVec.setWidth 32) + a.toBitVec.setWidth 32 = fixN a b c d := by
  have hw : ∀ x : UInt8, (x.toBitVec.setWidth 32 : BitVec 32).toNat = x.toNat := fun x => by
    rw [BitVec.toNat_setWidth]; exact Nat.mod_eq_of_lt (Nat.lt_trans x.toBitVec.isLt (by decide))
  apply BitVec.eq_of_toNat_eq
  simp only [BitVec.toNat_add, BitVec.toNat_mul, hw, BitVec.toNat_ofNat, fixN]
  omega
theorem refGetFixed_p (l : List UInt8) (hl : l.length < 2 ^ 62) : pcall Try.prog md fg 20 [.str (txt l)] = some (.tup [v32 (getF l), .bool (decide (4 ≤ l.length))]) := by
  rw [pcall_eq]
  rw [aval_of Try.func20 body20 Try.results20 Try.ntmps20 ok20]
  have hz := txt_size l
  by_cases h : 4 ≤ l.length
  · match l, h with
    | a :: b :: c :: d :: r, h =>
      have e : lrun Try.prog md fg (fg 20) (loopOf Try.f20 0) (fg 20 1) ([.str (txt (a :: b :: c :: d :: r)), .unk, .unk, .unk, v32 0#32, .int ((3 : Nat) : Int), .unk, .unk, .unk, .unk, .unk, .unk, .unk, .unk, .unk, .unk, .unk, .unk, .unk, .unk, .unk]) [] = some (.exit 0, [.str (txt (a :: b :: c :: d :: r)), .unk, .unk, .unk, v32 (fixN a b c d), .int (-1), .unk, .unk, .unk, .unk, .unk, .unk, .unk, .unk, .unk, .unk, .unk, .unk, .unk, .unk, .unk], []) := by
        rw [rgf_round _ _ 3 d (by rw [txt_list]; rfl) (by omega), show ((3 : Nat) : Int) - 1 = ((2 : Nat) : Int) from rfl,
          rgf_round _ _ 2 c (by rw [txt_list]; rfl) (by omega), show ((2 : Nat) : Int) - 1 = ((1 : Nat) : Int) from rfl,
          rgf_round _ _ 1 b (by rw [txt_list]; rfl) (by omega), show ((1 : Nat) : Int) - 1 = ((0 : Nat) : Int) from rfl,
          rgf_round _ _ 0 a (by rw [txt_list]; rfl) (by omega), show ((0 : Nat) : Int) - 1 = -1 from rfl, rgf_end, mul_fix]
      have e32 : ((0#32).toNat : Int) = 0 := rfl
      simp only [v32, e32, Int.cast_ofNat_Int] at e
      simp only [List.length_cons] at hz hl h
      simp (implicitDefEqProofs := false) (disch := omega) only [go_sem, Nat.reduceAdd, Nat.reduceSub, Nat.reduceMul, Nat.reduceLT, Nat.reduceLeDiff, Nat.reduceEqDiff, List.drop_zero, List.take_succ_cons, List.take_zero, List.drop_succ_cons, Bool.and_true, Bool.true_and, Bool.and_false, Bool.false_and, BitVec.reduceOfInt, Nat.zero_add, Nat.mul_one, Nat.add_zero, Int.zero_add, Int.reduceToNat, Nat.reducePow, ↓reduceIte, reduceCtorEq, Int.reduceLE, Int.reduceLT, Int.reduceEq, Int.reduceNe, Int.reduceAdd, Int.reduceSub, Int.reduceMul, Int.reduceNeg, Nat.reduceBEq, show regOf Try.f20 0 = Code.region _ _ _ from rfl, show regOf Try.f20 1 = Code.region _ _ _ from rfl, show regOf Try.f20 2 = Code.region _ _ _ from rfl, show regOf Try.f20 3 = Code.region _ _ _ from rfl, show regOf Try.f20 4 = Code.region _ _ _ from rfl, show regOf Try.f20 8 = Code.region _ _ _ from rfl, e]
      rw [pureRes_solid rfl]
      simp [getF]
  · simp (implicitDefEqProofs := false) (disch := omega) only [go_sem, Nat.reduceAdd, Nat.reduceSub, Nat.reduceMul, Nat.reduceLT, Nat.reduceLeDiff, Nat.reduceEqDiff, List.drop_zero, List.take_succ_cons, List.take_zero, List.drop_succ_cons, Bool.and_true, Bool.true_and, Bool.and_false, Bool.false_and, BitVec.reduceOfInt, Nat.zero_add, Nat.mul_one, Nat.add_zero, Int.zero_add, Int.reduceToNat, Nat.reducePow, ↓reduceIte, reduceCtorEq, Int.reduceLE, Int.reduceLT, Int.reduceEq, Int.reduceNe, Int.reduceAdd, Int.reduceSub, Int.reduceMul, Int.reduceNeg, Nat.reduceBEq, show regOf Try.f20 0 = Code.region _ _ _ from rfl, show regOf Try.f20 1 = Code.region _ _ _ from rfl, show regOf Try.f20 2 = Code.region _ _ _ from rfl]
    rw [pureRes_solid rfl]
    have : getF l = 0#32 := by
      match l, h with
      | [], _ => rfl
      | [_], _ => rfl
      | [_, _], _ => rfl
      | [_, _, _], _ => rfl
      | _ :: _ :: _ :: _ :: _, h => exact absurd (by simp) h
    rw [this]; rfl
/-- The four bytes of a number. -/
def fixB (n : Nat) : List UInt8 := [UInt8.ofNat n, UInt8.ofNat (n / 256), UInt8.ofNat (n / 65536), UInt8.ofNat (n / 16777216)]
theorem byte_set (x : BitVec 32) : UInt8.ofNat (x.setWidth 8).toNat = UInt8.ofNat x.toNat := by
  apply UInt8.toNat_inj.1
  rw [UInt8.toNat_ofNat', UInt8.toNat_ofNat', BitVec.toNat_setWidth]; omega
theorem byte_mod (x : BitVec 32) : UInt8.ofNat (x % 256#32).toNat = UInt8.ofNat x.toNat := by
  have e : (x % 256#32).toNat = x.toNat % 256 := by rw [BitVec.toNat_umod]; rfl
  apply UInt8.toNat_inj.1
  rw [UInt8.toNat_ofNat', UInt8.toNat_ofNat', e]; omega
theorem shr_nat (x : BitVec 32) (k : Nat) : (x >>> k).toNat = x.toNat / 2 ^ k := by rw [BitVec.toNat_ushiftRight, Nat.shiftRight_eq_div_pow]
theorem fixed_p (x : BitVec 32) : pcall Try.prog md fg 21 [v32 x] = some (.str (txt (fixB x.toNat))) := by
  rw [pcall_eq]
  rw [aval_of Try.func21 body21 Try.results21 Try.ntmps21 ok21]
  simp (implicitDefEqProofs := false) (disch := omega) only [go_sem, Nat.reduceAdd, Nat.reduceSub, Nat.reduceMul, Nat.reduceLT, Nat.reduceLeDiff, Nat.reduceEqDiff, List.drop_zero, List.take_succ_cons, List.take_zero, List.drop_succ_cons, Bool.and_true, Bool.true_and, Bool.and_false, Bool.false_and, BitVec.reduceOfInt, Nat.zero_add, Nat.mul_one, Nat.add_zero, Int.zero_add, Int.reduceToNat, Nat.reducePow, ↓reduceIte, reduceCtorEq, Int.reduceLE, Int.reduceLT, Int.reduceEq, Int.reduceNe, Int.reduceAdd, Int.reduceSub, Int.reduceMul, Int.reduceNeg, Nat.reduceBEq, show regOf Try.f21 0 = Code.region _ _ _ from rfl, show regOf Try.f21 1 = Code.region _ _ _ from rfl, byte_set]
  rw [pureRes_solid rfl, shr_nat, shr_nat, shr_nat]
  rfl
theorem rfx_round (s : List UInt8) (x : BitVec 32) (i : Nat) (hi : i < 4) (hs : s.length < 100) :
    lrun Try.prog md fg (fg 22) (loopOf Try.f22 0) (fg 22 1) ([v32 x, .unk, .unk, .str (txt s), .int i, .unk, .unk, .unk, .unk, .unk, .unk, .unk, .unk, .unk, .unk, .unk, .unk, .unk, .unk]) [] = lrun Try.prog md fg (fg 22) (loopOf Try.f22 0) (fg 22 1) ([v32 (x / 256#32), .unk, .unk, .str (txt (s ++ [UInt8.ofNat x.toNat])), .int ((i + 1 : Nat) : Int), .unk, .unk, .unk, .unk, .unk, .unk, .unk, .unk, .unk, .unk, .unk, .unk, .unk, .unk]) [] := by
  rw [lrun_atC loop22_0]
  have hz := txt_size s
  simp (implicitDefEqProofs := false) (disch := omega) only [go_sem, Nat.reduceAdd, Nat.reduceSub, Nat.reduceMul, Nat.reduceLT, Nat.reduceLeDiff, Nat.reduceEqDiff, List.drop_zero, List.take_succ_cons, List.take_zero, List.drop_succ_cons, Bool.and_true, Bool.true_and, Bool.and_false, Bool.false_and, BitVec.reduceOfInt, Nat.zero_add, Nat.mul_one, Nat.add_zero, Int.zero_add, Int.reduceToNat, Nat.reducePow, ↓reduceIte, reduceCtorEq, Int.reduceLE, Int.reduceLT, Int.reduceEq, Int.reduceNe, Int.reduceAdd, Int.reduceSub, Int.reduceMul, Int.reduceNeg, Nat.reduceBEq, show regOf Try.f22 3 = Code.region _ _ _ from rfl, show regOf Try.f22 4 = Code.region _ _ _ from rfl, show regOf Try.f22 5 = Code.region _ _ _ from rfl, show regOf Try.f22 6 = Code.region _ _ _ from rfl, byte_set, byte_mod, cat1]
  all_goals (congr 1 <;> simp only [List.cons.injEq, AV.val.injEq, Value.int.injEq, Value.bool.injEq, true_and, and_true] <;> omega)
theorem rfx_end (s : List UInt8) (x : BitVec 32) :
    lrun Try.prog md fg (fg 22) (loopOf Try.f22 0) (fg 22 1) ([v32 x, .unk, .unk, .str (txt s), .int (4 : Nat), .unk, .unk, .unk, .unk, .unk, .unk, .unk, .unk, .unk, .unk, .unk, .unk, .unk, .unk]) [] = some (.exit 0, [v32 x, .unk, .unk, .str (txt s), .int (4 : Nat), .unk, .unk, .unk, .unk, .unk, .unk, .unk, .unk, .unk, .unk, .unk, .unk, .unk, .unk], []) := by
  rw [lrun_atC loop22_0]
  simp (implicitDefEqProofs := false) (disch := omega) only [go_sem, Nat.reduceAdd, Nat.reduceSub, Nat.reduceMul, Nat.reduceLT, Nat.reduceLeDiff, Nat.reduceEqDiff, List.drop_zero, List.take_succ_cons, List.take_zero, List.drop_succ_cons, Bool.and_true, Bool.true_and, Bool.and_false, Bool.false_and, BitVec.reduceOfInt, Nat.zero_add, Nat.mul_one, Nat.add_zero, Int.zero_add, Int.reduceToNat, Nat.reducePow, ↓reduceIte, reduceCtorEq, Int.reduceLE, Int.reduceLT, Int.reduceEq, Int.reduceNe, Int.reduceAdd, Int.reduceSub, Int.reduceMul, Int.reduceNeg, Nat.reduceBEq, show regOf Try.f22 3 = Code.region _ _ _ from rfl, show regOf Try.f22 4 = Code.region _ _ _ from rfl, show regOf Try.f22 5 = Code.region _ _ _ from rfl, show regOf Try.f22 6 = Code.region _ _ _ from rfl]
theorem div_nat (x : BitVec 32) : (x / 256#32).toNat = x.toNat / 256 := by rw [BitVec.toNat_udiv]; rfl
theorem refFixed_p (x : BitVec 32) : pcall Try.prog md fg 22 [v32 x] = some (.str (txt (fixB x.toNat))) := by
  rw [pcall_eq]
  rw [aval_of Try.func22 body22 Try.results22 Try.ntmps22 ok22]
  have e := rfx_round [] x 0 (by omega) (by simp)
  rw [rfx_round _ _ 1 (by omega) (by simp), rfx_round _ _ 2 (by omega) (by simp), rfx_round _ _ 3 (by omega) (by simp), rfx_end] at e
  have e0 : txt [] = ⟨#[]⟩ := rfl
  simp only [div_nat, Nat.div_div_eq_div_mul, List.nil_append, List.cons_append, e0, Int.natCast_zero] at e
  simp (implicitDefEqProofs := false) (disch := omega) only [go_sem, Nat.reduceAdd, Nat.reduceSub, Nat.reduceMul, Nat.reduceLT, Nat.reduceLeDiff, Nat.reduceEqDiff, List.drop_zero, List.take_succ_cons, List.take_zero, List.drop_succ_cons, Bool.and_true, Bool.true_and, Bool.and_false, Bool.false_and, BitVec.reduceOfInt, Nat.zero_add, Nat.mul_one, Nat.add_zero, Int.zero_add, Int.reduceToNat, Nat.reducePow, ↓reduceIte, reduceCtorEq, Int.reduceLE, Int.reduceLT, Int.reduceEq, Int.reduceNe, Int.reduceAdd, Int.reduceSub, Int.reduceMul, Int.reduceNeg, Nat.reduceBEq, show regOf Try.f22 0 = Code.region _ _ _ from rfl, show regOf Try.f22 1 = Code.region _ _ _ from rfl, show regOf Try.f22 2 = Code.region _ _ _ from rfl, show regOf Try.f22 7 = Code.region _ _ _ from rfl, e]
  rw [pureRes_solid rfl]
  rfl
theorem fix_back (n : Nat) (hn : n < 2 ^ 32) (r : List UInt8) : getF (fixB n ++ r) = BitVec.ofNat 32 n := by
  show fixN _ _ _ _ = _
  unfold fixN
  congr 1
  simp only [UInt8.toNat_ofNat']
  omega
theorem fixB_getF (a b c d : UInt8) (r : List UInt8) : fixB (getF (a :: b :: c :: d :: r)).toNat = [a, b, c, d] := by
  have ha := a.toNat_lt; have hb := b.toNat_lt; have hc := c.toNat_lt; have hd := d.toNat_lt
  show fixB (fixN a b c d).toNat = _
  have e : (fixN a b c d).toNat = a.toNat + 256 * b.toNat + 65536 * c.toNat + 16777216 * d.toNat := by
    unfold fixN; rw [BitVec.toNat_ofNat]; omega
  rw [e]
  unfold fixB
  congr 1
  · apply UInt8.toNat_inj.1; rw [UInt8.toNat_ofNat']; omega
  congr 1
  · apply UInt8.toNat_inj.1; rw [UInt8.toNat_ofNat']; omega
  congr 1
  · apply UInt8.toNat_inj.1; rw [UInt8.toNat_ofNat']; omega
  congr 1
  · apply UInt8.toNat_inj.1; rw [UInt8.toNat_ofNat']; omega
theorem v32_of {x : Int} (h1 : 0 ≤ x) (h2 : x < 4294967296) : x = ((BitVec.ofInt 32 x).toNat : Int) := by
  rw [toNat_ofInt']; exact (Int.emod_eq_of_lt h1 h2).symm
theorem codecFixed {x : Int} (x1 : 0 ≤ x) (x2 : x < 4294967296) (s : ByteArray) (hs : s.size ≤ maxLen) : pcall Try.prog md fg 6 [.val (.int .u32 x), .val (.string s)] = some (.bool true) := by
  rw [v32_of x1 x2]
  generalize BitVec.ofInt 32 x = y
  obtain ⟨l, rfl⟩ := txt_of s
  have hz := txt_size l
  have ca : doCall md (aval Try.prog md fg) 12 [] [] = some (.val (.bool true), []) := doCall_pure md12 rfl alive
  rw [pcall_eq]
  rw [aval_of Try.func6 body6 Try.results6 Try.ntmps6 ok6]
  by_cases h : l.length ≤ 1000
  · have c1 : doCall md (aval Try.prog md fg) 19 [.val (.string (txt l))] [] = some (.tup [v32 (getF l), .bool (decide (4 ≤ l.length))], []) := doCall_pure md19 rfl (getFixed_p l (by omega))
    have c2 : doCall md (aval Try.prog md fg) 20 [.val (.string (txt l))] [] = some (.tup [v32 (getF l), .bool (decide (4 ≤ l.length))], []) := doCall_pure md20 rfl (refGetFixed_p l (by omega))
    have c3 : doCall md (aval Try.prog md fg) 21 [v32 y] [] = some (.str (txt (fixB y.toNat)), []) := doCall_pure md21 rfl (fixed_p y)
    have c4 : doCall md (aval Try.prog md fg) 22 [v32 y] [] = some (.str (txt (fixB y.toNat)), []) := doCall_pure md22 rfl (refFixed_p y)
    have hl5 : (fixB y.toNat ++ l).length = 4 + l.length := by simp [fixB]; omega
    have hf4 : (fixB y.toNat).length = 4 := rfl
    have c5 : doCall md (aval Try.prog md fg) 19 [.val (.string (txt (fixB y.toNat ++ l)))] [] = some (.tup [v32 y, .bool true], []) := doCall_pure md19 rfl ((getFixed_p _ (by omega)).trans (by
      rw [fix_back _ y.isLt, BitVec.ofNat_toNat, BitVec.setWidth_eq, hl5, dec_t (by omega)]))
    by_cases h4 : 4 ≤ l.length
    · match l, h4 with
      | a :: b :: c :: d :: r, h4 =>
        have c6 : doCall md (aval Try.prog md fg) 21 [v32 (getF (a :: b :: c :: d :: r))] [] = some (.str (txt [a, b, c, d]), []) := doCall_pure md21 rfl ((fixed_p _).trans (by rw [fixB_getF]))
        simp (implicitDefEqProofs := false) (disch := omega) only [go_sem, Nat.reduceAdd, Nat.reduceSub, Nat.reduceMul, Nat.reduceLT, Nat.reduceLeDiff, Nat.reduceEqDiff, List.drop_zero, List.take_succ_cons, List.take_zero, List.drop_succ_cons, Bool.and_true, Bool.true_and, Bool.and_false, Bool.false_and, BitVec.reduceOfInt, Nat.zero_add, Nat.mul_one, Nat.add_zero, Int.zero_add, Int.reduceToNat, Nat.reducePow, ↓reduceIte, reduceCtorEq, Int.reduceLE, Int.reduceLT, Int.reduceEq, Int.reduceNe, Int.reduceAdd, Int.reduceSub, Int.reduceMul, Int.reduceNeg, Nat.reduceBEq, show regOf Try.f6 0 = Code.region _ _ _ from rfl, show regOf Try.f6 1 = Code.region _ _ _ from rfl, show regOf Try.f6 2 = Code.region _ _ _ from rfl, show regOf Try.f6 3 = Code.region _ _ _ from rfl, show regOf Try.f6 4 = Code.region _ _ _ from rfl, show regOf Try.f6 5 = Code.region _ _ _ from rfl, show regOf Try.f6 6 = Code.region _ _ _ from rfl, c1, c2, c3, c4, c5, c6, ca, cat2, txt_extract]
        rw [pureRes_solid rfl]
    · simp (implicitDefEqProofs := false) (disch := omega) only [go_sem, Nat.reduceAdd, Nat.reduceSub, Nat.reduceMul, Nat.reduceLT, Nat.reduceLeDiff, Nat.reduceEqDiff, List.drop_zero, List.take_succ_cons, List.take_zero, List.drop_succ_cons, Bool.and_true, Bool.true_and, Bool.and_false, Bool.false_and, BitVec.reduceOfInt, Nat.zero_add, Nat.mul_one, Nat.add_zero, Int.zero_add, Int.reduceToNat, Nat.reducePow, ↓reduceIte, reduceCtorEq, Int.reduceLE, Int.reduceLT, Int.reduceEq, Int.reduceNe, Int.reduceAdd, Int.reduceSub, Int.reduceMul, Int.reduceNeg, Nat.reduceBEq, show regOf Try.f6 0 = Code.region _ _ _ from rfl, show regOf Try.f6 1 = Code.region _ _ _ from rfl, show regOf Try.f6 2 = Code.region _ _ _ from rfl, show regOf Try.f6 3 = Code.region _ _ _ from rfl, show regOf Try.f6 4 = Code.region _ _ _ from rfl, show regOf Try.f6 5 = Code.region _ _ _ from rfl, show regOf Try.f6 6 = Code.region _ _ _ from rfl, c1, c2, c3, c4, c5, ca, cat2]
      rw [pureRes_solid rfl]
  · simp (implicitDefEqProofs := false) (disch := omega) only [go_sem, Nat.reduceAdd, Nat.reduceSub, Nat.reduceMul, Nat.reduceLT, Nat.reduceLeDiff, Nat.reduceEqDiff, List.drop_zero, List.take_succ_cons, List.take_zero, List.drop_succ_cons, Bool.and_true, Bool.true_and, Bool.and_false, Bool.false_and, BitVec.reduceOfInt, Nat.zero_add, Nat.mul_one, Nat.add_zero, Int.zero_add, Int.reduceToNat, Nat.reducePow, ↓reduceIte, reduceCtorEq, Int.reduceLE, Int.reduceLT, Int.reduceEq, Int.reduceNe, Int.reduceAdd, Int.reduceSub, Int.reduceMul, Int.reduceNeg, Nat.reduceBEq, show regOf Try.f6 0 = Code.region _ _ _ from rfl, show regOf Try.f6 1 = Code.region _ _ _ from rfl, show regOf Try.f6 2 = Code.region _ _ _ from rfl, show regOf Try.f6 3 = Code.region _ _ _ from rfl, show regOf Try.f6 4 = Code.region _ _ _ from rfl, show regOf Try.f6 5 = Code.region _ _ _ from rfl, show regOf Try.f6 6 = Code.region _ _ _ from rfl, ca]
    rw [pureRes_solid rfl]
end Go.Proofs.Ytlpkfeplbcadbaa
