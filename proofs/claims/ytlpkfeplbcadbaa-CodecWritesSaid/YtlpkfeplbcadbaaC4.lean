/- The plain functions of codec: Zig, Uvarint, NewReader; alive. -/
import Derived.Test.YtlpkfeplbcadbaaC3
namespace Go.Proofs.Ytlpkfeplbcadbaa
open Go Go.Ab Go.Proofs
set_option maxRecDepth 100000
set_option linter.unusedSimpArgs false
/-- Zig. -/
def zigT (n : Int) : BitVec 64 := (BitVec.ofInt 64 n <<< 1) ^^^ BitVec.ofInt 64 (n.fdiv (2 ^ 63))
theorem zig (n : Int) : aval Try.prog md fg 15 [.int n] [] = some (v64 (zigT n), []) := by
  rw [aval_of Try.func15 body15 Try.results15 Try.ntmps15 ok15]
  simp (implicitDefEqProofs := false) (disch := omega) only [go_sem, Nat.reduceAdd, Nat.reduceSub, Nat.reduceMul, Nat.reduceLT, Nat.reduceLeDiff, Nat.reduceEqDiff, List.drop_zero, List.take_succ_cons, List.take_zero, List.drop_succ_cons, Bool.and_true, Bool.true_and, Bool.and_false, Bool.false_and, BitVec.reduceOfInt, Nat.zero_add, Nat.mul_one, Nat.add_zero, Int.zero_add, Int.reduceToNat, Nat.reducePow, ↓reduceIte, reduceCtorEq, Int.reduceLE, Int.reduceLT, Int.reduceEq, Int.reduceNe, Int.reduceAdd, Int.reduceSub, Int.reduceMul, Int.reduceNeg, Nat.reduceBEq, show regOf Try.f15 0 = Code.region _ _ _ from rfl, show regOf Try.f15 1 = Code.region _ _ _ from rfl]
  rfl
theorem zig_p (n : Int) : pcall Try.prog md fg 15 [.int n] = some (v64 (zigT n)) := by
  rw [pcall_eq, zig, pureRes_solid rfl]

/-! ### Uvarint -/
/-- Bytes that are appended one after another. -/
def bufV (l : List UInt8) : AV := match l with | [] => .slc true [] | l => .arr 0 0 l.length (l.length - 1) 1
def bufH (l : List UInt8) : AHeap := match l with | [] => [] | l => [.arr 1 (l.map byteVal) (l.length - 1)]
theorem buf_app (l : List UInt8) (b : UInt8) (z : AV) (hl : l.length < 1000) : appT (some (1, 1, z)) (bufH l) (bufV l) (some [v8 b.toBitVec]) = some (bufV (l ++ [b]), bufH (l ++ [b])) := by
  cases l with
  | nil =>
    show appT _ [] (.slc true []) _ = _
    rw [appT_slc _ _ _ _ _ rfl rfl (by simp) (by simp)]; rfl
  | cons a r =>
    show appT _ [.arr 1 ((a :: r).map byteVal) ((a :: r).length - 1)] (.arr 0 0 (a :: r).length ((a :: r).length - 1) 1) _ = _
    rw [appT_arr _ _ _ _ _ _ _ _ rfl (by simp) rfl (by simp only [List.length_cons, List.length_nil] at hl ⊢; omega)]
    simp [bufV, bufH, byteVal]
theorem buf_view (l : List UInt8) : sview (bufH l) (bufV l) = some (l.map byteVal) := by
  cases l with
  | nil => rfl
  | cons a r =>
    show sview [.arr 1 ((a :: r).map byteVal) ((a :: r).length - 1)] (.arr 0 0 (a :: r).length ((a :: r).length - 1) 1) = _
    exact sview_arr _ _ _ _ _ rfl (by simp)
/-- A number's bytes. -/
def uvarN (n : Nat) : List UInt8 := if n < 128 then [UInt8.ofNat n] else UInt8.ofNat (n % 128 + 128) :: uvarN (n / 128)
theorem byte_or (y : BitVec 8) : (y ||| 128#8) = BitVec.ofNat 8 (y.toNat % 128 + 128) := by
  revert y; decide
theorem uv_end (x : BitVec 64) (l : List UInt8) (hx : x.toNat < 128) :
    lrun Try.prog md fg (fg 23) (loopOf Try.f23 0) (fg 23 1) ([v64 x, .unk, .unk, bufV l, .unk, .unk, .unk, .unk, .unk, .unk, .unk, .unk, .unk, .unk, .unk, .unk, .unk, .unk, .unk, .unk]) (bufH l) = some (.exit 0, [v64 x, .unk, .unk, bufV l, .unk, .unk, .unk, .unk, .unk, .unk, .unk, .unk, .unk, .unk, .unk, .unk, .unk, .unk, .unk, .unk], bufH l) := by
  rw [lrun_atC loop23_0]
  simp (implicitDefEqProofs := false) (disch := omega) only [go_sem, Nat.reduceAdd, Nat.reduceSub, Nat.reduceMul, Nat.reduceLT, Nat.reduceLeDiff, Nat.reduceEqDiff, List.drop_zero, List.take_succ_cons, List.take_zero, List.drop_succ_cons, Bool.and_true, Bool.true_and, Bool.and_false, Bool.false_and, BitVec.reduceOfInt, Nat.zero_add, Nat.mul_one, Nat.add_zero, Int.zero_add, Int.reduceToNat, Nat.reducePow, ↓reduceIte, reduceCtorEq, Int.reduceLE, Int.reduceLT, Int.reduceEq, Int.reduceNe, Int.reduceAdd, Int.reduceSub, Int.reduceMul, Int.reduceNeg, Nat.reduceBEq, show regOf Try.f23 2 = Code.region _ _ _ from rfl, show regOf Try.f23 3 = Code.region _ _ _ from rfl, show regOf Try.f23 4 = Code.region _ _ _ from rfl]
theorem uv_round (x : BitVec 64) (l : List UInt8) (hx : ¬ x.toNat < 128) (hl : l.length < 1000) :
    lrun Try.prog md fg (fg 23) (loopOf Try.f23 0) (fg 23 1) ([v64 x, .unk, .unk, bufV l, .unk, .unk, .unk, .unk, .unk, .unk, .unk, .unk, .unk, .unk, .unk, .unk, .unk, .unk, .unk, .unk]) (bufH l) = lrun Try.prog md fg (fg 23) (loopOf Try.f23 0) (fg 23 1) ([v64 (x >>> 7), .unk, .unk, bufV (l ++ [UInt8.ofNat (x.toNat % 128 + 128)]), .unk, .unk, .unk, .unk, .unk, .unk, .unk, .unk, .unk, .unk, .unk, .unk, .unk, .unk, .unk, .unk]) (bufH (l ++ [UInt8.ofNat (x.toNat % 128 + 128)])) := by
  rw [lrun_atC loop23_0]
  have hb : x.setWidth 8 ||| 128#8 = (UInt8.ofNat (x.toNat % 128 + 128)).toBitVec := by
    rw [byte_or]
    have : (x.setWidth 8).toNat % 128 = x.toNat % 128 := by rw [BitVec.toNat_setWidth]; omega
    rw [this]; rfl
  have ha := buf_app l (UInt8.ofNat (x.toNat % 128 + 128)) (.val (.int .u8 0)) hl
  simp (implicitDefEqProofs := false) (disch := omega) only [go_sem, Nat.reduceAdd, Nat.reduceSub, Nat.reduceMul, Nat.reduceLT, Nat.reduceLeDiff, Nat.reduceEqDiff, List.drop_zero, List.take_succ_cons, List.take_zero, List.drop_succ_cons, Bool.and_true, Bool.true_and, Bool.and_false, Bool.false_and, BitVec.reduceOfInt, Nat.zero_add, Nat.mul_one, Nat.add_zero, Int.zero_add, Int.reduceToNat, Nat.reducePow, ↓reduceIte, reduceCtorEq, Int.reduceLE, Int.reduceLT, Int.reduceEq, Int.reduceNe, Int.reduceAdd, Int.reduceSub, Int.reduceMul, Int.reduceNeg, Nat.reduceBEq, show regOf Try.f23 2 = Code.region _ _ _ from rfl, show regOf Try.f23 3 = Code.region _ _ _ from rfl, show regOf Try.f23 4 = Code.region _ _ _ from rfl, hb, ha]
theorem uvarN_small {n : Nat} (h : n < 128) : uvarN n = [UInt8.ofNat n] := by rw [uvarN, if_pos h]
theorem uvarN_big {n : Nat} (h : ¬ n < 128) : uvarN n = UInt8.ofNat (n % 128 + 128) :: uvarN (n / 128) := by rw [uvarN, if_neg h]
theorem shr7 (x : BitVec 64) : (x >>> 7).toNat = x.toNat / 128 := by rw [BitVec.toNat_ushiftRight, Nat.shiftRight_eq_div_pow]
theorem uv_loop : ∀ (k : Nat) (x : BitVec 64) (l : List UInt8), x.toNat < 128 ^ k → l.length + k ≤ 20 → ∃ (y : BitVec 64) (l' : List UInt8),
    lrun Try.prog md fg (fg 23) (loopOf Try.f23 0) (fg 23 1) ([v64 x, .unk, .unk, bufV l, .unk, .unk, .unk, .unk, .unk, .unk, .unk, .unk, .unk, .unk, .unk, .unk, .unk, .unk, .unk, .unk]) (bufH l) = some (.exit 0, [v64 y, .unk, .unk, bufV l', .unk, .unk, .unk, .unk, .unk, .unk, .unk, .unk, .unk, .unk, .unk, .unk, .unk, .unk, .unk, .unk], bufH l') ∧ y.toNat < 128 ∧ l' ++ [UInt8.ofNat y.toNat] = l ++ uvarN x.toNat ∧ l'.length ≤ 20
  | 0, x, l, hx, hl => by
    have h0 : x.toNat < 128 := by simp at hx; omega
    exact ⟨x, l, uv_end x l h0, h0, by rw [uvarN_small h0], by omega⟩
  | k + 1, x, l, hx, hl => by
    by_cases h0 : x.toNat < 128
    · exact ⟨x, l, uv_end x l h0, h0, by rw [uvarN_small h0], by omega⟩
    · obtain ⟨y, l', e, hy, hl', hn⟩ := uv_loop k (x >>> 7) (l ++ [UInt8.ofNat (x.toNat % 128 + 128)]) (by rw [shr7]; rw [Nat.pow_succ] at hx; omega) (by simp only [List.length_append, List.length_cons, List.length_nil]; omega)
      refine ⟨y, l', ?_, hy, ?_, hn⟩
      · rw [uv_round x l h0 (by omega), e]
      · rw [hl', uvarN_big h0, shr7, List.append_assoc]; rfl
/-- The bytes of a number as a text. -/
def uvarT (x : BitVec 64) : ByteArray := ⟨(uvarN x.toNat).toArray⟩
theorem uvarint (x : BitVec 64) : ∃ h, aval Try.prog md fg 23 [v64 x] [] = some (.str (uvarT x), h) := by
  rw [aval_of Try.func23 body23 Try.results23 Try.ntmps23 ok23]
  obtain ⟨y, l', e, hy, hl, hn⟩ := uv_loop 10 x [] (Nat.lt_trans x.isLt (by decide)) (by simp)
  have e0 : lrun Try.prog md fg (fg 23) (loopOf Try.f23 0) (fg 23 1) ([v64 x, .unk, .unk, .slc true [], .unk, .unk, .unk, .unk, .unk, .unk, .unk, .unk, .unk, .unk, .unk, .unk, .unk, .unk, .unk, .unk]) [] = some (.exit 0, [v64 y, .unk, .unk, bufV l', .unk, .unk, .unk, .unk, .unk, .unk, .unk, .unk, .unk, .unk, .unk, .unk, .unk, .unk, .unk, .unk], bufH l') := e
  have hb : y.setWidth 8 = (UInt8.ofNat y.toNat).toBitVec := by
    apply BitVec.eq_of_toNat_eq; rw [BitVec.toNat_setWidth]; rfl
  have ha := buf_app l' (UInt8.ofNat y.toNat) (.val (.int .u8 0)) (by omega)
  refine ⟨bufH (l' ++ [UInt8.ofNat y.toNat]), ?_⟩
  simp (implicitDefEqProofs := false) (disch := omega) only [go_sem, Nat.reduceAdd, Nat.reduceSub, Nat.reduceMul, Nat.reduceLT, Nat.reduceLeDiff, Nat.reduceEqDiff, List.drop_zero, List.take_succ_cons, List.take_zero, List.drop_succ_cons, Bool.and_true, Bool.true_and, Bool.and_false, Bool.false_and, BitVec.reduceOfInt, Nat.zero_add, Nat.mul_one, Nat.add_zero, Int.zero_add, Int.reduceToNat, Nat.reducePow, ↓reduceIte, reduceCtorEq, Int.reduceLE, Int.reduceLT, Int.reduceEq, Int.reduceNe, Int.reduceAdd, Int.reduceSub, Int.reduceMul, Int.reduceNeg, Nat.reduceBEq, show regOf Try.f23 0 = Code.region _ _ _ from rfl, show regOf Try.f23 1 = Code.region _ _ _ from rfl, show regOf Try.f23 5 = Code.region _ _ _ from rfl, e0, hb, ha, buf_view]
  rw [hl]; rfl
theorem uvarint_p (x : BitVec 64) : pcall Try.prog md fg 23 [v64 x] = some (.str (uvarT x)) := by
  obtain ⟨h, e⟩ := uvarint x
  rw [pcall_eq, e, pureRes_solid rfl]

/-! ### NewReader, alive -/
theorem newReader (s : ByteArray) (h : AHeap) : aval Try.prog md fg 33 [.str s] h = some (.ptr h.length 0, h ++ [.vars [.str s, .bool false]]) := by
  rw [aval_of Try.func33 body33 Try.results33 Try.ntmps33 ok33]
  simp (implicitDefEqProofs := false) (disch := omega) only [go_sem, Nat.reduceAdd, Nat.reduceSub, Nat.reduceMul, Nat.reduceLT, Nat.reduceLeDiff, Nat.reduceEqDiff, List.drop_zero, List.take_succ_cons, List.take_zero, List.drop_succ_cons, Bool.and_true, Bool.true_and, Bool.and_false, Bool.false_and, BitVec.reduceOfInt, Nat.zero_add, Nat.mul_one, Nat.add_zero, Int.zero_add, Int.reduceToNat, Nat.reducePow, ↓reduceIte, reduceCtorEq, Int.reduceLE, Int.reduceLT, Int.reduceEq, Int.reduceNe, Int.reduceAdd, Int.reduceSub, Int.reduceMul, Int.reduceNeg, Nat.reduceBEq, show regOf Try.f33 0 = Code.region _ _ _ from rfl, show regOf Try.f33 1 = Code.region _ _ _ from rfl, abuild_struct _ _ tplaces_69]
theorem exp1_slc {h : AHeap} {d : Nat} {b : Bool} {es : List AV} (hs : solidL es = true) : exp1 h (d + 1) (.slc b es) = some (.slc false es, []) := by
  cases b with
  | false => exact exp1_solid (by simp [solid, hs])
  | true =>
    have e := expL_solid (h := h) (d := d) hs
    simp [exp1, solid, e]
theorem alive_sum : sumT (catL [⟨#[49, 50, 51, 52]⟩, ⟨#[53, 54, 55, 56, 57]⟩]) = 3808858755#32 := by decide
theorem alive_uv : uvarT 300#64 = ⟨#[172, 2]⟩ := by
  unfold uvarT
  rw [show (300#64).toNat = 300 from rfl, uvarN_big (by decide), uvarN_small (by decide)]
  rfl
theorem alive : pcall Try.prog md fg 12 [] = some (.bool true) := by
  have c1 : doCall md (aval Try.prog md fg) 23 [.val (.int .u64 300)] [] = some (.str ⟨#[172, 2]⟩, []) := doCall_pure md23 rfl ((uvarint_p 300#64).trans (by rw [alive_uv]))
  have c2 : doCall md (aval Try.prog md fg) 15 [.val (.int .i64 (-1))] [] = some (.val (.int .u64 1), []) := doCall_pure md15 rfl (zig_p (-1))
  have c3 : doCall md (aval Try.prog md fg) 13 [.slc true [.val (.string ⟨#[49, 50, 51, 52]⟩), .val (.string ⟨#[53, 54, 55, 56, 57]⟩)]] [] = some (.val (.int .u32 3808858755), []) := by
    refine doCall_look md13 (as' := [.slc false ([⟨#[49, 50, 51, 52]⟩, ⟨#[53, 54, 55, 56, 57]⟩].map .str)]) (ids := []) ?_ rfl ((sum_p _ (by decide) (by decide)).trans (by rw [alive_sum]; rfl)) rfl
    simp only [expL, expDepth, exp1_slc (h := []) (d := 3) (b := true) (es := [.val (.string ⟨#[49, 50, 51, 52]⟩), .val (.string ⟨#[53, 54, 55, 56, 57]⟩)]) rfl]
    rfl
  have c4 : doCall md (aval Try.prog md fg) 33 [.val (.string ⟨#[]⟩)] [] = some (.ptr 0 0, [.vars [.str ⟨#[]⟩, .bool false]]) := doCall_keep (by rw [md33]; decide) (newReader ⟨#[]⟩ []) rfl
  rw [pcall_eq]
  rw [aval_of Try.func12 body12 Try.results12 Try.ntmps12 ok12]
  simp (implicitDefEqProofs := false) (disch := omega) only [go_sem, Nat.reduceAdd, Nat.reduceSub, Nat.reduceMul, Nat.reduceLT, Nat.reduceLeDiff, Nat.reduceEqDiff, List.drop_zero, List.take_succ_cons, List.take_zero, List.drop_succ_cons, Bool.and_true, Bool.true_and, Bool.and_false, Bool.false_and, BitVec.reduceOfInt, Nat.zero_add, Nat.mul_one, Nat.add_zero, Int.zero_add, Int.reduceToNat, Nat.reducePow, ↓reduceIte, reduceCtorEq, Int.reduceLE, Int.reduceLT, Int.reduceEq, Int.reduceNe, Int.reduceAdd, Int.reduceSub, Int.reduceMul, Int.reduceNeg, Nat.reduceBEq, show regOf Try.f12 0 = Code.region _ _ _ from rfl, show regOf Try.f12 1 = Code.region _ _ _ from rfl, c1, c2, c3, c4]
  rw [pureRes_solid rfl]
end Go.Proofs.Ytlpkfeplbcadbaa
