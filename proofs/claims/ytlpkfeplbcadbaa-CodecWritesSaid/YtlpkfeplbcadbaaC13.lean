/- The two readings of a number's bytes are one. -/
import Derived.Test.YtlpkfeplbcadbaaC12
namespace Go.Proofs.Ytlpkfeplbcadbaa
open Go Go.Ab Go.Proofs
set_option maxRecDepth 100000
set_option linter.unusedSimpArgs false
set_option linter.unusedVariables false
def valN : List UInt8 → Nat
  | [] => 0
  | c :: r => c.toNat % 128 + 128 * valN r
theorem valN_snoc : ∀ (p : List UInt8) (c : UInt8), valN (p ++ [c]) = valN p + c.toNat % 128 * 128 ^ p.length
  | [], c => by simp [valN]
  | b :: p, c => by
    simp only [List.cons_append, valN, valN_snoc p c, List.length_cons, Nat.pow_succ]
    rw [Nat.mul_add, Nat.add_assoc]; congr 1; congr 1; rw [← Nat.mul_assoc, Nat.mul_comm 128, Nat.mul_assoc, Nat.mul_comm 128]
theorem valN_lt : ∀ p : List UInt8, valN p < 128 ^ p.length
  | [] => by simp [valN]
  | b :: p => by
    have := valN_lt p
    simp only [valN, List.length_cons, Nat.pow_succ]; omega
theorem valN_uvarN (y : Nat) : valN (uvarN y) = y := by
  induction y using Nat.strongRecOn with
  | ind y ih =>
    by_cases h : y < 128
    · rw [uvarN_small h]; simp only [valN, UInt8.toNat_ofNat']; omega
    · rw [uvarN_big h]; simp only [valN, ih (y / 128) (by omega), UInt8.toNat_ofNat']; omega
theorem uvarN_form (y : Nat) : ∃ p c, uvarN y = p ++ [c] ∧ (∀ b ∈ p, 127 < b.toNat) ∧ c.toNat < 128 ∧ (p ≠ [] → c.toNat ≠ 0) := by
  induction y using Nat.strongRecOn with
  | ind y ih =>
    by_cases h : y < 128
    · exact ⟨[], UInt8.ofNat y, (by rw [uvarN_small h]; rfl), (fun b hb => by cases hb), (by rw [UInt8.toNat_ofNat']; omega), fun h => absurd rfl h⟩
    · obtain ⟨p, c, e, hp, hc, hz⟩ := ih (y / 128) (by omega)
      refine ⟨UInt8.ofNat (y % 128 + 128) :: p, c, by rw [uvarN_big h, e]; rfl, ?_, hc, ?_⟩
      · intro b hb
        rcases List.mem_cons.1 hb with rfl | hb
        · rw [UInt8.toNat_ofNat']; omega
        · exact hp b hb
      · intro _ h0
        by_cases hpe : p = []
        · subst hpe
          have := valN_uvarN (y / 128)
          rw [e] at this
          simp only [List.nil_append, valN, h0] at this
          omega
        · exact hz hpe h0
theorem form_inj {p q : List UInt8} {c d : UInt8} (h : p ++ [c] = q ++ [d]) : p = q ∧ c = d := by
  have := List.append_inj' h rfl
  exact ⟨this.1, by simpa using this.2⟩
theorem uvarN_back : ∀ (p : List UInt8) (c : UInt8), (∀ b ∈ p, 127 < b.toNat) → c.toNat < 128 → (p ≠ [] → c.toNat ≠ 0) → uvarN (valN (p ++ [c])) = p ++ [c]
  | [], c, _, hc, _ => by
    simp only [List.nil_append, valN]
    rw [uvarN_small (by omega)]
    have : UInt8.ofNat (c.toNat % 128 + 128 * 0) = c := UInt8.toNat_inj.1 (by rw [UInt8.toNat_ofNat']; omega)
    rw [this]
  | b :: p, c, hp, hc, hz => by
    have hv : 0 < valN (p ++ [c]) := by
      rw [valN_snoc]
      have h0 := hz (by simp)
      have : 0 < 128 ^ p.length := Nat.pow_pos (by decide)
      have h1 : 0 < c.toNat % 128 * 128 ^ p.length := Nat.mul_pos (by omega) this
      omega
    have ih := uvarN_back p c (fun x hx => hp x (List.mem_cons_of_mem _ hx)) hc (fun _ => hz (by simp))
    have hb := hp b (List.mem_cons_self ..)
    have hb2 := b.toNat_lt
    simp only [List.cons_append, valN]
    rw [uvarN_big (by omega)]
    have e1 : (b.toNat % 128 + 128 * valN (p ++ [c])) / 128 = valN (p ++ [c]) := by omega
    have e2 : UInt8.ofNat ((b.toNat % 128 + 128 * valN (p ++ [c])) % 128 + 128) = b := UInt8.toNat_inj.1 (by rw [UInt8.toNat_ofNat']; omega)
    rw [e1, e2, ih]
theorem valB_nat : ∀ l : List UInt8, (valB l).toNat = valN l % 2 ^ 64
  | [] => rfl
  | c :: r => by
    have h1 : (c.toBitVec % 128#8).toNat = c.toNat % 128 := by rw [BitVec.toNat_umod]; rfl
    have h2 : ((c.toBitVec % 128#8).setWidth 64 : BitVec 64).toNat = c.toNat % 128 := by rw [BitVec.toNat_setWidth, h1]; omega
    have h3 : (128#64 * valB r).toNat = 128 * (valN r % 2 ^ 64) % 2 ^ 64 := by rw [BitVec.toNat_mul, valB_nat r]; rfl
    rw [valB, BitVec.toNat_add, h2, h3, valN]; omega
theorem or_acc (x : BitVec 64) (c : UInt8) (i : Nat) (hx : x.toNat < 128 ^ i) (hc : c.toNat % 128 * 128 ^ i < 2 ^ 64) : (x ||| (c.toBitVec &&& 127#8).setWidth 64 <<< (7 * i)).toNat = x.toNat + c.toNat % 128 * 128 ^ i := by
  have h1 : (c.toBitVec &&& 127#8).toNat = c.toNat % 128 := by
    rw [BitVec.toNat_and]
    exact Nat.and_two_pow_sub_one_eq_mod c.toNat 7
  have h2 : ((c.toBitVec &&& 127#8).setWidth 64 : BitVec 64).toNat = c.toNat % 128 := by rw [BitVec.toNat_setWidth, h1]; omega
  have hp : 128 ^ i = 2 ^ (7 * i) := by rw [show 128 = 2 ^ 7 from rfl, ← Nat.pow_mul]
  rw [hp] at hx hc ⊢
  rw [BitVec.toNat_or, BitVec.toNat_shiftLeft, h2, Nat.shiftLeft_eq, Nat.mod_eq_of_lt hc, Nat.or_comm, ← Nat.shiftLeft_eq, ← Nat.shiftLeft_add_eq_or_of_lt hx, Nat.add_comm]
theorem cnt_pre : ∀ (p r : List UInt8) (k : Nat), (∀ b ∈ p, 127 < b.toNat) → k + p.length ≤ 10 → cntU k (p ++ r) = cntU (k + p.length) r
  | [], r, k, _, _ => rfl
  | b :: p, r, k, hp, hk => by
    simp only [List.length_cons] at hk
    rw [List.cons_append, cntU, if_pos ⟨by omega, hp b (List.mem_cons_self ..)⟩, cnt_pre p r (k + 1) (fun x hx => hp x (List.mem_cons_of_mem _ hx)) (by omega), List.length_cons]
    congr 1; omega
/-- Bytes of which the last one alone is below 128. -/
theorem refU_form (p r : List UInt8) (c : UInt8) (hp : ∀ b ∈ p, 127 < b.toNat) (hl : p.length < 10) (hc : c.toNat < 128) :
    refU (p ++ c :: r) = if (p.length = 9 ∧ 1 < c.toNat) ∨ (c.toNat = 0 ∧ 0 < p.length) then (0#64, 0) else (BitVec.ofNat 64 (valN (p ++ [c])), p.length + 1) := by
  have hn : cntU 0 (p ++ c :: r) = p.length := by
    rw [cnt_pre p _ 0 hp (by omega), Nat.zero_add, cntU, if_neg (by omega)]
  have ht : (p ++ c :: r).take (p.length + 1) = p ++ [c] := by
    rw [show p ++ c :: r = (p ++ [c]) ++ r by simp, List.take_append_of_le_length (by simp)]
    exact List.take_of_length_le (by simp)
  unfold refU
  rw [hn]
  dsimp only
  rw [if_neg (by simp; omega), ht]
  have hlt := valN_lt p
  have hsn := valN_snoc p c
  have hcm : c.toNat % 128 = c.toNat := Nat.mod_eq_of_lt hc
  rw [hcm] at hsn
  have hpw : 128 ^ p.length ≤ 128 ^ 9 := Nat.pow_le_pow_right (by decide) (by omega)
  split
  · rename_i h
    rw [valB_nat] at h
    have hv := valN_uvarN (valN (p ++ [c]) % 2 ^ 64)
    rw [h] at hv
    have hf := uvarN_form (valN (p ++ [c]) % 2 ^ 64)
    obtain ⟨q, d, e, _, _, hz⟩ := hf
    rw [h] at e
    obtain ⟨rfl, rfl⟩ := form_inj e
    rw [if_neg ?_]
    · congr 1
      apply BitVec.eq_of_toNat_eq
      rw [valB_nat, BitVec.toNat_ofNat]
    · rintro (⟨h9, h1⟩ | ⟨h0, hp0⟩)
      · have : valN (p ++ [c]) < 2 ^ 64 := by omega
        rw [h9] at hsn
        have h2 : 2 * 128 ^ 9 ≤ c.toNat * 128 ^ 9 := Nat.mul_le_mul_right _ (by omega)
        omega
      · exact hz (by intro h; rw [h] at hp0; simp at hp0) h0
  · rename_i h
    rw [if_pos ?_]
    refine Classical.byContradiction fun hn2 => h ?_
    have hsmall : valN (p ++ [c]) < 2 ^ 64 := by
      rw [hsn]
      by_cases h9 : p.length = 9
      · rw [h9] at hlt ⊢
        have h2 : c.toNat * 128 ^ 9 ≤ 1 * 128 ^ 9 := Nat.mul_le_mul_right _ (by omega)
        omega
      · have h8 : 128 ^ p.length ≤ 128 ^ 8 := Nat.pow_le_pow_right (by decide) (by omega)
        have h2 : c.toNat * 128 ^ p.length ≤ 127 * 128 ^ 8 := Nat.mul_le_mul (by omega) h8
        omega
    rw [valB_nat, Nat.mod_eq_of_lt hsmall]
    exact uvarN_back p c hp hc (fun hne h0 => hn2 (.inr ⟨h0, by cases p with | nil => exact absurd rfl hne | cons _ _ => simp⟩))
theorem goU_ref : ∀ (r p : List UInt8) (x : BitVec 64), (∀ b ∈ p, 127 < b.toNat) → p.length ≤ 10 → (p.length < 10 → x.toNat = valN p) → goU p.length x r = refU (p ++ r)
  | [], p, x, hp, hl, hx => by
    have hn : cntU 0 (p ++ []) = p.length := by rw [cnt_pre p [] 0 hp (by omega), Nat.zero_add]; rfl
    unfold refU
    rw [hn]
    dsimp only
    rw [if_pos (.inl (by simp))]; rfl
  | c :: r, p, x, hp, hl, hx => by
    rw [goU]
    by_cases h10 : 10 ≤ p.length
    · rw [if_pos h10]
      have hn : cntU 0 (p ++ c :: r) = 10 := by rw [cnt_pre p _ 0 hp (by omega), Nat.zero_add, cntU, if_neg (by omega)]; omega
      unfold refU
      rw [hn]
      dsimp only
      rw [if_pos (.inr rfl)]
    · rw [if_neg h10]
      have hx' := hx (by omega)
      have hlt := valN_lt p
      by_cases h8 : c.toNat < 128
      · rw [refU_form p r c hp (by omega) h8]
        by_cases hc : (p.length = 9 ∧ 1 < c.toNat) ∨ (c.toNat = 0 ∧ 0 < p.length)
        · rw [if_pos hc, if_pos hc]
        · rw [if_neg hc, if_neg hc, if_pos h8]
          have hcm : c.toNat % 128 = c.toNat := Nat.mod_eq_of_lt h8
          have hb : c.toNat % 128 * 128 ^ p.length < 2 ^ 64 := by
            rw [hcm]
            by_cases h9 : p.length = 9
            · rw [h9]
              have h2 : c.toNat * 128 ^ 9 ≤ 1 * 128 ^ 9 := Nat.mul_le_mul_right _ (by omega)
              omega
            · have h8 : 128 ^ p.length ≤ 128 ^ 8 := Nat.pow_le_pow_right (by decide) (by omega)
              have h2 : c.toNat * 128 ^ p.length ≤ 127 * 128 ^ 8 := Nat.mul_le_mul (by omega) h8
              omega
          have ha := or_acc x c p.length (by omega) hb
          rw [Prod.mk.injEq]
          refine ⟨?_, rfl⟩
          apply BitVec.eq_of_toNat_eq
          rw [ha, BitVec.toNat_ofNat, valN_snoc, ← hx', ← ha, Nat.mod_eq_of_lt (BitVec.isLt _)]
      · by_cases h9 : p.length = 9
        · rw [if_pos (.inl ⟨h9, by omega⟩)]
          have hn : cntU 0 (p ++ c :: r) = 10 := by
            have := cnt_pre (p ++ [c]) r 0 (by
              intro b hb
              rcases List.mem_append.1 hb with hb | hb
              · exact hp b hb
              · rw [List.mem_singleton.1 hb]; omega) (by simp; omega)
            rw [List.append_assoc] at this
            rw [show p ++ c :: r = p ++ ([c] ++ r) from rfl, this]
            simp only [List.length_append, List.length_cons, List.length_nil, h9]
            cases r with
            | nil => rfl
            | cons d r => rw [cntU, if_neg (by omega)]
          unfold refU
          rw [hn]
          dsimp only
          rw [if_pos (.inr rfl)]
        · rw [if_neg (by omega), if_neg h8]
          have h8 : 128 ^ p.length ≤ 128 ^ 8 := Nat.pow_le_pow_right (by decide) (by omega)
          have h2 : c.toNat % 128 * 128 ^ p.length ≤ 127 * 128 ^ 8 := Nat.mul_le_mul (by omega) h8
          have ha := or_acc x c p.length (by omega) (by omega)
          have ih := goU_ref r (p ++ [c]) (x ||| (c.toBitVec &&& 127#8).setWidth 64 <<< (7 * p.length)) (by
              intro b hb
              rcases List.mem_append.1 hb with hb | hb
              · exact hp b hb
              · rw [List.mem_singleton.1 hb]; omega) (by simp; omega) (fun _ => by rw [ha, valN_snoc, hx'])
          rw [List.append_assoc] at ih
          simpa using ih
theorem goU_eq (l : List UInt8) : goU 0 0#64 l = refU l := goU_ref l [] 0#64 (fun b hb => by cases hb) (by simp) (fun _ => rfl)
theorem goU_back (x : BitVec 64) (s : List UInt8) : goU 0 0#64 (uvarN x.toNat ++ s) = (x, (uvarN x.toNat).length) := by
  rw [goU_eq]
  obtain ⟨p, c, e, hp, hc, hz⟩ := uvarN_form x.toNat
  have hv := valN_uvarN x.toNat
  have hx := x.isLt
  rw [e, valN_snoc] at hv
  have hcm : c.toNat % 128 = c.toNat := Nat.mod_eq_of_lt hc
  rw [hcm] at hv
  have hl : p.length < 10 := by
    refine Classical.byContradiction fun h => ?_
    have h0 := hz (by intro h2; rw [h2] at h; simp at h)
    have h1 : 128 ^ 10 ≤ 128 ^ p.length := Nat.pow_le_pow_right (by decide) (by omega)
    have h2 : 1 * 128 ^ p.length ≤ c.toNat * 128 ^ p.length := Nat.mul_le_mul_right _ (by omega)
    omega
  rw [e, List.append_assoc, List.singleton_append, refU_form p s c hp hl hc, if_neg]
  · rw [← e, valN_uvarN, BitVec.ofNat_toNat, BitVec.setWidth_eq, e]; simp
  · rintro (⟨h9, h1⟩ | ⟨h0, hp0⟩)
    · rw [h9] at hv
      have h2 : 2 * 128 ^ 9 ≤ c.toNat * 128 ^ 9 := Nat.mul_le_mul_right _ (by omega)
      omega
    · exact hz (by intro h; rw [h] at hp0; simp at hp0) h0
theorem uvarN_len (y : Nat) (hy : y < 2 ^ 64) : (uvarN y).length ≤ 10 := by
  obtain ⟨p, c, e, hp, hc, hz⟩ := uvarN_form y
  have hv := valN_uvarN y
  rw [e, valN_snoc] at hv
  have hcm : c.toNat % 128 = c.toNat := Nat.mod_eq_of_lt hc
  rw [hcm] at hv
  rw [e, List.length_append, List.length_singleton]
  refine Classical.byContradiction fun h => ?_
  have h0 := hz (by intro h2; rw [h2] at h; simp at h)
  have h1 : 128 ^ 10 ≤ 128 ^ p.length := Nat.pow_le_pow_right (by decide) (by omega)
  have h2 : 1 * 128 ^ p.length ≤ c.toNat * 128 ^ p.length := Nat.mul_le_mul_right _ (by omega)
  omega
theorem codecNumbers {x : Int} (x1 : 0 ≤ x) (x2 : x < 18446744073709551616) (s : ByteArray) (hs : s.size ≤ maxLen) : pcall Try.prog md fg 7 [.val (.int .u64 x), .val (.string s)] = some (.bool true) := by
  rw [v64_of x1 x2]
  generalize BitVec.ofInt 64 x = y
  obtain ⟨l, rfl⟩ := txt_of s
  have hz := txt_size l
  have ca : doCall md (aval Try.prog md fg) 12 [] [] = some (.val (.bool true), []) := doCall_pure md12 rfl alive
  rw [pcall_eq]
  rw [aval_of Try.func7 body7 Try.results7 Try.ntmps7 ok7]
  by_cases h : l.length ≤ 1000
  · have hu := uvarN_len y.toNat y.isLt
    have hlen : (uvarN y.toNat ++ l).length = (uvarN y.toNat).length + l.length := List.length_append
    have c1 : doCall md (aval Try.prog md fg) 23 [v64 y] [] = some (.val (.string (txt (uvarN y.toNat))), []) := doCall_pure md23 rfl (uvarint_p y)
    have c2 : doCall md (aval Try.prog md fg) 24 [.val (.string (txt l))] [] = some (.tup [v64 (goU 0 0#64 l).1, .int ((goU 0 0#64 l).2 : Int)], []) := doCall_pure md24 rfl (getUvarint_p l (by omega))
    have c3 : doCall md (aval Try.prog md fg) 25 [.val (.string (txt l))] [] = some (.tup [v64 (goU 0 0#64 l).1, .int ((goU 0 0#64 l).2 : Int)], []) := doCall_pure md25 rfl ((refGetUvarint_p l (by omega)).trans (by rw [goU_eq]))
    have c4 : doCall md (aval Try.prog md fg) 24 [.val (.string (txt (uvarN y.toNat ++ l)))] [] = some (.tup [v64 y, .int ((uvarN y.toNat).length : Int)], []) := doCall_pure md24 rfl ((getUvarint_p _ (by omega)).trans (by rw [goU_back]))
    have c5 : doCall md (aval Try.prog md fg) 26 [v64 y] [] = some (.val (.string (txt (uvarN y.toNat))), []) := doCall_pure md26 rfl (refUvarint_p y)
    simp (implicitDefEqProofs := false) (disch := omega) only [go_sem, Nat.reduceAdd, Nat.reduceSub, Nat.reduceMul, Nat.reduceLT, Nat.reduceLeDiff, Nat.reduceEqDiff, List.drop_zero, List.take_succ_cons, List.take_zero, List.drop_succ_cons, Bool.and_true, Bool.true_and, Bool.and_false, Bool.false_and, BitVec.reduceOfInt, Nat.zero_add, Nat.mul_one, Nat.add_zero, Int.zero_add, Int.reduceToNat, Nat.reducePow, ↓reduceIte, reduceCtorEq, Int.reduceLE, Int.reduceLT, Int.reduceEq, Int.reduceNe, Int.reduceAdd, Int.reduceSub, Int.reduceMul, Int.reduceNeg, Nat.reduceBEq, show regOf Try.f7 0 = Code.region _ _ _ from rfl, show regOf Try.f7 1 = Code.region _ _ _ from rfl, show regOf Try.f7 2 = Code.region _ _ _ from rfl, show regOf Try.f7 3 = Code.region _ _ _ from rfl, show regOf Try.f7 4 = Code.region _ _ _ from rfl, show regOf Try.f7 5 = Code.region _ _ _ from rfl, show regOf Try.f7 6 = Code.region _ _ _ from rfl, show regOf Try.f7 7 = Code.region _ _ _ from rfl, txt_size, c1, c2, c3, c4, c5, ca, cat2]
    rw [pureRes_solid rfl]
  · simp (implicitDefEqProofs := false) (disch := omega) only [go_sem, Nat.reduceAdd, Nat.reduceSub, Nat.reduceMul, Nat.reduceLT, Nat.reduceLeDiff, Nat.reduceEqDiff, List.drop_zero, List.take_succ_cons, List.take_zero, List.drop_succ_cons, Bool.and_true, Bool.true_and, Bool.and_false, Bool.false_and, BitVec.reduceOfInt, Nat.zero_add, Nat.mul_one, Nat.add_zero, Int.zero_add, Int.reduceToNat, Nat.reducePow, ↓reduceIte, reduceCtorEq, Int.reduceLE, Int.reduceLT, Int.reduceEq, Int.reduceNe, Int.reduceAdd, Int.reduceSub, Int.reduceMul, Int.reduceNeg, Nat.reduceBEq, show regOf Try.f7 0 = Code.region _ _ _ from rfl, show regOf Try.f7 1 = Code.region _ _ _ from rfl, show regOf Try.f7 2 = Code.region _ _ _ from rfl, show regOf Try.f7 3 = Code.region _ _ _ from rfl, show regOf Try.f7 4 = Code.region _ _ _ from rfl, show regOf Try.f7 5 = Code.region _ _ _ from rfl, show regOf Try.f7 6 = Code.region _ _ _ from rfl, show regOf Try.f7 7 = Code.region _ _ _ from rfl, ca]
    rw [pureRes_solid rfl]
end Go.Proofs.Ytlpkfeplbcadbaa
