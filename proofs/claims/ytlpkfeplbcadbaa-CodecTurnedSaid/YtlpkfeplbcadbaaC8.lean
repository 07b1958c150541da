/- CodecTurned, by rounds: four bytes that are turned turn the sum. -/
import Derived.Test.YtlpkfeplbcadbaaC9
namespace Go.Proofs.Ytlpkfeplbcadbaa
open Go Go.Ab Go.Proofs
set_option maxRecDepth 100000
set_option linter.unusedSimpArgs false
/-! ### The plain law -/
theorem pol_top (b : Bool) : (pol b).getLsbD 31 = b := by cases b <;> rfl
theorem stepR_inj {x y : BitVec 32} (h : stepR x = stepR y) : x = y := by
  rw [stepR_eq, stepR_eq] at h
  have top : ∀ z : BitVec 32, (z >>> 1 ^^^ pol (z.getLsbD 0)).getLsbD 31 = z.getLsbD 0 := by
    intro z
    rw [BitVec.getLsbD_xor, pol_top, BitVec.getLsbD_ushiftRight, BitVec.getLsbD_of_ge _ _ (by omega)]; simp
  have h0 : x.getLsbD 0 = y.getLsbD 0 := by rw [← top x, ← top y, h]
  rw [h0] at h
  have h1 : x >>> 1 = y >>> 1 := by
    have := congrArg (· ^^^ pol (y.getLsbD 0)) h
    simpa [BitVec.xor_assoc] using this
  apply BitVec.eq_of_getLsbD_eq
  intro i hi
  cases i with
  | zero => exact h0
  | succ i =>
    have := congrArg (fun z => BitVec.getLsbD z i) h1
    simpa [BitVec.getLsbD_ushiftRight, Nat.add_comm] using this
theorem step8_inj {x y : BitVec 32} (h : step8 x = step8 y) : x = y :=
  stepR_inj (stepR_inj (stepR_inj (stepR_inj (stepR_inj (stepR_inj (stepR_inj (stepR_inj h)))))))
theorem step8_xor (x y : BitVec 32) : step8 (x ^^^ y) = step8 x ^^^ step8 y := by
  unfold step8; simp only [stepR_xor]
theorem step8_shl (y : BitVec 32) (hy : y.toNat < 2 ^ 24) : step8 (y <<< 8) = y := by
  have hb : ∀ i, 24 ≤ i → y.getLsbD i = false := fun i hi =>
    Nat.testBit_lt_two_pow (Nat.lt_of_lt_of_le hy (Nat.pow_le_pow_right (by decide) hi))
  have e1 : y <<< 8 = ((y <<< 8) >>> 4) <<< 4 := by
    apply BitVec.eq_of_getLsbD_eq
    intro i hi
    simp only [BitVec.getLsbD_shiftLeft, BitVec.getLsbD_ushiftRight]
    by_cases h : i < 8
    · by_cases h4 : i < 4
      · simp [h, h4]
      · have : 4 + (i - 4) = i := by omega
        simp [h, h4, this]
    · have : 4 + (i - 4) = i := by omega
      have h4 : ¬ i < 4 := by omega
      simp [h, h4, this, hi]
  have e2 : (y <<< 8) >>> 4 = (((y <<< 8) >>> 4) >>> 4) <<< 4 := by
    apply BitVec.eq_of_getLsbD_eq
    intro i hi
    simp only [BitVec.getLsbD_shiftLeft, BitVec.getLsbD_ushiftRight]
    by_cases h : i < 4
    · have : 4 + i < 8 := by omega
      simp [h, this]
    · have e : 4 + (4 + (i - 4)) = 4 + i := by omega
      simp [h, e, hi]
  show step4 (step4 (y <<< 8)) = y
  rw [e1, step4_shl, e2, step4_shl]
  apply BitVec.eq_of_getLsbD_eq
  intro i hi
  simp only [BitVec.getLsbD_shiftLeft, BitVec.getLsbD_ushiftRight]
  have e : 4 + (4 + i) - 8 = i := by omega
  rw [e]
  by_cases h : i < 24
  · have h1 : 4 + (4 + i) < 32 := by omega
    have h2 : ¬ 4 + (4 + i) < 8 := by omega
    simp [h1, h2]
  · rw [hb i (by omega)]; simp
/-- Bytes as one number, the first the lowest. -/
def word : List UInt8 → BitVec 32
  | [] => 0#32
  | d :: r => d.toBitVec.setWidth 32 ^^^ (word r <<< 8)
def wordN : List UInt8 → Nat
  | [] => 0
  | d :: r => d.toNat + 256 * wordN r
theorem wordN_lt : ∀ l : List UInt8, wordN l < 256 ^ l.length
  | [] => by simp [wordN]
  | d :: r => by
    have h1 := wordN_lt r
    have h2 := d.toNat_lt
    simp only [wordN, List.length_cons, Nat.pow_succ]; omega
theorem word_nat : ∀ l : List UInt8, l.length ≤ 4 → (word l).toNat = wordN l
  | [], _ => rfl
  | d :: r, h => by
    simp only [List.length_cons] at h
    have ih := word_nat r (by omega)
    have hlt := wordN_lt r
    have hp : 256 ^ r.length ≤ 256 ^ 3 := Nat.pow_le_pow_right (by decide) (by omega)
    have hw : (d.toBitVec.setWidth 32 : BitVec 32).toNat = d.toNat := by
      rw [BitVec.toNat_setWidth]; exact Nat.mod_eq_of_lt (Nat.lt_trans d.toBitVec.isLt (by decide))
    have hd := d.toNat_lt
    have ho : d.toBitVec.setWidth 32 ^^^ (word r <<< 8) = d.toBitVec.setWidth 32 ||| (word r <<< 8) := by
      apply BitVec.eq_of_getLsbD_eq
      intro i hi
      rw [BitVec.getLsbD_xor, BitVec.getLsbD_or, BitVec.getLsbD_shiftLeft]
      by_cases h8 : i < 8
      · simp [h8]
      · have : (d.toBitVec.setWidth 32 : BitVec 32).getLsbD i = false := by
          rw [BitVec.getLsbD, hw]
          exact Nat.testBit_lt_two_pow (Nat.lt_of_lt_of_le hd (Nat.pow_le_pow_right (n := 2) (i := 8) (by decide) (by omega)))
        rw [this]; simp
    rw [word, ho, or_add _ _ 8 (by rw [hw]; omega) (by rw [ih]; omega), hw, ih, wordN]; omega
theorem wordN_inj : ∀ {a b : List UInt8}, a.length = b.length → wordN a = wordN b → a = b
  | [], [], _, _ => rfl
  | d :: r, e :: q, hl, h => by
    have h1 := d.toNat_lt
    have h2 := e.toNat_lt
    simp only [wordN] at h
    have hd : d = e := UInt8.toNat_inj.1 (by omega)
    rw [hd, wordN_inj (by simpa using hl) (by omega : wordN r = wordN q)]
  | [], _ :: _, h, _ => by cases h
  | _ :: _, [], h, _ => by cases h
def step8n : Nat → BitVec 32 → BitVec 32
  | 0, x => x
  | n + 1, x => step8n n (step8 x)
theorem step8n_inj : ∀ {n : Nat} {x y : BitVec 32}, step8n n x = step8n n y → x = y
  | 0, _, _, h => h
  | _ + 1, _, _, h => step8_inj (step8n_inj h)
theorem fold_word : ∀ (l : List UInt8) (x : BitVec 32), l.length ≤ 4 → l.foldl byteR x = step8n l.length (x ^^^ word l)
  | [], x, _ => by simp [word, step8n]
  | d :: r, x, h => by
    simp only [List.length_cons] at h
    have hlt := wordN_lt r
    have hp : 256 ^ r.length ≤ 256 ^ 3 := Nat.pow_le_pow_right (by decide) (by omega)
    rw [List.foldl_cons, fold_word r _ (by omega), List.length_cons, step8n, byteR, word, ← BitVec.xor_assoc, step8_xor (x ^^^ _), step8_shl _ (by rw [word_nat r (by omega)]; omega)]
theorem fold_inj : ∀ (l : List UInt8) (x y : BitVec 32), l.foldl byteR x = l.foldl byteR y → x = y
  | [], _, _, h => h
  | d :: r, x, y, h => by
    have := step8_inj (fold_inj r _ _ h)
    have e := congrArg (· ^^^ d.toBitVec.setWidth 32) this
    simpa [BitVec.xor_assoc] using e
theorem sum_window (a m m' b : List UInt8) (hl : m.length = m'.length) (h4 : m.length ≤ 4) : sumR (a ++ m ++ b) = sumR (a ++ m' ++ b) ↔ m = m' := by
  constructor
  · intro h
    unfold sumR at h
    have h1 : (a ++ m ++ b).foldl byteR 4294967295#32 = (a ++ m' ++ b).foldl byteR 4294967295#32 := by
      have := congrArg (· ^^^ 4294967295#32) h
      simpa [BitVec.xor_assoc] using this
    simp only [List.foldl_append] at h1
    have h2 := fold_inj b _ _ h1
    rw [fold_word m _ h4, fold_word m' _ (by omega), ← hl] at h2
    have h3 := step8n_inj h2
    have h5 : word m = word m' := by
      have := congrArg (a.foldl byteR 4294967295#32 ^^^ ·) h3
      simpa [← BitVec.xor_assoc] using this
    exact wordN_inj hl (by rw [← word_nat m h4, ← word_nat m' (by omega), h5])
  · rintro rfl; rfl
/-- Bytes that are turned from a place on. -/
def turnL : List UInt8 → Nat → List UInt8 → List UInt8
  | l, _, [] => l
  | l, p, c :: r => turnL (match l[p]? with | some x => l.set p (x ^^^ c) | none => l) (p + 1) r
/-- Is one of them another? -/
def turnB (n : Nat) : Nat → List UInt8 → Bool
  | _, [] => false
  | p, c :: r => (decide (p < n) && c != 0) || turnB n (p + 1) r
/-- Bytes against bytes. -/
def xorL : List UInt8 → List UInt8 → List UInt8
  | x :: l, c :: r => (x ^^^ c) :: xorL l r
  | l, _ => l
theorem xorL_length : ∀ l r : List UInt8, (xorL l r).length = l.length
  | [], r => by cases r <;> rfl
  | x :: l, [] => rfl
  | x :: l, c :: r => by simp only [xorL, List.length_cons, xorL_length l r]
theorem turnL_eq : ∀ (cs a l : List UInt8), turnL (a ++ l) a.length cs = a ++ xorL l cs
  | [], a, l => by cases l <;> rfl
  | c :: r, a, [] => by
    have h : (a ++ ([] : List UInt8))[a.length]? = none := by simp
    rw [turnL, h]
    have key : ∀ (cs a : List UInt8) (p : Nat), a.length ≤ p → turnL a p cs = a := by
      intro cs
      induction cs with
      | nil => intro a p _; rfl
      | cons c r ih =>
        intro a p hp
        have : a[p]? = none := List.getElem?_eq_none hp
        rw [turnL, this]; exact ih a (p + 1) (by omega)
    rw [List.append_nil]
    show turnL a (a.length + 1) r = a ++ []
    rw [key r a _ (by omega), List.append_nil]
  | c :: r, a, x :: l => by
    have h : (a ++ x :: l)[a.length]? = some x := by simp
    rw [turnL, h]
    have e : (a ++ x :: l).set a.length (x ^^^ c) = (a ++ [x ^^^ c]) ++ l := by simp
    have := turnL_eq r (a ++ [x ^^^ c]) l
    simp only [List.length_append, List.length_cons, List.length_nil, Nat.zero_add] at this
    dsimp only
    rw [e, this, xorL]; simp
theorem xor_zero_iff (x c : UInt8) : x = x ^^^ c ↔ c = 0 := by
  constructor
  · intro h
    have h2 := congrArg (x ^^^ ·) h
    simpa [← UInt8.xor_assoc] using h2.symm
  · rintro rfl; simp
theorem turnB_eq : ∀ (cs l : List UInt8) (p n : Nat), n = p + l.length → (turnB n p cs = false ↔ l = xorL l cs)
  | [], l, p, n, _ => by cases l <;> simp [turnB, xorL]
  | c :: r, [], p, n, h => by
    have key : ∀ (cs : List UInt8) (p : Nat), n ≤ p → turnB n p cs = false := by
      intro cs
      induction cs with
      | nil => intro p _; rfl
      | cons c r ih => intro p hp; simp only [turnB, ih (p + 1) (by omega), Bool.or_false]; simp; omega
    simp only [List.length_nil] at h
    simp [key (c :: r) p (by omega), xorL]
  | c :: r, x :: l, p, n, h => by
    simp only [List.length_cons] at h
    have ih := turnB_eq r l (p + 1) n (by omega)
    have hp : p < n := by omega
    simp only [turnB, xorL, List.cons.injEq, Bool.or_eq_false_iff, ih, hp, decide_true, Bool.true_and, xor_zero_iff]
    simp
theorem turned (l cs : List UInt8) (p : Nat) (hp : p ≤ l.length) (h4 : cs.length ≤ 4) : (!decide (sumR (turnL l p cs) = sumR l)) = turnB l.length p cs := by
  have hl : l = l.take p ++ (l.drop p) := (List.take_append_drop p l).symm
  have ht : turnL l p cs = l.take p ++ xorL (l.drop p) cs := by
    have := turnL_eq cs (l.take p) (l.drop p)
    rw [List.take_append_drop, List.length_take, Nat.min_eq_left hp] at this
    exact this
  have hb := turnB_eq cs (l.drop p) p l.length (by simp; omega)
  have split : ∀ (a b : List UInt8), b.length ≤ 4 → ∃ m m' t, m.length = m'.length ∧ m.length ≤ 4 ∧ a = m ++ t ∧ xorL a b = m' ++ t := by
    intro a
    induction a with
    | nil => intro b _; exact ⟨[], [], [], rfl, by simp, rfl, by cases b <;> rfl⟩
    | cons x a ih =>
      intro b hb
      cases b with
      | nil => exact ⟨[], [], x :: a, rfl, by simp, rfl, rfl⟩
      | cons c b =>
        have key : ∀ (k : Nat) (a b : List UInt8), b.length ≤ k → ∃ m m' t, m.length = m'.length ∧ m.length ≤ k ∧ a = m ++ t ∧ xorL a b = m' ++ t := by
          intro k
          induction k with
          | zero =>
            intro a b hb
            have : b = [] := List.length_eq_zero_iff.1 (by omega)
            subst this
            exact ⟨[], [], a, rfl, by simp, rfl, by cases a <;> rfl⟩
          | succ k ihk =>
            intro a b hb
            match a, b with
            | [], b => exact ⟨[], [], [], rfl, by simp, rfl, by cases b <;> rfl⟩
            | x :: a, [] => exact ⟨[], [], x :: a, rfl, by simp, rfl, rfl⟩
            | x :: a, c :: b =>
              obtain ⟨m, m', t, h1, h2, h3, h4⟩ := ihk a b (by simpa using hb)
              exact ⟨x :: m, (x ^^^ c) :: m', t, by simp [h1], by simp; omega, by rw [h3]; rfl, by rw [xorL, h4]; rfl⟩
        exact key 4 (x :: a) (c :: b) hb
  obtain ⟨m, m', t, h1, h2, h3, h4'⟩ := split (l.drop p) cs h4
  have hs := sum_window (l.take p) m m' t h1 h2
  have e1 : sumR (turnL l p cs) = sumR (l.take p ++ m' ++ t) := by rw [ht, h4', List.append_assoc]
  have e2 : sumR l = sumR (l.take p ++ m ++ t) := by
    conv => lhs; rw [hl]
    rw [h3, List.append_assoc]
  have hm : m = m' ↔ l.drop p = xorL (l.drop p) cs := by
    rw [h4', h3]
    constructor
    · intro h; rw [h]
    · intro h; exact List.append_cancel_right h
  cases hB : turnB l.length p cs with
  | false =>
    have := hm.2 (hb.1 hB)
    have e : sumR (turnL l p cs) = sumR l := by rw [e1, e2, this]
    simp [e]
  | true =>
    have hne : ¬ sumR (turnL l p cs) = sumR l := by
      intro h
      rw [e1, e2] at h
      have := hb.2 (hm.1 (hs.1 h.symm))
      rw [hB] at this; cases this
    simp [hne]
end Go.Proofs.Ytlpkfeplbcadbaa
