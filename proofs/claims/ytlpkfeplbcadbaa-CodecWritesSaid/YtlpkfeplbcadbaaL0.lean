/- What the laws of touchstonelaw02 share: closed facts of the program, and arguments of its types as abstract values. -/
import Derived.Test.YtlpkfeplbcadbaaC4
import Derived.Test.YtlpkfeplbcadbaaRows
namespace Go.Proofs.Ytlpkfeplbcadbaa
open Go Go.Ab Go.Proofs Go.RowKit Go.ChangeShapes Go.WideShapes
theorem own : ownKnob Try.prog.godebug = none := by kernel_rfl
theorem laidOut : laidOutB Try.prog = true := by kernel_rfl
theorem mixed : Try.prog.follows .mixedOrders = true := by kernel_rfl
theorem strs_of {es : List AV} (h : ∀ x ∈ es, ∃ s : ByteArray, x = .val (.string s) ∧ s.size ≤ maxLen) : ∃ l : List ByteArray, es = l.map .str := by
  induction es with
  | nil => exact ⟨[], rfl⟩
  | cons x r ih =>
    obtain ⟨s, rfl, _⟩ := h x (List.mem_cons_self ..)
    obtain ⟨l, rfl⟩ := ih fun y hy => h y (List.mem_cons_of_mem _ hy)
    exact ⟨s :: l, rfl⟩
theorem WT_str {n : Nat} {a : AV} (h : WT Try.prog n 9 a) : ∃ s : ByteArray, a = .val (.string s) ∧ s.size ≤ maxLen := by
  cases n with
  | zero => exact h.elim
  | succ n => unfold WT at h; rw [und_9] at h; exact h
theorem WT_strs {n : Nat} {a : AV} (h : WT Try.prog n 22 a) : ∃ l : List ByteArray, a = .slc false (l.map .str) := by
  cases n with
  | zero => exact h.elim
  | succ n =>
    unfold WT at h
    rw [Try.underlying22] at h
    obtain ⟨es, rfl, _, he⟩ := h
    obtain ⟨l, rfl⟩ := strs_of fun x hx => WT_str (he x hx)
    exact ⟨l, rfl⟩
theorem WT_i64 {n t : Nat} {a : AV} (ht : Try.prog.underlying t = some (.int .i64)) (h : WT Try.prog n t a) : ∃ x, a = .int x ∧ -9223372036854775808 ≤ x ∧ x ≤ 9223372036854775807 := by
  cases n with
  | zero => exact h.elim
  | succ n =>
    unfold WT at h; rw [ht] at h
    obtain ⟨x, rfl, hw⟩ := h
    have hw' : (decide (-9223372036854775808 ≤ x) && decide (x ≤ 9223372036854775807)) = true := hw
    simp only [Bool.and_eq_true, decide_eq_true_eq] at hw'
    exact ⟨x, rfl, hw'⟩
theorem WT_u64 {n t : Nat} {a : AV} (ht : Try.prog.underlying t = some (.int .u64)) (h : WT Try.prog n t a) : ∃ x, a = .val (.int .u64 x) ∧ 0 ≤ x ∧ x < 18446744073709551616 := by
  cases n with
  | zero => exact h.elim
  | succ n =>
    unfold WT at h; rw [ht] at h
    obtain ⟨x, rfl, hw⟩ := h
    have hw' : (decide (0 ≤ x) && decide (x ≤ 18446744073709551615)) = true := hw
    simp only [Bool.and_eq_true, decide_eq_true_eq] at hw'
    exact ⟨x, rfl, hw'.1, by omega⟩
theorem WT_u32 {n t : Nat} {a : AV} (ht : Try.prog.underlying t = some (.int .u32)) (h : WT Try.prog n t a) : ∃ x, a = .val (.int .u32 x) ∧ 0 ≤ x ∧ x < 4294967296 := by
  cases n with
  | zero => exact h.elim
  | succ n =>
    unfold WT at h; rw [ht] at h
    obtain ⟨x, rfl, hw⟩ := h
    have hw' : (decide (0 ≤ x) && decide (x ≤ 4294967295)) = true := hw
    simp only [Bool.and_eq_true, decide_eq_true_eq] at hw'
    exact ⟨x, rfl, hw'.1, by omega⟩
theorem WT_u8 {n t : Nat} {a : AV} (ht : Try.prog.underlying t = some (.int .u8)) (h : WT Try.prog n t a) : ∃ b : UInt8, a = byteVal b := by
  cases n with
  | zero => exact h.elim
  | succ n =>
    unfold WT at h; rw [ht] at h
    obtain ⟨x, rfl, hw⟩ := h
    have hw' : (decide (0 ≤ x) && decide (x ≤ 255)) = true := hw
    simp only [Bool.and_eq_true, decide_eq_true_eq] at hw'
    refine ⟨UInt8.ofNat x.toNat, ?_⟩
    have e : ((UInt8.ofNat x.toNat).toNat : Int) = x := by
      rw [UInt8.toNat_ofNat']; omega
    unfold byteVal; rw [e]
theorem WT_bytes {n t u : Nat} {a : AV} (ht : Try.prog.underlying t = some (.slice u)) (hu : Try.prog.underlying u = some (.int .u8)) (h : WT Try.prog n t a) : ∃ l : List UInt8, a = .slc false (l.map byteVal) := by
  cases n with
  | zero => exact h.elim
  | succ n =>
    unfold WT at h
    rw [ht] at h
    obtain ⟨es, rfl, _, he⟩ := h
    have key : ∀ es : List AV, (∀ x ∈ es, WT Try.prog n u x) → ∃ l : List UInt8, es = l.map byteVal := by
      intro es
      induction es with
      | nil => intro _; exact ⟨[], rfl⟩
      | cons x r ih =>
        intro h
        obtain ⟨b, rfl⟩ := WT_u8 hu (h x (List.mem_cons_self ..))
        obtain ⟨l, rfl⟩ := ih fun y hy => h y (List.mem_cons_of_mem _ hy)
        exact ⟨b :: l, rfl⟩
    obtain ⟨l, rfl⟩ := key es he
    exact ⟨l, rfl⟩
theorem WT_ints {n t u : Nat} {a : AV} (ht : Try.prog.underlying t = some (.slice u)) (hu : Try.prog.underlying u = some (.int .i64)) (h : WT Try.prog n t a) : ∃ l : List Int, a = .slc false (l.map .int) ∧ ∀ x ∈ l, -9223372036854775808 ≤ x ∧ x ≤ 9223372036854775807 := by
  cases n with
  | zero => exact h.elim
  | succ n =>
    unfold WT at h
    rw [ht] at h
    obtain ⟨es, rfl, _, he⟩ := h
    have key : ∀ es : List AV, (∀ x ∈ es, WT Try.prog n u x) → ∃ l : List Int, es = l.map .int ∧ ∀ x ∈ l, -9223372036854775808 ≤ x ∧ x ≤ 9223372036854775807 := by
      intro es
      induction es with
      | nil => intro _; exact ⟨[], rfl, fun x hx => by cases hx⟩
      | cons x r ih =>
        intro h
        obtain ⟨b, rfl, hb⟩ := WT_i64 hu (h x (List.mem_cons_self ..))
        obtain ⟨l, rfl, hl⟩ := ih fun y hy => h y (List.mem_cons_of_mem _ hy)
        exact ⟨b :: l, rfl, fun y hy => by
          rcases List.mem_cons.1 hy with rfl | hy
          · exact hb
          · exact hl y hy⟩
    obtain ⟨l, rfl, hl⟩ := key es he
    exact ⟨l, rfl, hl⟩
end Go.Proofs.Ytlpkfeplbcadbaa
