/- CodecSums is true of every input: the given statement. -/
import Derived.Test.YtlpkfeplbcadbaaC6
import Derived.Test.YtlpkfeplbcadbaaRows
namespace Go.Proofs.Ytlpkfeplbcadbaa
open Go Go.Ab Go.Proofs Go.RowKit Go.ChangeShapes Go.WideShapes
theorem own : ownKnob Try.prog.godebug = none := by kernel_rfl
theorem laidOut : laidOutB Try.prog = true := by kernel_rfl
theorem mixed : Try.prog.follows .mixedOrders = true := by kernel_rfl
theorem strs_of {es : List AV} (h : ∀ x ∈ es, ∃ s : ByteArray, x = .val (.string s) ∧ s.size ≤ maxLen) : ∃ l : List ByteArray, es = l.map .str := by
  induction es with
  | nil => exact ⟨[], rfl⟩
  | cons x r ih =>
    obtain ⟨s, rfl, _⟩ := h x (List.mem_cons_self ..)
    obtain ⟨l, rfl⟩ := ih fun y hy => h y (List.mem_cons_of_mem _ hy)
    exact ⟨s :: l, rfl⟩
theorem WT_str {n : Nat} {a : AV} (h : WT Try.prog n 9 a) : ∃ s : ByteArray, a = .val (.string s) ∧ s.size ≤ maxLen := by
  cases n with
  | zero => exact h.elim
  | succ n => unfold WT at h; rw [und_9] at h; exact h
theorem WT_strs {n : Nat} {a : AV} (h : WT Try.prog n 22 a) : ∃ l : List ByteArray, a = .slc false (l.map .str) := by
  cases n with
  | zero => exact h.elim
  | succ n =>
    unfold WT at h
    rw [Try.underlying22] at h
    obtain ⟨es, rfl, _, he⟩ := h
    obtain ⟨l, rfl⟩ := strs_of fun x hx => WT_str (he x hx)
    exact ⟨l, rfl⟩
theorem codecSums_all (avs : List AV) (h : WTAll Try.prog [22] avs) : pcall Try.prog md fg 3 avs = some (.val (.bool true)) := by
  match avs, h with
  | [a], ⟨⟨n, h⟩, _⟩ =>
    obtain ⟨l, rfl⟩ := WT_strs h
    exact codecSums l
set_option maxRecDepth 100000 in
theorem codecSums_lifted (os : Os) (started : os.Started) (H : Type) (enc : TypeId × Value → H) :
    ReturnsInHanded {} Try.checked os 3 .any (Rows.codecSumsSpec.pre6 enc Try.prog Try.f3 Rows.codecSumsRow.domain false) (Rows.codecSumsSpec.post enc Try.prog Try.f3 false true false false) := by
  refine law_lifted (C := Try.checked) (md := md) (fg := fg) (ts := [9, 22]) own started (by kernel_rfl) Try.func3
    (ChangeSpec.witness6 (enc := enc) (C := Try.checked) false ⟨#[], #[.slice none 0 0], []⟩ 8 (by kernel_rfl) (by kernel_rfl) (by kernel_rfl) (by kernel_rfl))
    rfl (bt := 4) rfl Try.underlying4 mixed (by kernel_rfl) ?_ ?_ laidOut ?_ ?_
  · rw [Try.params3]; decide
  · rw [Try.params3]
    intro t ht
    rcases List.mem_singleton.1 ht with rfl
    exact ⟨by kernel_rfl, of_decide_eq_true (by kernel_rfl)⟩
  · intro ds hd
    rw [Try.params3] at hd
    obtain ⟨d, rfl⟩ : ∃ d, ds = [d] := by
      match ds, hd with
      | [d], _ => exact ⟨d, rfl⟩
    rfl
  · intro avs h
    rw [Try.params3] at h
    exact codecSums_all avs h
theorem codecSums_over : Rows.codecSumsRow.holds Try.pinned (OpenSpec.ofChange Rows.codecSumsSpec) :=
  OpenClaim.holds_of_wide 3 Try.f3 rfl rfl rfl rfl rfl rfl rfl ⟨rfl, rfl, rfl, rfl, rfl⟩ rfl rfl rfl rfl rfl (by kernel_rfl) Try.func3 (by kernel_rfl)
    (of_decide_eq_true (by kernel_rfl)) (by unfold Func.isWrapper; first | (rw [if_pos (by decide +kernel)]; kernel_rfl) | (rw [if_neg (by decide +kernel)]; exact ⟨rfl, rfl⟩))
    (fun os started H enc _ => codecSums_lifted os started H enc)
theorem codecSumsProved : Rows.CodecSumsSaid := codecSums_over
#print axioms codecSumsProved
end Go.Proofs.Ytlpkfeplbcadbaa
