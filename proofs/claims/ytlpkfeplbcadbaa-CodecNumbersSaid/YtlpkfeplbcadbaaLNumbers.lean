/- CodecNumbers is true of every input: the given statement. -/
import Derived.Test.YtlpkfeplbcadbaaC13
import Derived.Test.YtlpkfeplbcadbaaL0
namespace Go.Proofs.Ytlpkfeplbcadbaa
open Go Go.Ab Go.Proofs Go.RowKit Go.ChangeShapes Go.WideShapes
theorem codecNumbers_all (avs : List AV) (h : WTAll Try.prog [30, 9] avs) : pcall Try.prog md fg 7 avs = some (.val (.bool true)) := by
  match avs, h with
  | [a, b], ⟨⟨n, h⟩, ⟨m, h2⟩, _⟩ =>
    obtain ⟨x, rfl, x1, x2⟩ := WT_u64 und_30 h
    obtain ⟨s, rfl, hs⟩ := WT_str h2
    exact codecNumbers x1 x2 s hs
set_option maxRecDepth 100000 in
theorem codecNumbers_lifted (os : Os) (started : os.Started) (H : Type) (enc : TypeId × Value → H) :
    ReturnsInHanded {} Try.checked os 7 .any (Rows.codecNumbersSpec.pre6 enc Try.prog Try.f7 Rows.codecNumbersRow.domain false) (Rows.codecNumbersSpec.post enc Try.prog Try.f7 false true false false) := by
  refine law_lifted (C := Try.checked) (md := md) (fg := fg) (ts := [30, 9]) own started (by kernel_rfl) Try.func7
    (ChangeSpec.witness6 (enc := enc) (C := Try.checked) false ⟨#[], #[.int .u64 0, .string ⟨#[]⟩], []⟩ 8 (by kernel_rfl) (by kernel_rfl) (by kernel_rfl) (by kernel_rfl))
    rfl (bt := 4) rfl Try.underlying4 mixed (by kernel_rfl) ?_ ?_ laidOut ?_ ?_
  · rw [Try.params7]; decide
  · rw [Try.params7]
    have key : ∀ t ∈ [30, 9], Try.prog.readableRec t = true ∧ t < Try.prog.types.size := by
      simp only [List.forall_mem_cons]
      exact ⟨⟨by kernel_rfl, of_decide_eq_true (by kernel_rfl)⟩, ⟨by kernel_rfl, of_decide_eq_true (by kernel_rfl)⟩, fun t ht => by cases ht⟩
    exact key
  · intro ds hd
    rw [Try.params7] at hd
    match ds, hd with
    | [d0, d1], _ => rfl
  · intro avs h
    rw [Try.params7] at h
    exact codecNumbers_all avs h
theorem codecNumbers_over : Rows.codecNumbersRow.holds Try.pinned (OpenSpec.ofChange Rows.codecNumbersSpec) :=
  OpenClaim.holds_of_wide 7 Try.f7 rfl rfl rfl rfl rfl rfl rfl ⟨rfl, rfl, rfl, rfl, rfl⟩ rfl rfl rfl rfl rfl (by kernel_rfl) Try.func7 (by kernel_rfl)
    (of_decide_eq_true (by kernel_rfl)) (by unfold Func.isWrapper; first | (rw [if_pos (by decide +kernel)]; kernel_rfl) | (rw [if_neg (by decide +kernel)]; exact ⟨rfl, rfl⟩))
    (fun os started H enc _ => codecNumbers_lifted os started H enc)
theorem codecNumbersProved : Rows.CodecNumbersSaid := codecNumbers_over
#print axioms codecNumbersProved
end Go.Proofs.Ytlpkfeplbcadbaa
