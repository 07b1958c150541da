/- CodecFixed is true of every input: the given statement. -/
import Derived.Test.YtlpkfeplbcadbaaC9
import Derived.Test.YtlpkfeplbcadbaaL0
namespace Go.Proofs.Ytlpkfeplbcadbaa
open Go Go.Ab Go.Proofs Go.RowKit Go.ChangeShapes Go.WideShapes
theorem codecFixed_all (avs : List AV) (h : WTAll Try.prog [25, 9] avs) : pcall Try.prog md fg 6 avs = some (.val (.bool true)) := by
  match avs, h with
  | [a, b], ⟨⟨n, h⟩, ⟨m, h2⟩, _⟩ =>
    obtain ⟨x, rfl, x1, x2⟩ := WT_u32 und_25 h
    obtain ⟨s, rfl, hs⟩ := WT_str h2
    exact codecFixed x1 x2 s hs
set_option maxRecDepth 100000 in
theorem codecFixed_lifted (os : Os) (started : os.Started) (H : Type) (enc : TypeId × Value → H) :
    ReturnsInHanded {} Try.checked os 6 .any (Rows.codecFixedSpec.pre6 enc Try.prog Try.f6 Rows.codecFixedRow.domain false) (Rows.codecFixedSpec.post enc Try.prog Try.f6 false true false false) := by
  refine law_lifted (C := Try.checked) (md := md) (fg := fg) (ts := [25, 9]) own started (by kernel_rfl) Try.func6
    (ChangeSpec.witness6 (enc := enc) (C := Try.checked) false ⟨#[], #[.int .u32 0, .string ⟨#[]⟩], []⟩ 8 (by kernel_rfl) (by kernel_rfl) (by kernel_rfl) (by kernel_rfl))
    rfl (bt := 4) rfl Try.underlying4 mixed (by kernel_rfl) ?_ ?_ laidOut ?_ ?_
  · rw [Try.params6]; decide
  · rw [Try.params6]
    have key : ∀ t ∈ [25, 9], Try.prog.readableRec t = true ∧ t < Try.prog.types.size := by
      simp only [List.forall_mem_cons]
      exact ⟨⟨by kernel_rfl, of_decide_eq_true (by kernel_rfl)⟩, ⟨by kernel_rfl, of_decide_eq_true (by kernel_rfl)⟩, fun t ht => by cases ht⟩
    exact key
  · intro ds hd
    rw [Try.params6] at hd
    match ds, hd with
    | [d0, d1], _ => rfl
  · intro avs h
    rw [Try.params6] at h
    exact codecFixed_all avs h
theorem codecFixed_over : Rows.codecFixedRow.holds Try.pinned (OpenSpec.ofChange Rows.codecFixedSpec) :=
  OpenClaim.holds_of_wide 6 Try.f6 rfl rfl rfl rfl rfl rfl rfl ⟨rfl, rfl, rfl, rfl, rfl⟩ rfl rfl rfl rfl rfl (by kernel_rfl) Try.func6 (by kernel_rfl)
    (of_decide_eq_true (by kernel_rfl)) (by unfold Func.isWrapper; first | (rw [if_pos (by decide +kernel)]; kernel_rfl) | (rw [if_neg (by decide +kernel)]; exact ⟨rfl, rfl⟩))
    (fun os started H enc _ => codecFixed_lifted os started H enc)
theorem codecFixedProved : Rows.CodecFixedSaid := codecFixed_over
#print axioms codecFixedProved
end Go.Proofs.Ytlpkfeplbcadbaa
