/- CodecNil is true of every input: the given statement. -/
import Derived.Test.YtlpkfeplbcadbaaC14
import Derived.Test.YtlpkfeplbcadbaaL0
namespace Go.Proofs.Ytlpkfeplbcadbaa
open Go Go.Ab Go.Proofs Go.RowKit Go.ChangeShapes Go.WideShapes
theorem codecNil_all (avs : List AV) (h : WTAll Try.prog [9] avs) : pcall Try.prog md fg 10 avs = some (.val (.bool true)) := by
  match avs, h with
  | [a], ⟨⟨n, h⟩, _⟩ =>
    obtain ⟨s, rfl, hs⟩ := WT_str h
    exact codecNil s
set_option maxRecDepth 100000 in
theorem codecNil_lifted (os : Os) (started : os.Started) (H : Type) (enc : TypeId × Value → H) :
    ReturnsInHanded {} Try.checked os 10 .any (Rows.codecNilSpec.pre6 enc Try.prog Try.f10 Rows.codecNilRow.domain false) (Rows.codecNilSpec.post enc Try.prog Try.f10 false true false false) := by
  refine law_lifted (C := Try.checked) (md := md) (fg := fg) (ts := [9]) own started (by kernel_rfl) Try.func10
    (ChangeSpec.witness6 (enc := enc) (C := Try.checked) false ⟨#[], #[.string ⟨#[]⟩], []⟩ 8 (by kernel_rfl) (by kernel_rfl) (by kernel_rfl) (by kernel_rfl))
    rfl (bt := 4) rfl Try.underlying4 mixed (by kernel_rfl) ?_ ?_ laidOut ?_ ?_
  · rw [Try.params10]; decide
  · rw [Try.params10]
    have key : ∀ t ∈ [9], Try.prog.readableRec t = true ∧ t < Try.prog.types.size := by
      simp only [List.forall_mem_cons]
      exact ⟨⟨by kernel_rfl, of_decide_eq_true (by kernel_rfl)⟩, fun t ht => by cases ht⟩
    exact key
  · intro ds hd
    rw [Try.params10] at hd
    match ds, hd with
    | [d0], _ => rfl
  · intro avs h
    rw [Try.params10] at h
    exact codecNil_all avs h
theorem codecNil_over : Rows.codecNilRow.holds Try.pinned (OpenSpec.ofChange Rows.codecNilSpec) :=
  OpenClaim.holds_of_wide 10 Try.f10 rfl rfl rfl rfl rfl rfl rfl ⟨rfl, rfl, rfl, rfl, rfl⟩ rfl rfl rfl rfl rfl (by kernel_rfl) Try.func10 (by kernel_rfl)
    (of_decide_eq_true (by kernel_rfl)) (by unfold Func.isWrapper; first | (rw [if_pos (by decide +kernel)]; kernel_rfl) | (rw [if_neg (by decide +kernel)]; exact ⟨rfl, rfl⟩))
    (fun os started H enc _ => codecNil_lifted os started H enc)
theorem codecNilProved : Rows.CodecNilSaid := codecNil_over
#print axioms codecNilProved
end Go.Proofs.Ytlpkfeplbcadbaa
