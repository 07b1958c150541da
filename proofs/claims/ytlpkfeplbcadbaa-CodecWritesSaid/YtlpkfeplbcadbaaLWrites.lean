/- CodecWrites is true of every input: the given statement. -/
import Derived.Test.YtlpkfeplbcadbaaC21
import Derived.Test.YtlpkfeplbcadbaaL2
namespace Go.Proofs.Ytlpkfeplbcadbaa
open Go Go.Ab Go.Proofs Go.RowKit Go.ChangeShapes Go.WideShapes
theorem codecWrites_all (avs : List AV) (h : WTAll Try.prog [42] avs) : pcall Try.prog md fg 8 avs = some (.val (.bool true)) := by
  match avs, h with
  | [a], ⟨⟨n, h⟩, _⟩ =>
    obtain ⟨l, rfl⟩ := WT_items h
    exact codecWrites l
set_option maxRecDepth 100000 in
theorem codecWrites_lifted (os : Os) (started : os.Started) (H : Type) (enc : TypeId × Value → H) :
    ReturnsInHanded {} Try.checked os 8 .any (Rows.codecWritesSpec.pre6 enc Try.prog Try.f8 Rows.codecWritesRow.domain false) (Rows.codecWritesSpec.post enc Try.prog Try.f8 false true false false) := by
  refine law_lifted (C := Try.checked) (md := md) (fg := fg) (ts := [42, 48, 3, 30, 9]) own started (by kernel_rfl) Try.func8
    (ChangeSpec.witness6 (enc := enc) (C := Try.checked) false ⟨#[], #[.slice none 0 0], []⟩ 8 (by kernel_rfl) (by kernel_rfl) (by kernel_rfl) (by kernel_rfl))
    rfl (bt := 4) rfl Try.underlying4 mixed (by kernel_rfl) ?_ ?_ laidOut ?_ ?_
  · rw [Try.params8]; decide
  · rw [Try.params8]
    have key : ∀ t ∈ [42], Try.prog.readableRec t = true ∧ t < Try.prog.types.size := by
      simp only [List.forall_mem_cons]
      exact ⟨⟨by kernel_rfl, of_decide_eq_true (by kernel_rfl)⟩, fun t ht => by cases ht⟩
    exact key
  · intro ds hd
    rw [Try.params8] at hd
    match ds, hd with
    | [d0], _ => rfl
  · intro avs h
    rw [Try.params8] at h
    exact codecWrites_all avs h
theorem codecWrites_over : Rows.codecWritesRow.holds Try.pinned (OpenSpec.ofChange Rows.codecWritesSpec) :=
  OpenClaim.holds_of_wide 8 Try.f8 rfl rfl rfl rfl rfl rfl rfl ⟨rfl, rfl, rfl, rfl, rfl⟩ rfl rfl rfl rfl rfl (by kernel_rfl) Try.func8 (by kernel_rfl)
    (of_decide_eq_true (by kernel_rfl)) (by unfold Func.isWrapper; first | (rw [if_pos (by decide +kernel)]; kernel_rfl) | (rw [if_neg (by decide +kernel)]; exact ⟨rfl, rfl⟩))
    (fun os started H enc _ => codecWrites_lifted os started H enc)
theorem codecWritesProved : Rows.CodecWritesSaid := codecWrites_over
#print axioms codecWritesProved
end Go.Proofs.Ytlpkfeplbcadbaa
