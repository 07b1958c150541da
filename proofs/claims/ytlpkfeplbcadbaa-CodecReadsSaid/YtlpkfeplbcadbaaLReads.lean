/- CodecReads is true of every input: the given statement. -/
import Derived.Test.YtlpkfeplbcadbaaC18
import Derived.Test.YtlpkfeplbcadbaaL0
namespace Go.Proofs.Ytlpkfeplbcadbaa
open Go Go.Ab Go.Proofs Go.RowKit Go.ChangeShapes Go.WideShapes
theorem codecReads_all (avs : List AV) (h : WTAll Try.prog [9, 58] avs) : pcall Try.prog md fg 9 avs = some (.val (.bool true)) := by
  match avs, h with
  | [a, b], ⟨⟨n, h⟩, ⟨m, h2⟩, _⟩ =>
    obtain ⟨s, rfl, hs⟩ := WT_str h
    obtain ⟨l, rfl, hl⟩ := WT_ints Try.underlying58 und_3 h2
    exact codecReads s l hl
set_option maxRecDepth 100000 in
theorem codecReads_lifted (os : Os) (started : os.Started) (H : Type) (enc : TypeId × Value → H) :
    ReturnsInHanded {} Try.checked os 9 .any (Rows.codecReadsSpec.pre6 enc Try.prog Try.f9 Rows.codecReadsRow.domain false) (Rows.codecReadsSpec.post enc Try.prog Try.f9 false true false false) := by
  refine law_lifted (C := Try.checked) (md := md) (fg := fg) (ts := [9, 3, 58]) own started (by kernel_rfl) Try.func9
    (ChangeSpec.witness6 (enc := enc) (C := Try.checked) false ⟨#[], #[.string ⟨#[]⟩, .slice none 0 0], []⟩ 8 (by kernel_rfl) (by kernel_rfl) (by kernel_rfl) (by kernel_rfl))
    rfl (bt := 4) rfl Try.underlying4 mixed (by kernel_rfl) ?_ ?_ laidOut ?_ ?_
  · rw [Try.params9]; decide
  · rw [Try.params9]
    have key : ∀ t ∈ [9, 58], Try.prog.readableRec t = true ∧ t < Try.prog.types.size := by
      simp only [List.forall_mem_cons]
      exact ⟨⟨by kernel_rfl, of_decide_eq_true (by kernel_rfl)⟩, ⟨by kernel_rfl, of_decide_eq_true (by kernel_rfl)⟩, fun t ht => by cases ht⟩
    exact key
  · intro ds hd
    rw [Try.params9] at hd
    match ds, hd with
    | [d0, d1], _ => rfl
  · intro avs h
    rw [Try.params9] at h
    exact codecReads_all avs h
theorem codecReads_over : Rows.codecReadsRow.holds Try.pinned (OpenSpec.ofChange Rows.codecReadsSpec) :=
  OpenClaim.holds_of_wide 9 Try.f9 rfl rfl rfl rfl rfl rfl rfl ⟨rfl, rfl, rfl, rfl, rfl⟩ rfl rfl rfl rfl rfl (by kernel_rfl) Try.func9 (by kernel_rfl)
    (of_decide_eq_true (by kernel_rfl)) (by unfold Func.isWrapper; first | (rw [if_pos (by decide +kernel)]; kernel_rfl) | (rw [if_neg (by decide +kernel)]; exact ⟨rfl, rfl⟩))
    (fun os started H enc _ => codecReads_lifted os started H enc)
theorem codecReadsProved : Rows.CodecReadsSaid := codecReads_over
#print axioms codecReadsProved
end Go.Proofs.Ytlpkfeplbcadbaa
