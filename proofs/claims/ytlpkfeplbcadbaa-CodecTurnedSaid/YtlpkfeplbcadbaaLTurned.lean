/- CodecTurned is true of every input: the given statement. -/
import Derived.Test.YtlpkfeplbcadbaaC11
import Derived.Test.YtlpkfeplbcadbaaL0
namespace Go.Proofs.Ytlpkfeplbcadbaa
open Go Go.Ab Go.Proofs Go.RowKit Go.ChangeShapes Go.WideShapes
theorem codecTurned_all (avs : List AV) (h : WTAll Try.prog [9, 3, 28] avs) : pcall Try.prog md fg 4 avs = some (.val (.bool true)) := by
  match avs, h with
  | [a, b, c], ⟨⟨n, h⟩, ⟨m, h2⟩, ⟨k, h3⟩, _⟩ =>
    obtain ⟨s, rfl, _⟩ := WT_str h
    obtain ⟨x, rfl, x1, x2⟩ := WT_i64 und_3 h2
    obtain ⟨l, rfl⟩ := WT_bytes und_28 und_5 h3
    exact codecTurned s x l x1 x2
set_option maxRecDepth 100000 in
theorem codecTurned_lifted (os : Os) (started : os.Started) (H : Type) (enc : TypeId × Value → H) :
    ReturnsInHanded {} Try.checked os 4 .any (Rows.codecTurnedSpec.pre6 enc Try.prog Try.f4 Rows.codecTurnedRow.domain false) (Rows.codecTurnedSpec.post enc Try.prog Try.f4 false true false false) := by
  refine law_lifted (C := Try.checked) (md := md) (fg := fg) (ts := [3, 5, 9, 28]) own started (by kernel_rfl) Try.func4
    (ChangeSpec.witness6 (enc := enc) (C := Try.checked) false ⟨#[], #[.string ⟨#[]⟩, .int .i64 0, .slice none 0 0], []⟩ 8 (by kernel_rfl) (by kernel_rfl) (by kernel_rfl) (by kernel_rfl))
    rfl (bt := 4) rfl Try.underlying4 mixed (by kernel_rfl) ?_ ?_ laidOut ?_ ?_
  · rw [Try.params4]; decide
  · rw [Try.params4]
    have key : ∀ t ∈ [9, 3, 28], Try.prog.readableRec t = true ∧ t < Try.prog.types.size := by
      simp only [List.forall_mem_cons]
      exact ⟨⟨by kernel_rfl, of_decide_eq_true (by kernel_rfl)⟩, ⟨by kernel_rfl, of_decide_eq_true (by kernel_rfl)⟩, ⟨by kernel_rfl, of_decide_eq_true (by kernel_rfl)⟩, fun t ht => by cases ht⟩
    exact key
  · intro ds hd
    rw [Try.params4] at hd
    match ds, hd with
    | [d0, d1, d2], _ => rfl
  · intro avs h
    rw [Try.params4] at h
    exact codecTurned_all avs h
theorem codecTurned_over : Rows.codecTurnedRow.holds Try.pinned (OpenSpec.ofChange Rows.codecTurnedSpec) :=
  OpenClaim.holds_of_wide 4 Try.f4 rfl rfl rfl rfl rfl rfl rfl ⟨rfl, rfl, rfl, rfl, rfl⟩ rfl rfl rfl rfl rfl (by kernel_rfl) Try.func4 (by kernel_rfl)
    (of_decide_eq_true (by kernel_rfl)) (by unfold Func.isWrapper; first | (rw [if_pos (by decide +kernel)]; kernel_rfl) | (rw [if_neg (by decide +kernel)]; exact ⟨rfl, rfl⟩))
    (fun os started H enc _ => codecTurned_lifted os started H enc)
theorem codecTurnedProved : Rows.CodecTurnedSaid := codecTurned_over
#print axioms codecTurnedProved
end Go.Proofs.Ytlpkfeplbcadbaa
