/- CodecSigns is true of every input: the given statement. -/
import Derived.Test.YtlpkfeplbcadbaaC7
import Derived.Test.YtlpkfeplbcadbaaL0
namespace Go.Proofs.Ytlpkfeplbcadbaa
open Go Go.Ab Go.Proofs Go.RowKit Go.ChangeShapes Go.WideShapes
theorem codecSigns_all (avs : List AV) (h : WTAll Try.prog [2, 30] avs) : pcall Try.prog md fg 5 avs = some (.val (.bool true)) := by
  match avs, h with
  | [a, b], ⟨⟨n, h⟩, ⟨m, h2⟩, _⟩ =>
    obtain ⟨x, rfl, x1, x2⟩ := WT_i64 und_2 h
    obtain ⟨y, rfl, y1, y2⟩ := WT_u64 und_30 h2
    exact codecSigns x1 x2 y1 y2
set_option maxRecDepth 100000 in
theorem codecSigns_lifted (os : Os) (started : os.Started) (H : Type) (enc : TypeId × Value → H) :
    ReturnsInHanded {} Try.checked os 5 .any (Rows.codecSignsSpec.pre6 enc Try.prog Try.f5 Rows.codecSignsRow.domain false) (Rows.codecSignsSpec.post enc Try.prog Try.f5 false true false false) := by
  refine law_lifted (C := Try.checked) (md := md) (fg := fg) (ts := [2, 30]) own started (by kernel_rfl) Try.func5
    (ChangeSpec.witness6 (enc := enc) (C := Try.checked) false ⟨#[], #[.int .i64 0, .int .u64 0], []⟩ 8 (by kernel_rfl) (by kernel_rfl) (by kernel_rfl) (by kernel_rfl))
    rfl (bt := 4) rfl Try.underlying4 mixed (by kernel_rfl) ?_ ?_ laidOut ?_ ?_
  · rw [Try.params5]; decide
  · rw [Try.params5]
    have key : ∀ t ∈ [2, 30], Try.prog.readableRec t = true ∧ t < Try.prog.types.size := by
      simp only [List.forall_mem_cons]
      exact ⟨⟨by kernel_rfl, of_decide_eq_true (by kernel_rfl)⟩, ⟨by kernel_rfl, of_decide_eq_true (by kernel_rfl)⟩, fun t ht => by cases ht⟩
    exact key
  · intro ds hd
    rw [Try.params5] at hd
    match ds, hd with
    | [d0, d1], _ => rfl
  · intro avs h
    rw [Try.params5] at h
    exact codecSigns_all avs h
theorem codecSigns_over : Rows.codecSignsRow.holds Try.pinned (OpenSpec.ofChange Rows.codecSignsSpec) :=
  OpenClaim.holds_of_wide 5 Try.f5 rfl rfl rfl rfl rfl rfl rfl ⟨rfl, rfl, rfl, rfl, rfl⟩ rfl rfl rfl rfl rfl (by kernel_rfl) Try.func5 (by kernel_rfl)
    (of_decide_eq_true (by kernel_rfl)) (by unfold Func.isWrapper; first | (rw [if_pos (by decide +kernel)]; kernel_rfl) | (rw [if_neg (by decide +kernel)]; exact ⟨rfl, rfl⟩))
    (fun os started H enc _ => codecSigns_lifted os started H enc)
theorem codecSignsProved : Rows.CodecSignsSaid := codecSigns_over
#print axioms codecSignsProved
end Go.Proofs.Ytlpkfeplbcadbaa
