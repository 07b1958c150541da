/- ExpandOrders is true of every input: the given statement. -/
import Derived.Test.YtgijlgdhogbgbaaPart12
import Derived.Test.YtgijlgdhogbgbaaRows
namespace Go.Proofs.Ytgijlgdhogbgbaa
open Go Go.Ab Go.Proofs Go.RowKit Go.ChangeShapes Go.WideShapes
theorem expandOrders_all (avs : List AV) (h : WTAll Try.prog [22] avs) : pcall Try.prog md fg 3 avs = some (.val (.bool true)) := by
  match avs, h with
  | [a], ⟨⟨n, h⟩, _⟩ =>
    obtain ⟨l, rfl, h1, h2⟩ := WT_als h
    exact expandOrders l h1 h2
set_option maxRecDepth 100000 in
theorem expandOrders_lifted (os : Os) (started : os.Started) (H : Type) (enc : TypeId × Value → H) :
    ReturnsInHanded {} Try.checked os 3 .any (Rows.expandOrdersSpec.pre6 enc Try.prog Try.f3 Rows.expandOrdersRow.domain false) (Rows.expandOrdersSpec.post enc Try.prog Try.f3 false true false false) := by
  refine law_lifted (C := Try.checked) (md := md) (fg := fg) (ts := [22, 38, 9, 25, 35, 33, 3]) own started (by kernel_rfl) Try.func3
    (ChangeSpec.witness6 (enc := enc) (C := Try.checked) false ⟨#[], #[.slice none 0 0], []⟩ 8 (by kernel_rfl) (by kernel_rfl) (by kernel_rfl) (by kernel_rfl))
    rfl (bt := 4) rfl Try.underlying4 mixed (by kernel_rfl) ?_ ?_ laidOut ?_ ?_
  · rw [Try.params3]; decide
  · rw [Try.params3]
    have key : ∀ t ∈ [22], Try.prog.readableRec t = true ∧ t < Try.prog.types.size := by
      simp only [List.forall_mem_cons]
      exact ⟨⟨by kernel_rfl, of_decide_eq_true (by kernel_rfl)⟩, fun t ht => by cases ht⟩
    exact key
  · intro ds hd
    rw [Try.params3] at hd
    match ds, hd with
    | [d0], _ => rfl
  · intro avs h
    rw [Try.params3] at h
    exact expandOrders_all avs h
theorem expandOrders_over : Rows.expandOrdersRow.holds Try.pinned (OpenSpec.ofChange Rows.expandOrdersSpec) :=
  OpenClaim.holds_of_wide 3 Try.f3 rfl rfl rfl rfl rfl rfl rfl ⟨rfl, rfl, rfl, rfl, rfl⟩ rfl rfl rfl rfl rfl (by kernel_rfl) Try.func3 (by kernel_rfl)
    (of_decide_eq_true (by kernel_rfl)) (by unfold Func.isWrapper; first | (rw [if_pos (by decide +kernel)]; kernel_rfl) | (rw [if_neg (by decide +kernel)]; exact ⟨rfl, rfl⟩))
    (fun os started H enc _ => expandOrders_lifted os started H enc)
theorem expandOrdersProved : Rows.ExpandOrdersSaid := expandOrders_over
#print axioms expandOrdersProved
end Go.Proofs.Ytgijlgdhogbgbaa
