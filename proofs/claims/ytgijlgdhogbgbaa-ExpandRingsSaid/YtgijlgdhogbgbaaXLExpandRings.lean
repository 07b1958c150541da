/- ExpandRings is true of every input: the given statement. -/
import Derived.Test.YtgijlgdhogbgbaaPart13
import Derived.Test.YtgijlgdhogbgbaaRows
namespace Go.Proofs.Ytgijlgdhogbgbaa
open Go Go.Ab Go.Proofs Go.RowKit Go.ChangeShapes Go.WideShapes
set_option maxRecDepth 100000
theorem own : ownKnob Try.prog.godebug = none := by kernel_rfl
theorem laidOut : laidOutB Try.prog = true := by kernel_rfl
theorem mixed : Try.prog.follows .mixedOrders = true := by kernel_rfl
theorem und3 : Try.prog.underlying 3 = some (.int .i64) := by kernel_rfl
theorem WT_i64 {n t : Nat} {a : AV} (ht : Try.prog.underlying t = some (.int .i64)) (h : WT Try.prog n t a) : ∃ x, a = .int x := by
  cases n with
  | zero => exact h.elim
  | succ n =>
    unfold WT at h; rw [ht] at h
    obtain ⟨x, rfl, hw⟩ := h
    exact ⟨x, rfl⟩
theorem WT_bool {n t : Nat} {a : AV} (ht : Try.prog.underlying t = some .bool) (h : WT Try.prog n t a) : ∃ b, a = .val (.bool b) := by
  cases n with
  | zero => exact h.elim
  | succ n =>
    unfold WT at h; rw [ht] at h
    exact h
theorem expandRings_all (avs : List AV) (h : WTAll Try.prog [3, 4, 4] avs) : pcall Try.prog md fg 6 avs = some (.val (.bool true)) := by
  match avs, h with
  | [a, b, c], ⟨⟨_, h1⟩, ⟨_, h2⟩, ⟨_, h3⟩, _⟩ =>
    obtain ⟨x, rfl⟩ := WT_i64 und3 h1
    obtain ⟨y, rfl⟩ := WT_bool Try.underlying4 h2
    obtain ⟨z, rfl⟩ := WT_bool Try.underlying4 h3
    exact expandRings x y z
set_option maxRecDepth 100000 in
theorem expandRings_lifted (os : Os) (started : os.Started) (H : Type) (enc : TypeId × Value → H) :
    ReturnsInHanded {} Try.checked os 6 .any (Rows.expandRingsSpec.pre6 enc Try.prog Try.f6 Rows.expandRingsRow.domain false) (Rows.expandRingsSpec.post enc Try.prog Try.f6 false true false false) := by
  refine law_lifted (C := Try.checked) (md := md) (fg := fg) (ts := [3, 4]) own started (by kernel_rfl) Try.func6
    (ChangeSpec.witness6 (enc := enc) (C := Try.checked) false ⟨#[], #[.int .i64 0, .bool false, .bool false], []⟩ 8 (by kernel_rfl) (by kernel_rfl) (by kernel_rfl) (by kernel_rfl))
    rfl (bt := 4) rfl Try.underlying4 mixed (by kernel_rfl) ?_ ?_ laidOut ?_ ?_
  · rw [Try.params6]; decide
  · rw [Try.params6]
    have key : ∀ t ∈ [3, 4, 4], Try.prog.readableRec t = true ∧ t < Try.prog.types.size := by
      simp only [List.forall_mem_cons]
      exact ⟨⟨by kernel_rfl, of_decide_eq_true (by kernel_rfl)⟩, ⟨by kernel_rfl, of_decide_eq_true (by kernel_rfl)⟩, ⟨by kernel_rfl, of_decide_eq_true (by kernel_rfl)⟩, fun t ht => by cases ht⟩
    exact key
  · intro ds hd
    rw [Try.params6] at hd
    match ds, hd with
    | [d0, d1, d2], _ => rfl
  · intro avs h
    rw [Try.params6] at h
    exact expandRings_all avs h
theorem expandRings_over : Rows.expandRingsRow.holds Try.pinned (OpenSpec.ofChange Rows.expandRingsSpec) :=
  OpenClaim.holds_of_wide 6 Try.f6 rfl rfl rfl rfl rfl rfl rfl ⟨rfl, rfl, rfl, rfl, rfl⟩ rfl rfl rfl rfl rfl (by kernel_rfl) Try.func6 (by kernel_rfl)
    (of_decide_eq_true (by kernel_rfl)) (by unfold Func.isWrapper; first | (rw [if_pos (by decide +kernel)]; kernel_rfl) | (rw [if_neg (by decide +kernel)]; exact ⟨rfl, rfl⟩))
    (fun os started H enc _ => expandRings_lifted os started H enc)
theorem expandRingsProved : Rows.ExpandRingsSaid := expandRings_over
#print axioms expandRingsProved
end Go.Proofs.Ytgijlgdhogbgbaa
