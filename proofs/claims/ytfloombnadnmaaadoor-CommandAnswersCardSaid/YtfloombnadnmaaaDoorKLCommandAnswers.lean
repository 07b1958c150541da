/- CommandAnswers is true of every input: the given tied card. -/
import Derived.Test.YtfloombnadnmaaaDoorPart13
import Derived.Test.YtfloombnadnmaaaDoorCards
import Derived.Test.YtfloombnadnmaaaDoorTie
import Derived.SevenTiedAt
import Derived.Stop.Joined
namespace Go.Proofs.YtfloombnadnmaaaDoor
open Go Go.Ab Go.Proofs Go.RowKit Go.ChangeShapes Go.WideShapes Go.ChangeAt
theorem commandAnswers_all (avs : List AV) (h : WTAll Tryd.prog [49] avs) : pcall Tryd.prog md fg 5 avs = some (.val (.bool true)) := by
  match avs, h with
  | [a], ⟨⟨n, h⟩, _⟩ =>
    obtain ⟨m, rfl, h1, h2, h3, h4, h5, h6, h7⟩ := WT_ans h
    exact commandAnswers m h1 h2 h3 h4 h5 h6 h7
theorem commandAnswers_hall (avs : List AV) (h : WTAll Tryd.prog Tryd.f5.params.toList avs) : pcall Tryd.prog md fg 5 avs = some (.val (.bool true)) := by
  rw [Tryd.params5] at h
  exact commandAnswers_all avs h
set_option maxRecDepth 100000 in
theorem commandAnswers_lifted (os : Os) (started : os.Started) (H : Type) (enc : TypeId × Value → H) :
    ReturnsInHanded {} Tryd.checked os 5 .any (fun w args => (Rows.commandAnswersSpec.pre enc Tryd.prog Tryd.f5 Rows.commandAnswersRow.domain false w args ∧ laidMetH Tryd.prog Rows.commandAnswersRow.laid w) ∧ sizedMet enc Tryd.prog Tryd.f5 (OpenSpec.ofChange Rows.commandAnswersSpec) false w args)
      (Rows.commandAnswersSpec.post enc Tryd.prog Tryd.f5 false true false false) := by
  refine law_lifted_laid (C := Tryd.checked) (md := md) (fg := fg) (ts := [49, 29, 3, 44, 45, 9, 4, 47, 25, 23]) (X := fun w _ => laidMetH Tryd.prog Rows.commandAnswersRow.laid w) (fun _ _ _ hh h => h.of_heap hh) own started (by kernel_rfl) Tryd.func5
    (ChangeSpec.witness_shaped (enc := enc) (C := Tryd.checked) (os := os) (X := fun w _ => laidMetH Tryd.prog Rows.commandAnswersRow.laid w) false (World.laidAll Tryd.prog os Rows.commandAnswersRow.laid) #[.agg #[.int .i64 0, .int .i64 0, .int .i64 0, .int .i64 0, .string ⟨#[]⟩, .string ⟨#[]⟩, .slice none 0 0, .string ⟨#[]⟩, .bool false, .int .i64 0, .int .i64 0, .int .i64 0, .int .i64 0]] 8 (World.laidAll_os _ _ _)
      (World.shaped_of_ZipB (by kernel_rfl) (by kernel_rfl)) (by kernel_rfl) (by kernel_rfl) (by kernel_rfl)
      (by rw [MakeChecks.laidMetH_plain _ _ _ (by kernel_rfl)]; exact laidMet_laidAll _ (by kernel_rfl) (by kernel_rfl)))
    rfl (bt := 4) rfl Tryd.underlying4 mixed (by kernel_rfl) ?_ ?_ laidOut ?_ commandAnswers_hall
  · rw [Tryd.params5]; decide
  · rw [Tryd.params5]
    have key : ∀ t ∈ [49], Tryd.prog.readableRec t = true ∧ t < Tryd.prog.types.size := by
      simp only [List.forall_mem_cons]
      exact ⟨⟨by kernel_rfl, of_decide_eq_true (by kernel_rfl)⟩, fun t ht => by cases ht⟩
    exact key
  · intro ds hd
    rw [Tryd.params5] at hd
    match ds, hd with
    | [d0], _ => rfl
theorem commandAnswers_over : Rows.commandAnswersRow.holds Tryd.pinned (OpenSpec.ofChange Rows.commandAnswersSpec) :=
  OpenClaim.holds_of_wide 5 Tryd.f5 rfl rfl rfl rfl rfl rfl rfl ⟨rfl, rfl, rfl, rfl, rfl⟩ rfl rfl rfl rfl rfl (by kernel_rfl) Tryd.func5 (by kernel_rfl)
    (of_decide_eq_true (by kernel_rfl)) (by unfold Func.isWrapper; first | (rw [if_pos (by decide +kernel)]; kernel_rfl) | (rw [if_neg (by decide +kernel)]; exact ⟨rfl, rfl⟩))
    (fun os started H enc _ => commandAnswers_lifted os started H enc)
theorem commandAnswersProved : Rows.CommandAnswersCardSaid :=
  Claim7.holds_tied_plain_at .later [] [.data, .pinned] true (true, "147f23fe9b51053a72966b910547da6d8a83cf551466a3077f46e9ae7295a37c") false commandAnswers_over (fun _ h => by cases h) (by kernel_rfl) (fun _ h => by cases h) commandAnswers_row_tie rfl ⟨rfl, rfl⟩ (by kernel_rfl) rfl
    (fun f fn hf hfn => by
      obtain rfl : f = 5 := Option.some.inj ((show Tryd.prog.funcNamed "touchstone/touchstonelaw23.CommandAnswers" = some 5 by kernel_rfl).symm.trans hf) |>.symm
      obtain rfl : fn = Tryd.f5 := (Option.some.inj (Tryd.func5.symm.trans hfn)).symm
      exact ⟨by kernel_rfl, fun j t ht => by
        rw [Tryd.params5] at ht
        have hm : t ∈ [49] := by simpa using Array.mem_of_getElem? ht
        have hall : ([49].all fun u => !Tryd.prog.wantsStandIn u) = true := by kernel_rfl
        exact (show Tryd.prog.wantsStandIn t = false by simpa using List.all_eq_true.1 hall t hm)⟩)
    (by kernel_rfl)
#print axioms commandAnswersProved
end Go.Proofs.YtfloombnadnmaaaDoor
