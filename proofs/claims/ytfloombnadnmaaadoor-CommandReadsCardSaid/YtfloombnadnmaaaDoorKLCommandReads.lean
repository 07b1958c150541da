/- CommandReads is true of every input: the given tied card. -/
import Derived.Test.YtfloombnadnmaaaDoorPart13
import Derived.Test.YtfloombnadnmaaaDoorCards
import Derived.Test.YtfloombnadnmaaaDoorTie
import Derived.SevenTiedAt
import Derived.Stop.Joined
namespace Go.Proofs.YtfloombnadnmaaaDoor
open Go Go.Ab Go.Proofs Go.RowKit Go.ChangeShapes Go.WideShapes Go.ChangeAt
theorem commandReads_all (avs : List AV) (h : WTAll Tryd.prog [9] avs) : pcall Tryd.prog md fg 6 avs = some (.val (.bool true)) := by
  match avs, h with
  | [a], ⟨⟨n, h⟩, _⟩ =>
    obtain ⟨s, rfl, _⟩ := WT_str h
    exact commandReads s
theorem commandReads_hall (avs : List AV) (h : WTAll Tryd.prog Tryd.f6.params.toList avs) : pcall Tryd.prog md fg 6 avs = some (.val (.bool true)) := by
  rw [Tryd.params6] at h
  exact commandReads_all avs h
set_option maxRecDepth 100000 in
theorem commandReads_lifted (os : Os) (started : os.Started) (H : Type) (enc : TypeId × Value → H) :
    ReturnsInHanded {} Tryd.checked os 6 .any (fun w args => (Rows.commandReadsSpec.pre enc Tryd.prog Tryd.f6 Rows.commandReadsRow.domain false w args ∧ laidMetH Tryd.prog Rows.commandReadsRow.laid w) ∧ sizedMet enc Tryd.prog Tryd.f6 (OpenSpec.ofChange Rows.commandReadsSpec) false w args)
      (Rows.commandReadsSpec.post enc Tryd.prog Tryd.f6 false true false false) := by
  refine law_lifted_laid (C := Tryd.checked) (md := md) (fg := fg) (ts := [9]) (X := fun w _ => laidMetH Tryd.prog Rows.commandReadsRow.laid w) (fun _ _ _ hh h => h.of_heap hh) own started (by kernel_rfl) Tryd.func6
    (ChangeSpec.witness_shaped (enc := enc) (C := Tryd.checked) (os := os) (X := fun w _ => laidMetH Tryd.prog Rows.commandReadsRow.laid w) false (World.laidAll Tryd.prog os Rows.commandReadsRow.laid) #[.string ⟨#[]⟩] 8 (World.laidAll_os _ _ _)
      (World.shaped_of_ZipB (by kernel_rfl) (by kernel_rfl)) (by kernel_rfl) (by kernel_rfl) (by kernel_rfl)
      (by rw [MakeChecks.laidMetH_plain _ _ _ (by kernel_rfl)]; exact laidMet_laidAll _ (by kernel_rfl) (by kernel_rfl)))
    rfl (bt := 4) rfl Tryd.underlying4 mixed (by kernel_rfl) ?_ ?_ laidOut ?_ commandReads_hall
  · rw [Tryd.params6]; decide
  · rw [Tryd.params6]
    have key : ∀ t ∈ [9], Tryd.prog.readableRec t = true ∧ t < Tryd.prog.types.size := by
      simp only [List.forall_mem_cons]
      exact ⟨⟨by kernel_rfl, of_decide_eq_true (by kernel_rfl)⟩, fun t ht => by cases ht⟩
    exact key
  · intro ds hd
    rw [Tryd.params6] at hd
    match ds, hd with
    | [d0], _ => rfl
theorem commandReads_over : Rows.commandReadsRow.holds Tryd.pinned (OpenSpec.ofChange Rows.commandReadsSpec) :=
  OpenClaim.holds_of_wide 6 Tryd.f6 rfl rfl rfl rfl rfl rfl rfl ⟨rfl, rfl, rfl, rfl, rfl⟩ rfl rfl rfl rfl rfl (by kernel_rfl) Tryd.func6 (by kernel_rfl)
    (of_decide_eq_true (by kernel_rfl)) (by unfold Func.isWrapper; first | (rw [if_pos (by decide +kernel)]; kernel_rfl) | (rw [if_neg (by decide +kernel)]; exact ⟨rfl, rfl⟩))
    (fun os started H enc _ => commandReads_lifted os started H enc)
theorem commandReadsProved : Rows.CommandReadsCardSaid :=
  Claim7.holds_tied_plain_at .later [] [.data, .pinned] true (true, "147f23fe9b51053a72966b910547da6d8a83cf551466a3077f46e9ae7295a37c") false commandReads_over (fun _ h => by cases h) (by kernel_rfl) (fun _ h => by cases h) commandReads_row_tie rfl ⟨rfl, rfl⟩ (by kernel_rfl) rfl
    (fun f fn hf hfn => by
      obtain rfl : f = 6 := Option.some.inj ((show Tryd.prog.funcNamed "touchstone/touchstonelaw23.CommandReads" = some 6 by kernel_rfl).symm.trans hf) |>.symm
      obtain rfl : fn = Tryd.f6 := (Option.some.inj (Tryd.func6.symm.trans hfn)).symm
      exact ⟨by kernel_rfl, fun j t ht => by
        rw [Tryd.params6] at ht
        have hm : t ∈ [9] := by simpa using Array.mem_of_getElem? ht
        have hall : ([9].all fun u => !Tryd.prog.wantsStandIn u) = true := by kernel_rfl
        exact (show Tryd.prog.wantsStandIn t = false by simpa using List.all_eq_true.1 hall t hm)⟩)
    (by kernel_rfl)
#print axioms commandReadsProved
end Go.Proofs.YtfloombnadnmaaaDoor
