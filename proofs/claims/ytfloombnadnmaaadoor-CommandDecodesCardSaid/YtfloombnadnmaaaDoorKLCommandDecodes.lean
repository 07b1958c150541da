/- CommandDecodes is true of every input: the given tied card. -/
import Derived.Test.YtfloombnadnmaaaDoorPart12
import Derived.Test.YtfloombnadnmaaaDoorCards
import Derived.Test.YtfloombnadnmaaaDoorTie
import Derived.SevenTiedAt
import Derived.Stop.Joined
namespace Go.Proofs.YtfloombnadnmaaaDoor
open Go Go.Ab Go.Proofs Go.RowKit Go.ChangeShapes Go.WideShapes Go.ChangeAt
theorem commandDecodes_all (avs : List AV) (h : WTAll Tryd.prog [9] avs) : pcall Tryd.prog md fg 4 avs = some (.val (.bool true)) := by
  match avs, h with
  | [a], ⟨⟨n, h⟩, _⟩ =>
    obtain ⟨s, rfl, _⟩ := WT_str h
    exact commandDecodes s
theorem commandDecodes_hall (avs : List AV) (h : WTAll Tryd.prog Tryd.f4.params.toList avs) : pcall Tryd.prog md fg 4 avs = some (.val (.bool true)) := by
  rw [Tryd.params4] at h
  exact commandDecodes_all avs h
set_option maxRecDepth 100000 in
theorem commandDecodes_lifted (os : Os) (started : os.Started) (H : Type) (enc : TypeId × Value → H) :
    ReturnsInHanded {} Tryd.checked os 4 .any (fun w args => (Rows.commandDecodesSpec.pre enc Tryd.prog Tryd.f4 Rows.commandDecodesRow.domain false w args ∧ laidMetH Tryd.prog Rows.commandDecodesRow.laid w) ∧ sizedMet enc Tryd.prog Tryd.f4 (OpenSpec.ofChange Rows.commandDecodesSpec) false w args)
      (Rows.commandDecodesSpec.post enc Tryd.prog Tryd.f4 false true false false) := by
  refine law_lifted_laid (C := Tryd.checked) (md := md) (fg := fg) (ts := [9]) (X := fun w _ => laidMetH Tryd.prog Rows.commandDecodesRow.laid w) (fun _ _ _ hh h => h.of_heap hh) own started (by kernel_rfl) Tryd.func4
    (ChangeSpec.witness_shaped (enc := enc) (C := Tryd.checked) (os := os) (X := fun w _ => laidMetH Tryd.prog Rows.commandDecodesRow.laid w) false (World.laidAll Tryd.prog os Rows.commandDecodesRow.laid) #[.string ⟨#[]⟩] 8 (World.laidAll_os _ _ _)
      (World.shaped_of_ZipB (by kernel_rfl) (by kernel_rfl)) (by kernel_rfl) (by kernel_rfl) (by kernel_rfl)
      (by rw [MakeChecks.laidMetH_plain _ _ _ (by kernel_rfl)]; exact laidMet_laidAll _ (by kernel_rfl) (by kernel_rfl)))
    rfl (bt := 4) rfl Tryd.underlying4 mixed (by kernel_rfl) ?_ ?_ laidOut ?_ commandDecodes_hall
  · rw [Tryd.params4]; decide
  · rw [Tryd.params4]
    have key : ∀ t ∈ [9], Tryd.prog.readableRec t = true ∧ t < Tryd.prog.types.size := by
      simp only [List.forall_mem_cons]
      exact ⟨⟨by kernel_rfl, of_decide_eq_true (by kernel_rfl)⟩, fun t ht => by cases ht⟩
    exact key
  · intro ds hd
    rw [Tryd.params4] at hd
    match ds, hd with
    | [d0], _ => rfl
theorem commandDecodes_over : Rows.commandDecodesRow.holds Tryd.pinned (OpenSpec.ofChange Rows.commandDecodesSpec) :=
  OpenClaim.holds_of_wide 4 Tryd.f4 rfl rfl rfl rfl rfl rfl rfl ⟨rfl, rfl, rfl, rfl, rfl⟩ rfl rfl rfl rfl rfl (by kernel_rfl) Tryd.func4 (by kernel_rfl)
    (of_decide_eq_true (by kernel_rfl)) (by unfold Func.isWrapper; first | (rw [if_pos (by decide +kernel)]; kernel_rfl) | (rw [if_neg (by decide +kernel)]; exact ⟨rfl, rfl⟩))
    (fun os started H enc _ => commandDecodes_lifted os started H enc)
theorem commandDecodesProved : Rows.CommandDecodesCardSaid :=
  Claim7.holds_tied_plain_at .later [] [.data, .pinned] true (true, "147f23fe9b51053a72966b910547da6d8a83cf551466a3077f46e9ae7295a37c") false commandDecodes_over (fun _ h => by cases h) (by kernel_rfl) (fun _ h => by cases h) commandDecodes_row_tie rfl ⟨rfl, rfl⟩ (by kernel_rfl) rfl
    (fun f fn hf hfn => by
      obtain rfl : f = 4 := Option.some.inj ((show Tryd.prog.funcNamed "touchstone/touchstonelaw23.CommandDecodes" = some 4 by kernel_rfl).symm.trans hf) |>.symm
      obtain rfl : fn = Tryd.f4 := (Option.some.inj (Tryd.func4.symm.trans hfn)).symm
      exact ⟨by kernel_rfl, fun j t ht => by
        rw [Tryd.params4] at ht
        have hm : t ∈ [9] := by simpa using Array.mem_of_getElem? ht
        have hall : ([9].all fun u => !Tryd.prog.wantsStandIn u) = true := by kernel_rfl
        exact (show Tryd.prog.wantsStandIn t = false by simpa using List.all_eq_true.1 hall t hm)⟩)
    (by kernel_rfl)
#print axioms commandDecodesProved
end Go.Proofs.YtfloombnadnmaaaDoor
