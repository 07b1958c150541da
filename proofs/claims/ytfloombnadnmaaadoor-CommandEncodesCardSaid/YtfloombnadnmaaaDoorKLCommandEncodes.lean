/- CommandEncodes is true of every input: the given tied card. -/
import Derived.Test.YtfloombnadnmaaaDoorPart12
import Derived.Test.YtfloombnadnmaaaDoorCards
import Derived.Test.YtfloombnadnmaaaDoorTie
import Derived.SevenTiedAt
import Derived.Stop.Joined
namespace Go.Proofs.YtfloombnadnmaaaDoor
open Go Go.Ab Go.Proofs Go.RowKit Go.ChangeShapes Go.WideShapes Go.ChangeAt
theorem commandEncodes_all (avs : List AV) (h : WTAll Tryd.prog [27, 3] avs) : pcall Tryd.prog md fg 3 avs = some (.val (.bool true)) := by
  match avs, h with
  | [a, b], ⟨⟨n, h⟩, ⟨m, h2⟩, _⟩ =>
    obtain ⟨c, rfl, h3, h4, h5⟩ := WT_cmd h
    obtain ⟨x, rfl, _⟩ := WT_i64 und_3 h2
    exact commandEncodes c x h3 h4 h5
theorem commandEncodes_hall (avs : List AV) (h : WTAll Tryd.prog Tryd.f3.params.toList avs) : pcall Tryd.prog md fg 3 avs = some (.val (.bool true)) := by
  rw [Tryd.params3] at h
  exact commandEncodes_all avs h
set_option maxRecDepth 100000 in
theorem commandEncodes_lifted (os : Os) (started : os.Started) (H : Type) (enc : TypeId × Value → H) :
    ReturnsInHanded {} Tryd.checked os 3 .any (fun w args => (Rows.commandEncodesSpec.pre enc Tryd.prog Tryd.f3 Rows.commandEncodesRow.domain false w args ∧ laidMetH Tryd.prog Rows.commandEncodesRow.laid w) ∧ sizedMet enc Tryd.prog Tryd.f3 (OpenSpec.ofChange Rows.commandEncodesSpec) false w args)
      (Rows.commandEncodesSpec.post enc Tryd.prog Tryd.f3 false true false false) := by
  refine law_lifted_laid (C := Tryd.checked) (md := md) (fg := fg) (ts := [27, 25, 23, 9, 3]) (X := fun w _ => laidMetH Tryd.prog Rows.commandEncodesRow.laid w) (fun _ _ _ hh h => h.of_heap hh) own started (by kernel_rfl) Tryd.func3
    (ChangeSpec.witness_shaped (enc := enc) (C := Tryd.checked) (os := os) (X := fun w _ => laidMetH Tryd.prog Rows.commandEncodesRow.laid w) false (World.laidAll Tryd.prog os Rows.commandEncodesRow.laid) #[.agg #[.int .i64 0, .string ⟨#[]⟩, .int .i64 0, .int .i64 0, .int .i64 0, .string ⟨#[]⟩, .int .i64 0, .int .i64 0, .int .i64 0, .string ⟨#[]⟩], .int .i64 0] 8 (World.laidAll_os _ _ _)
      (World.shaped_of_ZipB (by kernel_rfl) (by kernel_rfl)) (by kernel_rfl) (by kernel_rfl) (by kernel_rfl)
      (by rw [MakeChecks.laidMetH_plain _ _ _ (by kernel_rfl)]; exact laidMet_laidAll _ (by kernel_rfl) (by kernel_rfl)))
    rfl (bt := 4) rfl Tryd.underlying4 mixed (by kernel_rfl) ?_ ?_ laidOut ?_ commandEncodes_hall
  · rw [Tryd.params3]; decide
  · rw [Tryd.params3]
    have key : ∀ t ∈ [27, 3], Tryd.prog.readableRec t = true ∧ t < Tryd.prog.types.size := by
      simp only [List.forall_mem_cons]
      exact ⟨⟨by kernel_rfl, of_decide_eq_true (by kernel_rfl)⟩, ⟨by kernel_rfl, of_decide_eq_true (by kernel_rfl)⟩, fun t ht => by cases ht⟩
    exact key
  · intro ds hd
    rw [Tryd.params3] at hd
    match ds, hd with
    | [d0, d1], _ => rfl
theorem commandEncodes_over : Rows.commandEncodesRow.holds Tryd.pinned (OpenSpec.ofChange Rows.commandEncodesSpec) :=
  OpenClaim.holds_of_wide 3 Tryd.f3 rfl rfl rfl rfl rfl rfl rfl ⟨rfl, rfl, rfl, rfl, rfl⟩ rfl rfl rfl rfl rfl (by kernel_rfl) Tryd.func3 (by kernel_rfl)
    (of_decide_eq_true (by kernel_rfl)) (by unfold Func.isWrapper; first | (rw [if_pos (by decide +kernel)]; kernel_rfl) | (rw [if_neg (by decide +kernel)]; exact ⟨rfl, rfl⟩))
    (fun os started H enc _ => commandEncodes_lifted os started H enc)
theorem commandEncodesProved : Rows.CommandEncodesCardSaid :=
  Claim7.holds_tied_plain_at .later [] [.data, .pinned] true (true, "147f23fe9b51053a72966b910547da6d8a83cf551466a3077f46e9ae7295a37c") false commandEncodes_over (fun _ h => by cases h) (by kernel_rfl) (fun _ h => by cases h) commandEncodes_row_tie rfl ⟨rfl, rfl⟩ (by kernel_rfl) rfl
    (fun f fn hf hfn => by
      obtain rfl : f = 3 := Option.some.inj ((show Tryd.prog.funcNamed "touchstone/touchstonelaw23.CommandEncodes" = some 3 by kernel_rfl).symm.trans hf) |>.symm
      obtain rfl : fn = Tryd.f3 := (Option.some.inj (Tryd.func3.symm.trans hfn)).symm
      exact ⟨by kernel_rfl, fun j t ht => by
        rw [Tryd.params3] at ht
        have hm : t ∈ [27, 3] := by simpa using Array.mem_of_getElem? ht
        have hall : ([27, 3].all fun u => !Tryd.prog.wantsStandIn u) = true := by kernel_rfl
        exact (show Tryd.prog.wantsStandIn t = false by simpa using List.all_eq_true.1 hall t hm)⟩)
    (by kernel_rfl)
#print axioms commandEncodesProved
end Go.Proofs.YtfloombnadnmaaaDoor
