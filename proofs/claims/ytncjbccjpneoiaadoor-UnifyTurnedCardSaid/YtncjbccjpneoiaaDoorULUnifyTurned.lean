/- UnifyTurned is true of every input: the given tied card. -/
import Derived.Test.YtncjbccjpneoiaaDoorPart15
import Derived.Test.YtncjbccjpneoiaaDoorCards
import Derived.Test.YtncjbccjpneoiaaDoorTie
import Derived.SevenTiedAt
import Derived.Stop.Joined
namespace Go.Proofs.YtncjbccjpneoiaaDoor
open Go Go.Ab Go.Proofs Go.RowKit Go.ChangeShapes Go.WideShapes Go.ChangeAt
theorem unifyTurned_all (avs : List AV) (h : WTAll Tryd.prog [22, 3, 4] avs) : pcall Tryd.prog md fg 5 avs = some (.val (.bool true)) := by
  match avs, h with
  | [a, b, c], ⟨⟨_, h1⟩, ⟨_, h2⟩, ⟨_, h3⟩, _⟩ =>
    obtain ⟨l, rfl, hl, hf⟩ := WT_eqs h1
    obtain ⟨x, rfl, _⟩ := WT_i64 und3 h2
    obtain ⟨s, rfl⟩ := WT_bool h3
    exact unifyTurned l x s hl hf
theorem unifyTurned_hall (avs : List AV) (h : WTAll Tryd.prog Tryd.f5.params.toList avs) : pcall Tryd.prog md fg 5 avs = some (.val (.bool true)) := by
  rw [Tryd.params5] at h
  exact unifyTurned_all avs h
set_option maxRecDepth 100000 in
theorem unifyTurned_lifted (os : Os) (started : os.Started) (H : Type) (enc : TypeId × Value → H) :
    ReturnsInHanded {} Tryd.checked os 5 .any (fun w args => (Rows.unifyTurnedSpec.pre enc Tryd.prog Tryd.f5 Rows.unifyTurnedRow.domain false w args ∧ laidMetH Tryd.prog Rows.unifyTurnedRow.laid w) ∧ sizedMet enc Tryd.prog Tryd.f5 (OpenSpec.ofChange Rows.unifyTurnedSpec) false w args)
      (Rows.unifyTurnedSpec.post enc Tryd.prog Tryd.f5 false true false false) := by
  refine law_lifted_laid (C := Tryd.checked) (md := md) (fg := fg) (ts := [22, 43, 36, 34, 9, 3, 4]) (X := fun w _ => laidMetH Tryd.prog Rows.unifyTurnedRow.laid w) (fun _ _ _ hh h => h.of_heap hh) own started (by kernel_rfl) Tryd.func5
    (ChangeSpec.witness_shaped (enc := enc) (C := Tryd.checked) (os := os) (X := fun w _ => laidMetH Tryd.prog Rows.unifyTurnedRow.laid w) false (World.laidAll Tryd.prog os Rows.unifyTurnedRow.laid) #[.slice none 0 0, .int .i64 0, .bool false] 8 (World.laidAll_os _ _ _)
      (World.shaped_of_ZipB (by kernel_rfl) (by kernel_rfl)) (by kernel_rfl) (by kernel_rfl) (by kernel_rfl)
      (by rw [MakeChecks.laidMetH_plain _ _ _ (by kernel_rfl)]; exact laidMet_laidAll _ (by kernel_rfl) (by kernel_rfl)))
    rfl (bt := 4) rfl Tryd.underlying4 mixed (by kernel_rfl) ?_ ?_ laidOut ?_ unifyTurned_hall
  · rw [Tryd.params5]; decide
  · rw [Tryd.params5]
    have key : ∀ t ∈ [22, 3, 4], Tryd.prog.readableRec t = true ∧ t < Tryd.prog.types.size := by
      simp only [List.forall_mem_cons]
      exact ⟨⟨by kernel_rfl, of_decide_eq_true (by kernel_rfl)⟩, ⟨by kernel_rfl, of_decide_eq_true (by kernel_rfl)⟩, ⟨by kernel_rfl, of_decide_eq_true (by kernel_rfl)⟩, fun t ht => by cases ht⟩
    exact key
  · intro ds hd
    rw [Tryd.params5] at hd
    match ds, hd with
    | [d0, d1, d2], _ => rfl
theorem unifyTurned_over : Rows.unifyTurnedRow.holds Tryd.pinned (OpenSpec.ofChange Rows.unifyTurnedSpec) :=
  OpenClaim.holds_of_wide 5 Tryd.f5 rfl rfl rfl rfl rfl rfl rfl ⟨rfl, rfl, rfl, rfl, rfl⟩ rfl rfl rfl rfl rfl (by kernel_rfl) Tryd.func5 (by kernel_rfl)
    (of_decide_eq_true (by kernel_rfl)) (by unfold Func.isWrapper; first | (rw [if_pos (by decide +kernel)]; kernel_rfl) | (rw [if_neg (by decide +kernel)]; exact ⟨rfl, rfl⟩))
    (fun os started H enc _ => unifyTurned_lifted os started H enc)
theorem unifyTurnedProved : Rows.UnifyTurnedCardSaid :=
  Claim7.holds_tied_plain_at .later [] [.data, .data, .data] true (true, "cef0c284b07b0215155c3b82212b51984efeb2ec84ccaa1b4a76b53e5c7662c9") false unifyTurned_over (fun _ h => by cases h) (by kernel_rfl) (fun _ h => by cases h) unifyTurned_row_tie rfl ⟨rfl, rfl⟩ (by kernel_rfl) rfl
    (fun f fn hf hfn => by
      obtain rfl : f = 5 := Option.some.inj ((show Tryd.prog.funcNamed "touchstone/touchstonelaw13.UnifyTurned" = some 5 by kernel_rfl).symm.trans hf) |>.symm
      obtain rfl : fn = Tryd.f5 := (Option.some.inj (Tryd.func5.symm.trans hfn)).symm
      exact ⟨by kernel_rfl, fun j t ht => by
        rw [Tryd.params5] at ht
        have hm : t ∈ [22, 3, 4] := by simpa using Array.mem_of_getElem? ht
        have hall : ([22, 3, 4].all fun u => !Tryd.prog.wantsStandIn u) = true := by kernel_rfl
        exact (show Tryd.prog.wantsStandIn t = false by simpa using List.all_eq_true.1 hall t hm)⟩)
    (by kernel_rfl)
#print axioms unifyTurnedProved
end Go.Proofs.YtncjbccjpneoiaaDoor
