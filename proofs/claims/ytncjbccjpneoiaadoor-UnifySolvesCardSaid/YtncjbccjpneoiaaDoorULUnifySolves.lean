/- UnifySolves is true of every input: the given tied card. -/
import Derived.Test.YtncjbccjpneoiaaDoorPart15
import Derived.Test.YtncjbccjpneoiaaDoorCards
import Derived.Test.YtncjbccjpneoiaaDoorTie
import Derived.SevenTiedAt
import Derived.Stop.Joined
namespace Go.Proofs.YtncjbccjpneoiaaDoor
open Go Go.Ab Go.Proofs Go.RowKit Go.ChangeShapes Go.WideShapes Go.ChangeAt
theorem unifySolves_all (avs : List AV) (h : WTAll Tryd.prog [22] avs) : pcall Tryd.prog md fg 3 avs = some (.val (.bool true)) := by
  match avs, h with
  | [a], ⟨⟨_, h1⟩, _⟩ =>
    obtain ⟨l, rfl, hl, hf⟩ := WT_eqs h1
    exact unifySolves l hl hf
theorem unifySolves_hall (avs : List AV) (h : WTAll Tryd.prog Tryd.f3.params.toList avs) : pcall Tryd.prog md fg 3 avs = some (.val (.bool true)) := by
  rw [Tryd.params3] at h
  exact unifySolves_all avs h
set_option maxRecDepth 100000 in
theorem unifySolves_lifted (os : Os) (started : os.Started) (H : Type) (enc : TypeId × Value → H) :
    ReturnsInHanded {} Tryd.checked os 3 .any (fun w args => (Rows.unifySolvesSpec.pre enc Tryd.prog Tryd.f3 Rows.unifySolvesRow.domain false w args ∧ laidMetH Tryd.prog Rows.unifySolvesRow.laid w) ∧ sizedMet enc Tryd.prog Tryd.f3 (OpenSpec.ofChange Rows.unifySolvesSpec) false w args)
      (Rows.unifySolvesSpec.post enc Tryd.prog Tryd.f3 false true false false) := by
  refine law_lifted_laid (C := Tryd.checked) (md := md) (fg := fg) (ts := [22, 43, 36, 34, 9, 3]) (X := fun w _ => laidMetH Tryd.prog Rows.unifySolvesRow.laid w) (fun _ _ _ hh h => h.of_heap hh) own started (by kernel_rfl) Tryd.func3
    (ChangeSpec.witness_shaped (enc := enc) (C := Tryd.checked) (os := os) (X := fun w _ => laidMetH Tryd.prog Rows.unifySolvesRow.laid w) false (World.laidAll Tryd.prog os Rows.unifySolvesRow.laid) #[.slice none 0 0] 8 (World.laidAll_os _ _ _)
      (World.shaped_of_ZipB (by kernel_rfl) (by kernel_rfl)) (by kernel_rfl) (by kernel_rfl) (by kernel_rfl)
      (by rw [MakeChecks.laidMetH_plain _ _ _ (by kernel_rfl)]; exact laidMet_laidAll _ (by kernel_rfl) (by kernel_rfl)))
    rfl (bt := 4) rfl Tryd.underlying4 mixed (by kernel_rfl) ?_ ?_ laidOut ?_ unifySolves_hall
  · rw [Tryd.params3]; decide
  · rw [Tryd.params3]
    have key : ∀ t ∈ [22], Tryd.prog.readableRec t = true ∧ t < Tryd.prog.types.size := by
      simp only [List.forall_mem_cons]
      exact ⟨⟨by kernel_rfl, of_decide_eq_true (by kernel_rfl)⟩, fun t ht => by cases ht⟩
    exact key
  · intro ds hd
    rw [Tryd.params3] at hd
    match ds, hd with
    | [d0], _ => rfl
theorem unifySolves_over : Rows.unifySolvesRow.holds Tryd.pinned (OpenSpec.ofChange Rows.unifySolvesSpec) :=
  OpenClaim.holds_of_wide 3 Tryd.f3 rfl rfl rfl rfl rfl rfl rfl ⟨rfl, rfl, rfl, rfl, rfl⟩ rfl rfl rfl rfl rfl (by kernel_rfl) Tryd.func3 (by kernel_rfl)
    (of_decide_eq_true (by kernel_rfl)) (by unfold Func.isWrapper; first | (rw [if_pos (by decide +kernel)]; kernel_rfl) | (rw [if_neg (by decide +kernel)]; exact ⟨rfl, rfl⟩))
    (fun os started H enc _ => unifySolves_lifted os started H enc)
theorem unifySolvesProved : Rows.UnifySolvesCardSaid :=
  Claim7.holds_tied_plain_at .later [] [.data, .data, .data] true (true, "cef0c284b07b0215155c3b82212b51984efeb2ec84ccaa1b4a76b53e5c7662c9") false unifySolves_over (fun _ h => by cases h) (by kernel_rfl) (fun _ h => by cases h) unifySolves_row_tie rfl ⟨rfl, rfl⟩ (by kernel_rfl) rfl
    (fun f fn hf hfn => by
      obtain rfl : f = 3 := Option.some.inj ((show Tryd.prog.funcNamed "touchstone/touchstonelaw13.UnifySolves" = some 3 by kernel_rfl).symm.trans hf) |>.symm
      obtain rfl : fn = Tryd.f3 := (Option.some.inj (Tryd.func3.symm.trans hfn)).symm
      exact ⟨by kernel_rfl, fun j t ht => by
        rw [Tryd.params3] at ht
        have hm : t ∈ [22] := by simpa using Array.mem_of_getElem? ht
        have hall : ([22].all fun u => !Tryd.prog.wantsStandIn u) = true := by kernel_rfl
        exact (show Tryd.prog.wantsStandIn t = false by simpa using List.all_eq_true.1 hall t hm)⟩)
    (by kernel_rfl)
#print axioms unifySolvesProved
end Go.Proofs.YtncjbccjpneoiaaDoor
