/- UnifyDoubles is true of every input: the given tied card. -/
import Derived.Test.YtncjbccjpneoiaaDoorPart13
import Derived.Test.YtncjbccjpneoiaaDoorCards
import Derived.Test.YtncjbccjpneoiaaDoorTie
import Derived.SevenTiedAt
import Derived.Stop.Joined
namespace Go.Proofs.YtncjbccjpneoiaaDoor
open Go Go.Ab Go.Proofs Go.RowKit Go.ChangeShapes Go.WideShapes Go.ChangeAt
theorem unifyDoubles_all (avs : List AV) (h : WTAll Tryd.prog [3, 4] avs) : pcall Tryd.prog md fg 7 avs = some (.val (.bool true)) := by
  match avs, h with
  | [a, b], ⟨⟨_, h1⟩, ⟨_, h2⟩, _⟩ =>
    obtain ⟨x, rfl, _⟩ := WT_i64 und3 h1
    obtain ⟨s, rfl⟩ := WT_bool h2
    exact unifyDoubles x s
theorem unifyDoubles_hall (avs : List AV) (h : WTAll Tryd.prog Tryd.f7.params.toList avs) : pcall Tryd.prog md fg 7 avs = some (.val (.bool true)) := by
  rw [Tryd.params7] at h
  exact unifyDoubles_all avs h
set_option maxRecDepth 100000 in
theorem unifyDoubles_lifted (os : Os) (started : os.Started) (H : Type) (enc : TypeId × Value → H) :
    ReturnsInHanded {} Tryd.checked os 7 .any (fun w args => (Rows.unifyDoublesSpec.pre enc Tryd.prog Tryd.f7 Rows.unifyDoublesRow.domain false w args ∧ laidMetH Tryd.prog Rows.unifyDoublesRow.laid w) ∧ sizedMet enc Tryd.prog Tryd.f7 (OpenSpec.ofChange Rows.unifyDoublesSpec) false w args)
      (Rows.unifyDoublesSpec.post enc Tryd.prog Tryd.f7 false true false false) := by
  refine law_lifted_laid (C := Tryd.checked) (md := md) (fg := fg) (ts := [3, 4]) (X := fun w _ => laidMetH Tryd.prog Rows.unifyDoublesRow.laid w) (fun _ _ _ hh h => h.of_heap hh) own started (by kernel_rfl) Tryd.func7
    (ChangeSpec.witness_shaped (enc := enc) (C := Tryd.checked) (os := os) (X := fun w _ => laidMetH Tryd.prog Rows.unifyDoublesRow.laid w) false (World.laidAll Tryd.prog os Rows.unifyDoublesRow.laid) #[.int .i64 0, .bool false] 8 (World.laidAll_os _ _ _)
      (World.shaped_of_ZipB (by kernel_rfl) (by kernel_rfl)) (by kernel_rfl) (by kernel_rfl) (by kernel_rfl)
      (by rw [MakeChecks.laidMetH_plain _ _ _ (by kernel_rfl)]; exact laidMet_laidAll _ (by kernel_rfl) (by kernel_rfl)))
    rfl (bt := 4) rfl Tryd.underlying4 mixed (by kernel_rfl) ?_ ?_ laidOut ?_ unifyDoubles_hall
  · rw [Tryd.params7]; decide
  · rw [Tryd.params7]
    have key : ∀ t ∈ [3, 4], Tryd.prog.readableRec t = true ∧ t < Tryd.prog.types.size := by
      simp only [List.forall_mem_cons]
      exact ⟨⟨by kernel_rfl, of_decide_eq_true (by kernel_rfl)⟩, ⟨by kernel_rfl, of_decide_eq_true (by kernel_rfl)⟩, fun t ht => by cases ht⟩
    exact key
  · intro ds hd
    rw [Tryd.params7] at hd
    match ds, hd with
    | [d0, d1], _ => rfl
theorem unifyDoubles_over : Rows.unifyDoublesRow.holds Tryd.pinned (OpenSpec.ofChange Rows.unifyDoublesSpec) :=
  OpenClaim.holds_of_wide 7 Tryd.f7 rfl rfl rfl rfl rfl rfl rfl ⟨rfl, rfl, rfl, rfl, rfl⟩ rfl rfl rfl rfl rfl (by kernel_rfl) Tryd.func7 (by kernel_rfl)
    (of_decide_eq_true (by kernel_rfl)) (by unfold Func.isWrapper; first | (rw [if_pos (by decide +kernel)]; kernel_rfl) | (rw [if_neg (by decide +kernel)]; exact ⟨rfl, rfl⟩))
    (fun os started H enc _ => unifyDoubles_lifted os started H enc)
theorem unifyDoublesProved : Rows.UnifyDoublesCardSaid :=
  Claim7.holds_tied_plain_at .later [] [.data, .data, .data] true (true, "cef0c284b07b0215155c3b82212b51984efeb2ec84ccaa1b4a76b53e5c7662c9") false unifyDoubles_over (fun _ h => by cases h) (by kernel_rfl) (fun _ h => by cases h) unifyDoubles_row_tie rfl ⟨rfl, rfl⟩ (by kernel_rfl) rfl
    (fun f fn hf hfn => by
      obtain rfl : f = 7 := Option.some.inj ((show Tryd.prog.funcNamed "touchstone/touchstonelaw13.UnifyDoubles" = some 7 by kernel_rfl).symm.trans hf) |>.symm
      obtain rfl : fn = Tryd.f7 := (Option.some.inj (Tryd.func7.symm.trans hfn)).symm
      exact ⟨by kernel_rfl, fun j t ht => by
        rw [Tryd.params7] at ht
        have hm : t ∈ [3, 4] := by simpa using Array.mem_of_getElem? ht
        have hall : ([3, 4].all fun u => !Tryd.prog.wantsStandIn u) = true := by kernel_rfl
        exact (show Tryd.prog.wantsStandIn t = false by simpa using List.all_eq_true.1 hall t hm)⟩)
    (by kernel_rfl)
#print axioms unifyDoublesProved
end Go.Proofs.YtncjbccjpneoiaaDoor
