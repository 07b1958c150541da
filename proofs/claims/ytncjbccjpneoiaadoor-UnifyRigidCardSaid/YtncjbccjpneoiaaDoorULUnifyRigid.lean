/- UnifyRigid is true of every input: the given tied card. -/
import Derived.Test.YtncjbccjpneoiaaDoorPart11
import Derived.Test.YtncjbccjpneoiaaDoorCards
import Derived.Test.YtncjbccjpneoiaaDoorTie
import Derived.SevenTiedAt
import Derived.Stop.Joined
namespace Go.Proofs.YtncjbccjpneoiaaDoor
open Go Go.Ab Go.Proofs Go.RowKit Go.ChangeShapes Go.WideShapes Go.ChangeAt
theorem unifyRigid_all (avs : List AV) (h : WTAll Tryd.prog [3, 3, 3] avs) : pcall Tryd.prog md fg 8 avs = some (.val (.bool true)) := by
  match avs, h with
  | [a, b, c], ⟨⟨_, h1⟩, ⟨_, h2⟩, ⟨_, h3⟩, _⟩ =>
    obtain ⟨x, rfl, _⟩ := WT_i64 undInt h1
    obtain ⟨y, rfl, _⟩ := WT_i64 undInt h2
    obtain ⟨z, rfl, _⟩ := WT_i64 undInt h3
    exact unifyRigid x y z
theorem unifyRigid_hall (avs : List AV) (h : WTAll Tryd.prog Tryd.f8.params.toList avs) : pcall Tryd.prog md fg 8 avs = some (.val (.bool true)) := by
  rw [Tryd.params8] at h
  exact unifyRigid_all avs h
set_option maxRecDepth 100000 in
theorem unifyRigid_lifted (os : Os) (started : os.Started) (H : Type) (enc : TypeId × Value → H) :
    ReturnsInHanded {} Tryd.checked os 8 .any (fun w args => (Rows.unifyRigidSpec.pre enc Tryd.prog Tryd.f8 Rows.unifyRigidRow.domain false w args ∧ laidMetH Tryd.prog Rows.unifyRigidRow.laid w) ∧ sizedMet enc Tryd.prog Tryd.f8 (OpenSpec.ofChange Rows.unifyRigidSpec) false w args)
      (Rows.unifyRigidSpec.post enc Tryd.prog Tryd.f8 false true false false) := by
  refine law_lifted_laid (C := Tryd.checked) (md := md) (fg := fg) (ts := [3]) (X := fun w _ => laidMetH Tryd.prog Rows.unifyRigidRow.laid w) (fun _ _ _ hh h => h.of_heap hh) own started (by kernel_rfl) Tryd.func8
    (ChangeSpec.witness_shaped (enc := enc) (C := Tryd.checked) (os := os) (X := fun w _ => laidMetH Tryd.prog Rows.unifyRigidRow.laid w) false (World.laidAll Tryd.prog os Rows.unifyRigidRow.laid) #[.int .i64 0, .int .i64 0, .int .i64 0] 8 (World.laidAll_os _ _ _)
      (World.shaped_of_ZipB (by kernel_rfl) (by kernel_rfl)) (by kernel_rfl) (by kernel_rfl) (by kernel_rfl)
      (by rw [MakeChecks.laidMetH_plain _ _ _ (by kernel_rfl)]; exact laidMet_laidAll _ (by kernel_rfl) (by kernel_rfl)))
    rfl (bt := 4) rfl Tryd.underlying4 mixed (by kernel_rfl) ?_ ?_ laidOut ?_ unifyRigid_hall
  · rw [Tryd.params8]; decide
  · rw [Tryd.params8]
    have key : ∀ t ∈ [3, 3, 3], Tryd.prog.readableRec t = true ∧ t < Tryd.prog.types.size := by
      simp only [List.forall_mem_cons]
      exact ⟨⟨by kernel_rfl, of_decide_eq_true (by kernel_rfl)⟩, ⟨by kernel_rfl, of_decide_eq_true (by kernel_rfl)⟩, ⟨by kernel_rfl, of_decide_eq_true (by kernel_rfl)⟩, fun t ht => by cases ht⟩
    exact key
  · intro ds hd
    rw [Tryd.params8] at hd
    match ds, hd with
    | [d0, d1, d2], _ => rfl
theorem unifyRigid_over : Rows.unifyRigidRow.holds Tryd.pinned (OpenSpec.ofChange Rows.unifyRigidSpec) :=
  OpenClaim.holds_of_wide 8 Tryd.f8 rfl rfl rfl rfl rfl rfl rfl ⟨rfl, rfl, rfl, rfl, rfl⟩ rfl rfl rfl rfl rfl (by kernel_rfl) Tryd.func8 (by kernel_rfl)
    (of_decide_eq_true (by kernel_rfl)) (by unfold Func.isWrapper; first | (rw [if_pos (by decide +kernel)]; kernel_rfl) | (rw [if_neg (by decide +kernel)]; exact ⟨rfl, rfl⟩))
    (fun os started H enc _ => unifyRigid_lifted os started H enc)
theorem unifyRigidProved : Rows.UnifyRigidCardSaid :=
  Claim7.holds_tied_plain_at .later [] [.data, .data, .data] true (true, "cef0c284b07b0215155c3b82212b51984efeb2ec84ccaa1b4a76b53e5c7662c9") false unifyRigid_over (fun _ h => by cases h) (by kernel_rfl) (fun _ h => by cases h) unifyRigid_row_tie rfl ⟨rfl, rfl⟩ (by kernel_rfl) rfl
    (fun f fn hf hfn => by
      obtain rfl : f = 8 := Option.some.inj ((show Tryd.prog.funcNamed "touchstone/touchstonelaw13.UnifyRigid" = some 8 by kernel_rfl).symm.trans hf) |>.symm
      obtain rfl : fn = Tryd.f8 := (Option.some.inj (Tryd.func8.symm.trans hfn)).symm
      exact ⟨by kernel_rfl, fun j t ht => by
        rw [Tryd.params8] at ht
        have hm : t ∈ [3, 3, 3] := by simpa using Array.mem_of_getElem? ht
        have hall : ([3, 3, 3].all fun u => !Tryd.prog.wantsStandIn u) = true := by kernel_rfl
        exact (show Tryd.prog.wantsStandIn t = false by simpa using List.all_eq_true.1 hall t hm)⟩)
    (by kernel_rfl)
#print axioms unifyRigidProved
end Go.Proofs.YtncjbccjpneoiaaDoor
