/- SchemeOrder is true of every input: the given tied card. -/
import Derived.Test.YtedapgcaibbhoaaDoorPart13
import Derived.Test.YtedapgcaibbhoaaDoorCards
import Derived.Test.YtedapgcaibbhoaaDoorTie
import Derived.SevenTiedAt
import Derived.Stop.Joined
namespace Go.Proofs.YtedapgcaibbhoaaDoor
open Go Go.Ab Go.Proofs Go.RowKit Go.ChangeShapes Go.WideShapes Go.ChangeAt
theorem schemeOrder_all (avs : List AV) (h : WTAll Tryd.prog [24, 24, 24, 24, 24] avs) : pcall Tryd.prog md fg 3 avs = some (.val (.bool true)) := by
  match avs, h with
  | [a, b, c, x, y], ⟨⟨_, h1⟩, ⟨_, h2⟩, ⟨_, h3⟩, ⟨_, h4⟩, ⟨_, h5⟩, _⟩ =>
    obtain ⟨t1, rfl, f1, _⟩ := WT_tm _ h1
    obtain ⟨t2, rfl, f2, _⟩ := WT_tm _ h2
    obtain ⟨t3, rfl, f3, _⟩ := WT_tm _ h3
    obtain ⟨t4, rfl, f4, _⟩ := WT_tm _ h4
    obtain ⟨t5, rfl, f5, _⟩ := WT_tm _ h5
    exact schemeOrder t1 t2 t3 t4 t5 f1 f2 f3 f4 f5
theorem schemeOrder_hall (avs : List AV) (h : WTAll Tryd.prog Tryd.f3.params.toList avs) : pcall Tryd.prog md fg 3 avs = some (.val (.bool true)) := by
  rw [Tryd.params3] at h
  exact schemeOrder_all avs h
set_option maxRecDepth 100000 in
theorem schemeOrder_lifted (os : Os) (started : os.Started) (H : Type) (enc : TypeId × Value → H) :
    ReturnsInHanded {} Tryd.checked os 3 .any (fun w args => (Rows.schemeOrderSpec.pre enc Tryd.prog Tryd.f3 Rows.schemeOrderRow.domain false w args ∧ laidMetH Tryd.prog Rows.schemeOrderRow.laid w) ∧ sizedMet enc Tryd.prog Tryd.f3 (OpenSpec.ofChange Rows.schemeOrderSpec) false w args)
      (Rows.schemeOrderSpec.post enc Tryd.prog Tryd.f3 false true false false) := by
  refine law_lifted_laid (C := Tryd.checked) (md := md) (fg := fg) (ts := [24, 22, 9, 3]) (X := fun w _ => laidMetH Tryd.prog Rows.schemeOrderRow.laid w) (fun _ _ _ hh h => h.of_heap hh) own started (by kernel_rfl) Tryd.func3
    (ChangeSpec.witness_shaped (enc := enc) (C := Tryd.checked) (os := os) (X := fun w _ => laidMetH Tryd.prog Rows.schemeOrderRow.laid w) false (World.laidAll Tryd.prog os Rows.schemeOrderRow.laid) #[.agg #[.int .i64 0, .string ⟨#[]⟩, .string ⟨#[]⟩, .int .i64 0, .slice none 0 0], .agg #[.int .i64 0, .string ⟨#[]⟩, .string ⟨#[]⟩, .int .i64 0, .slice none 0 0], .agg #[.int .i64 0, .string ⟨#[]⟩, .string ⟨#[]⟩, .int .i64 0, .slice none 0 0], .agg #[.int .i64 0, .string ⟨#[]⟩, .string ⟨#[]⟩, .int .i64 0, .slice none 0 0], .agg #[.int .i64 0, .string ⟨#[]⟩, .string ⟨#[]⟩, .int .i64 0, .slice none 0 0]] 8 (World.laidAll_os _ _ _)
      (World.shaped_of_ZipB (by kernel_rfl) (by kernel_rfl)) (by kernel_rfl) (by kernel_rfl) (by kernel_rfl)
      (by rw [MakeChecks.laidMetH_plain _ _ _ (by kernel_rfl)]; exact laidMet_laidAll _ (by kernel_rfl) (by kernel_rfl)))
    rfl (bt := 4) rfl Tryd.underlying4 mixed (by kernel_rfl) ?_ ?_ laidOut ?_ schemeOrder_hall
  · rw [Tryd.params3]; decide
  · rw [Tryd.params3]
    have key : ∀ t ∈ [24, 24, 24, 24, 24], Tryd.prog.readableRec t = true ∧ t < Tryd.prog.types.size := by
      simp only [List.forall_mem_cons]
      exact ⟨⟨by kernel_rfl, of_decide_eq_true (by kernel_rfl)⟩, ⟨by kernel_rfl, of_decide_eq_true (by kernel_rfl)⟩, ⟨by kernel_rfl, of_decide_eq_true (by kernel_rfl)⟩, ⟨by kernel_rfl, of_decide_eq_true (by kernel_rfl)⟩, ⟨by kernel_rfl, of_decide_eq_true (by kernel_rfl)⟩, fun t ht => by cases ht⟩
    exact key
  · intro ds hd
    rw [Tryd.params3] at hd
    match ds, hd with
    | [d0, d1, d2, d3, d4], _ => rfl
theorem schemeOrder_over : Rows.schemeOrderRow.holds Tryd.pinned (OpenSpec.ofChange Rows.schemeOrderSpec) :=
  OpenClaim.holds_of_wide 3 Tryd.f3 rfl rfl rfl rfl rfl rfl rfl ⟨rfl, rfl, rfl, rfl, rfl⟩ rfl rfl rfl rfl rfl (by kernel_rfl) Tryd.func3 (by kernel_rfl)
    (of_decide_eq_true (by kernel_rfl)) (by unfold Func.isWrapper; first | (rw [if_pos (by decide +kernel)]; kernel_rfl) | (rw [if_neg (by decide +kernel)]; exact ⟨rfl, rfl⟩))
    (fun os started H enc _ => schemeOrder_lifted os started H enc)
theorem schemeOrderProved : Rows.SchemeOrderCardSaid :=
  Claim7.holds_tied_plain_at .later [] [.data, .data, .data] true (true, "82d478f9a55e9938cca9cb263603b55a79f1fa6fe91b3b1abc033c0d6290fae3") false schemeOrder_over (fun _ h => by cases h) (by kernel_rfl) (fun _ h => by cases h) schemeOrder_row_tie rfl ⟨rfl, rfl⟩ (by kernel_rfl) rfl
    (fun f fn hf hfn => by
      obtain rfl : f = 3 := Option.some.inj ((show Tryd.prog.funcNamed "touchstone/touchstonelaw14.SchemeOrder" = some 3 by kernel_rfl).symm.trans hf) |>.symm
      obtain rfl : fn = Tryd.f3 := (Option.some.inj (Tryd.func3.symm.trans hfn)).symm
      exact ⟨by kernel_rfl, fun j t ht => by
        rw [Tryd.params3] at ht
        have hm : t ∈ [24, 24, 24, 24, 24] := by simpa using Array.mem_of_getElem? ht
        have hall : ([24, 24, 24, 24, 24].all fun u => !Tryd.prog.wantsStandIn u) = true := by kernel_rfl
        exact (show Tryd.prog.wantsStandIn t = false by simpa using List.all_eq_true.1 hall t hm)⟩)
    (by kernel_rfl)
#print axioms schemeOrderProved
end Go.Proofs.YtedapgcaibbhoaaDoor
