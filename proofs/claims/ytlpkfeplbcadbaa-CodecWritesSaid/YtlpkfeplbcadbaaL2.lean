/- Items of CodecWrites as abstract values. -/
import Derived.Test.YtlpkfeplbcadbaaC21
import Derived.Test.YtlpkfeplbcadbaaL0
namespace Go.Proofs.Ytlpkfeplbcadbaa
open Go Go.Ab Go.Proofs Go.RowKit Go.ChangeShapes Go.WideShapes
theorem und48 : Try.prog.underlying 48 = some (.struct #[⟨"Kind", 3, 0, false, "", "", 0⟩, ⟨"U", 30, 1, false, "", "", 8⟩, ⟨"N", 3, 2, false, "", "", 16⟩, ⟨"S", 9, 3, false, "", "", 24⟩]) := by kernel_rfl
theorem cells48 : Try.prog.cellsOf 48 = 4 := by kernel_rfl
theorem cells3 : Try.prog.cellsOf 3 = 1 := by kernel_rfl
theorem cells30 : Try.prog.cellsOf 30 = 1 := by kernel_rfl
theorem cells9 : Try.prog.cellsOf 9 = 1 := by kernel_rfl
theorem agg3 : tagg Try.prog 3 = some false := by kernel_rfl
theorem agg30 : tagg Try.prog 30 = some false := by kernel_rfl
theorem agg9 : tagg Try.prog 9 = some false := by kernel_rfl
theorem WT_item {n : Nat} {a : AV} (h : WT Try.prog n 48 a) : ∃ i : Itm, a = i.v := by
  cases n with
  | zero => exact h.elim
  | succ n =>
    unfold WT at h
    rw [und48] at h
    obtain ⟨cs, rfl, hl, hf⟩ := h
    rw [cells48] at hl
    match cs, hl with
    | [a, b, c, d], _ =>
      have f0 := hf ⟨"Kind", 3, 0, false, "", "", 0⟩ (by simp)
      have f1 := hf ⟨"U", 30, 1, false, "", "", 8⟩ (by simp)
      have f2 := hf ⟨"N", 3, 2, false, "", "", 16⟩ (by simp)
      have f3 := hf ⟨"S", 9, 3, false, "", "", 24⟩ (by simp)
      simp only [cells3, cells30, cells9, ofCells, agg3, agg30, agg9, List.drop_zero, List.drop_succ_cons, List.take_succ_cons, List.take_zero, List.headD_cons] at f0 f1 f2 f3
      obtain ⟨x, rfl, x1⟩ := WT_i64 und_3 f0
      obtain ⟨u, rfl, u1, u2⟩ := WT_u64 und_30 f1
      obtain ⟨m, rfl, m1⟩ := WT_i64 und_3 f2
      obtain ⟨s, rfl, _⟩ := WT_str f3
      obtain ⟨t, rfl⟩ := txt_of s
      refine ⟨⟨x, BitVec.ofInt 64 u, m, t, x1, m1⟩, ?_⟩
      show _ = AV.agg [_, .val (.int .u64 ((BitVec.ofInt 64 u).toNat : Int)), _, _]
      rw [← v64_of u1 u2]
theorem WT_items {n : Nat} {a : AV} (h : WT Try.prog n 42 a) : ∃ l : List Itm, a = .slc false (l.map Itm.v) := by
  cases n with
  | zero => exact h.elim
  | succ n =>
    unfold WT at h
    rw [Try.underlying42] at h
    obtain ⟨es, rfl, _, he⟩ := h
    have key : ∀ es : List AV, (∀ x ∈ es, WT Try.prog n 48 x) → ∃ l : List Itm, es = l.map Itm.v := by
      intro es
      induction es with
      | nil => intro _; exact ⟨[], rfl⟩
      | cons x r ih =>
        intro h
        obtain ⟨i, rfl⟩ := WT_item (h x (List.mem_cons_self ..))
        obtain ⟨l, rfl⟩ := ih fun y hy => h y (List.mem_cons_of_mem _ hy)
        exact ⟨i :: l, rfl⟩
    obtain ⟨l, rfl⟩ := key es he
    exact ⟨l, rfl⟩
end Go.Proofs.Ytlpkfeplbcadbaa
