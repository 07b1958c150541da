/- Parts of the proof, each with its own heading: Commands: pins read as the document says. Commands: what is decoded. Commands: what is decoded as the document says. Commands: what is decoded has just these bytes, and back. Commands: the chapter's examples; an error's number. CommandDecodes and CommandEncodes are true of every input. What the laws of touchstonelaw23 share: closed facts of the program, and arguments of its types as abstract values. Answers: writers of some numbers and texts at once. Answers: an answer's bytes. Answers: Told. Answers: Told as the document says. Answers: reading, in steps. -/
import Derived.Test.YtfloombnadnmaaaDoorPart11
import Derived.Test.YtfloombnadnmaaaDoorRows
set_option linter.unusedSimpArgs false
set_option linter.unusedVariables false
namespace Go.Proofs.YtfloombnadnmaaaDoor
open Go Go.Ab Go.Proofs
set_option maxRecDepth 100000
set_option linter.unusedSimpArgs false
set_option linter.unusedVariables false
def sN (x : BitVec 64) : Int := min (x.toNat : Int) 1000000
section
variable {h : AHeap} {id : Nat}
theorem qU_l {s : List UInt8} {b : Bool} (l : AHeap) (hr : hget h id = RO s b) (hid : id < h.length) (hs : s.length < 2 ^ 62) : doCall md (aval Tryd.prog md fg) 40 [.ptr id 0] (h ++ l) = some (v64 (uA s b), h.set id (RO (uS s b).1 (uS s b).2) ++ l) := by
  rw [← sa_set l _ hid]
  exact qU_c (by rw [sa_id l hid]; exact hr) (by simp; omega) hs
theorem qT_l {s : List UInt8} {b : Bool} (l : AHeap) (hr : hget h id = RO s b) (hid : id < h.length) (hs : s.length < 2 ^ 62) : doCall md (aval Tryd.prog md fg) 42 [.ptr id 0] (h ++ l) = some (.val (.string (txt (tA s b))), h.set id (RO (tS s b).1 (tS s b).2) ++ l) := by
  rw [← sa_set l _ hid]
  exact qT_c (by rw [sa_id l hid]; exact hr) (by simp; omega) hs
set_option maxHeartbeats 8000000 in
theorem qRead {s : List UInt8} {b : Bool} (hr : hget h id = RO s b) (hid : id < h.length) (hs : s.length < 2 ^ 62) : doCall md (aval Tryd.prog md fg) 41 [.ptr id 0] h = some (pinV (tA s b) (sN (pa s b)) (sN (pb s b)) (sN (pc s b)), h.set id (RO (st4 s b).1 (st4 s b).2)) := by
  have k1 := st1_len s b
  have k2 := st2_len s b
  have k3 := st3_len s b
  have cT := fun l => qT_l l hr hid hs
  have E : ∀ X : AObj, hget (h.set id X) id = X := fun X => hget_set_eq hid
  have L : ∀ X : AObj, (h.set id X).length = h.length := fun X => by simp
  have n1 := fun l => qU_l (h := h.set id (RO (st1 s b).1 (st1 s b).2)) l (E _) (by rw [L]; exact hid) (by omega)
  have n2 := fun l => qU_l (h := h.set id (RO (st2 s b).1 (st2 s b).2)) l (E _) (by rw [L]; exact hid) (by omega)
  have n3 := fun l => qU_l (h := h.set id (RO (st3 s b).1 (st3 s b).2)) l (E _) (by rw [L]; exact hid) (by omega)
  have cS : ∀ (x : BitVec 64) (g : AHeap), doCall md (aval Tryd.prog md fg) 39 [v64 x] g = some (.int (sN x), g) := fun x g => doCall_pure md39 rfl (small_p x)
  rw [List.set_set] at n1 n2 n3
  refine doCall_turn (h' := h.set id (RO (st4 s b).1 (st4 s b).2) ++ [AObj.vars [.str (txt (tA s b)), .int (sN (pa s b)), .int (sN (pb s b)), .int (sN (pc s b))], AObj.vars [.str (txt (tA s b)), .int (sN (pa s b)), .int (sN (pb s b)), .int (sN (pc s b))]]) (by decide) ?_ rfl hid (by rw [List.take_left']; simp) rfl
  change ∀ l, _ = some (_, h.set id (RO (st2 s b).1 (st2 s b).2) ++ l) at n1
  change ∀ l, _ = some (_, h.set id (RO (st3 s b).1 (st3 s b).2) ++ l) at n2
  change ∀ l, _ = some (_, h.set id (RO (st4 s b).1 (st4 s b).2) ++ l) at n3
  change ∀ l, _ = some (_, h.set id (RO (st1 s b).1 (st1 s b).2) ++ l) at cT
  generalize (RO (st1 s b).1 (st1 s b).2) = R1 at *
  generalize (RO (st2 s b).1 (st2 s b).2) = R2 at *
  generalize (RO (st3 s b).1 (st3 s b).2) = R3 at *
  generalize (RO (st4 s b).1 (st4 s b).2) = R4 at *
  rw [aval_of Tryd.func41 body41 Tryd.results41 Tryd.ntmps41 ok41]
  simp (implicitDefEqProofs := false) (maxSteps := 1000000) (disch := first | omega | exact List.length_set) only [go_sem, Nat.reduceAdd, Nat.reduceSub, Nat.reduceMul, Nat.reduceLT, Nat.reduceLeDiff, Nat.reduceEqDiff, List.drop_zero, List.take_succ_cons, List.take_zero, List.drop_succ_cons, Bool.and_true, Bool.true_and, Bool.and_false, Bool.false_and, BitVec.reduceOfInt, Nat.zero_add, Nat.mul_one, Nat.add_zero, Int.zero_add, Int.reduceToNat, Nat.reducePow, ↓reduceIte, reduceCtorEq, Int.reduceLE, Int.reduceLT, Int.reduceEq, Int.reduceNe, Int.reduceAdd, Int.reduceSub, Int.reduceMul, Int.reduceNeg, Nat.reduceBEq, show regOf Tryd.f41 0 = Code.region _ _ _ from rfl, show regOf Tryd.f41 1 = Code.region _ _ _ from rfl, show regOf Tryd.f41 2 = Code.region _ _ _ from rfl, show regOf Tryd.f41 3 = Code.region _ _ _ from rfl, show regOf Tryd.f41 4 = Code.region _ _ _ from rfl, show regOf Tryd.f41 5 = Code.region _ _ _ from rfl, List.append_assoc, List.cons_append, List.nil_append, List.length_append, List.length_cons, List.length_nil, List.length_set, sb_get0, sb_get1, sb_get2, sb_set0, sb_set1, sb_set2, cT, n1, n2, n3, cS, aresults, tupOf, Option.map_some]
  rfl
end
end Go.Proofs.YtfloombnadnmaaaDoor
namespace Go.Proofs.YtfloombnadnmaaaDoor
open Go Go.Ab Go.Proofs
set_option maxRecDepth 100000
set_option linter.unusedSimpArgs false
set_option linter.unusedVariables false
/-- A reader's state behind a pin, if there is one; behind a text, if there is one. -/
def dS (x : Bool) (s : List UInt8 × Bool) : List UInt8 × Bool := if x then st4 s.1 s.2 else s
def dS4 (z : Bool) (s : List UInt8 × Bool) : List UInt8 × Bool := if z then tS s.1 s.2 else s
def dP (x : Bool) (s : List UInt8 × Bool) : List UInt8 := if x then tA s.1 s.2 else []
def dA (nf : BitVec 64 → Int) (x : Bool) (s : List UInt8 × Bool) : Int := if x then nf (pa s.1 s.2) else 0
def dB (nf : BitVec 64 → Int) (x : Bool) (s : List UInt8 × Bool) : Int := if x then nf (pb s.1 s.2) else 0
def dC (nf : BitVec 64 → Int) (x : Bool) (s : List UInt8 × Bool) : Int := if x then nf (pc s.1 s.2) else 0
def d1 (s : List UInt8) : List UInt8 × Bool := uS s false
def d2 (x : Bool) (s : List UInt8) := dS x (d1 s)
def d3 (x y : Bool) (s : List UInt8) := dS y (d2 x s)
def d4 (x y z : Bool) (s : List UInt8) := dS4 z (d3 x y s)
def dM (nf : BitVec 64 → Int) (k : Int) (x y z : Bool) (s : List UInt8) : Cmd :=
  ⟨k, dP x (d1 s), dA nf x (d1 s), dB nf x (d1 s), dC nf x (d1 s), dP y (d2 x s), dA nf y (d2 x s), dB nf y (d2 x s), dC nf y (d2 x s), dP z (d3 x y s)⟩
def decOk (nf : BitVec 64 → Int) (k : Int) (x y z : Bool) (s : List UInt8) : Bool := (!(d4 x y z s).2 && (d4 x y z s).1.isEmpty) && (dM nf k x y z s).right
/-- The command that bytes are. -/
def dec (nf : BitVec 64 → Int) (s : List UInt8) : Option Cmd :=
  let k := nf (uA s false)
  if decOk nf k (pinB k) (decide (k = 6)) (srcB k) s then some (dM nf k (pinB k) (decide (k = 6)) (srcB k) s) else none
abbrev zeroV : AV := .agg [.int 0, .str ⟨#[]⟩, .int 0, .int 0, .int 0, .str ⟨#[]⟩, .int 0, .int 0, .int 0, .str ⟨#[]⟩]
def decV : Option Cmd → AV
  | some m => .tup [cmdV m, .int 0]
  | none => .tup [zeroV, .int 8]
theorem d1_len (s : List UInt8) : (d1 s).1.length ≤ s.length := uS_len s false
theorem dS_len (x : Bool) (s : List UInt8 × Bool) : (dS x s).1.length ≤ s.1.length := by
  unfold dS; split
  · exact st4_len s.1 s.2
  · exact Nat.le_refl _
theorem d2_len (x : Bool) (s : List UInt8) : (d2 x s).1.length ≤ s.length := Nat.le_trans (dS_len _ _) (d1_len s)
theorem d3_len (x y : Bool) (s : List UInt8) : (d3 x y s).1.length ≤ s.length := Nat.le_trans (dS_len _ _) (d2_len x s)
theorem tA_len (s : List UInt8) (b : Bool) : (tA s b).length ≤ s.length := by
  unfold tA; split
  · simp
  · have := uS_len s b; simp; omega
theorem dP_len (x : Bool) (s : List UInt8 × Bool) : (dP x s).length ≤ s.1.length := by
  unfold dP; split
  · exact tA_len _ _
  · simp
theorem dM_small (nf : BitVec 64 → Int) (k : Int) (x y z : Bool) {s : List UInt8} (hs : s.length < 9223372036854775808) : (dM nf k x y z s).small :=
  ⟨Nat.lt_of_le_of_lt (Nat.le_trans (dP_len _ _) (d1_len s)) hs, Nat.lt_of_le_of_lt (Nat.le_trans (dP_len _ _) (d2_len x s)) hs, Nat.lt_of_le_of_lt (Nat.le_trans (dP_len _ _) (d3_len x y s)) hs⟩
theorem right_kind {m : Cmd} (h : m.right = true) : kindB m.k = true := by
  unfold Cmd.right at h
  simp only [Bool.and_eq_true] at h
  exact h.1.1.1.1
theorem dS_f (s : List UInt8 × Bool) : dS false s = s := rfl
theorem dS4_f (s : List UInt8 × Bool) : dS4 false s = s := rfl
theorem dP_f (s : List UInt8 × Bool) : txt (dP false s) = ⟨#[]⟩ := rfl
theorem dA_f (nf : BitVec 64 → Int) (s : List UInt8 × Bool) : dA nf false s = 0 := rfl
theorem dB_f (nf : BitVec 64 → Int) (s : List UInt8 × Bool) : dB nf false s = 0 := rfl
theorem dC_f (nf : BitVec 64 → Int) (s : List UInt8 × Bool) : dC nf false s = 0 := rfl
abbrev RO2 (s : List UInt8 × Bool) : AObj := RO s.1 s.2
set_option maxHeartbeats 16000000 in
theorem decode_p {s : List UInt8} (hs : s.length < 2 ^ 62) : pcall Tryd.prog md fg 15 [.str (txt s)] = some (decV (dec cN s)) := by
  have e : ∃ h, aval Tryd.prog md fg 15 [.str (txt s)] [] = some (decV (dec cN s), h) := by
    have cn : ∀ h : AHeap, doCall md (aval Tryd.prog md fg) 34 [.str (txt s)] h = some (.ptr h.length 0, h ++ [RO s false]) := fun h => doCall_keep (by decide) (by decide) (by decide) (newReader (txt s) h) (by simp [below])
    have c35 : ∀ (A B : AObj), doCall md (aval Tryd.prog md fg) 35 [.agg [.ptr 1 0]] [A, RO s false, B] = some (.int (cN (uA s false)), [A, RO2 (d1 s), B]) := fun A B => rNum (h := [A, RO s false, B]) (id := 1) rfl (by simp) hs
    have l1 := d1_len s
    unfold dec
    dsimp only
    rw [apply_ite decV, ← Bool.cond_eq_ite]
    unfold decOk
    generalize cN (uA s false) = k at *
    have c36 : ∀ (t : List UInt8 × Bool) (A B C D : AObj), t.1.length ≤ s.length → doCall md (aval Tryd.prog md fg) 36 [.agg [.ptr 1 0]] [A, RO2 t, B, C, D] = some (.agg [.str (txt (dP true t)), .int (dA cN true t), .int (dB cN true t), .int (dC cN true t)], [A, RO2 (dS true t), B, C, D]) := fun t A B C D ht => rPin (h := [A, RO2 t, B, C, D]) (id := 1) rfl (by simp) (by omega)
    have c37 : ∀ (t : List UInt8 × Bool) (A B C D : AObj), t.1.length ≤ s.length → doCall md (aval Tryd.prog md fg) 37 [.ptr 1 0] [A, RO2 t, B, C, D] = some (.val (.string (txt (dP true t))), [A, RO2 (dS4 true t), B, C, D]) := fun t A B C D ht => rT_c (h := [A, RO2 t, B, C, D]) (id := 1) rfl (by simp) (by omega)
    have c38 : ∀ (t : List UInt8 × Bool) (A B C D : AObj), doCall md (aval Tryd.prog md fg) 38 [.ptr 1 0] [A, RO2 t, B, C, D] = some (.val (.bool (!t.2 && t.1.isEmpty)), [A, RO2 t, B, C, D]) := fun t A B C D => rDone_c (h := [A, RO2 t, B, C, D]) (id := 1) rfl
    have cp : ∀ h : AHeap, doCall md (aval Tryd.prog md fg) 23 [.int k] h = some (partsV k, h) := fun h => doCall_pure md23 rfl (partsOf_p k)
    unfold partsV at cp
    have cr : ∀ (x y z : Bool) (h : AHeap), doCall md (aval Tryd.prog md fg) 11 [cmdV (dM cN k x y z s)] h = some (.val (.bool (dM cN k x y z s).right), h) := fun x y z h => doCall_pure md11 rfl (cright_p _ (dM_small cN k x y z (by omega)))
    have hk : ∀ x y z, (dM cN k x y z s).right = true → kindB k = true := fun x y z h => right_kind h
    generalize pinB k = x at *
    generalize decide (k = 6) = y at *
    generalize srcB k = z at *
    generalize kindB k = w at *
    have cr := cr x y z
    have hk := hk x y z
    have l2 := d2_len x s
    have l3 := d3_len x y s
    generalize hrg : (dM cN k x y z s).right = rg at *
    clear hrg
    show ∃ h, aval Tryd.prog md fg 15 [.str (txt s)] [] = some (cond ((!(d4 x y z s).2 && (d4 x y z s).1.isEmpty) && rg) (.tup [cmdV (dM cN k x y z s), .int 0]) (.tup [zeroV, .int 8]), h)
    dsimp only [dM, cmdV, d4, d3, d2] at cr l2 l3 ⊢
    generalize hD : (!(dS4 z (dS y (dS x (d1 s)))).2 && (dS4 z (dS y (dS x (d1 s)))).1.isEmpty) = D at *
    rw [aval_of Tryd.func15 body15 Tryd.results15 Tryd.ntmps15 ok15]
    simp (disch := first | omega) only [go_sem, Nat.reduceAdd, Nat.reduceSub, Nat.reduceMul, Nat.reduceLT, Nat.reduceLeDiff, Nat.reduceEqDiff, List.drop_zero, List.take_succ_cons, List.take_zero, List.drop_succ_cons, Bool.and_true, Bool.true_and, Bool.and_false, Bool.false_and, BitVec.reduceOfInt, Nat.zero_add, Nat.mul_one, Nat.add_zero, Int.zero_add, Int.reduceToNat, Nat.reducePow, ↓reduceIte, reduceCtorEq, Int.reduceLE, Int.reduceLT, Int.reduceEq, Int.reduceNe, Int.reduceAdd, Int.reduceSub, Int.reduceMul, Int.reduceNeg, Nat.reduceBEq, show regOf Tryd.f15 0 = Code.region _ _ _ from rfl, show regOf Tryd.f15 1 = Code.region _ _ _ from rfl, show regOf Tryd.f15 2 = Code.region _ _ _ from rfl, show regOf Tryd.f15 3 = Code.region _ _ _ from rfl, cn, c35, cp]
    cases x <;> cases y <;> cases z
    all_goals try simp only [dS_f, dS4_f, dP_f, dA_f, dB_f, dC_f] at cr l2 l3 hD ⊢
    all_goals simp (disch := first | omega) only [go_sem, Nat.reduceAdd, Nat.reduceSub, Nat.reduceMul, Nat.reduceLT, Nat.reduceLeDiff, Nat.reduceEqDiff, List.drop_zero, List.take_succ_cons, List.take_zero, List.drop_succ_cons, Bool.and_true, Bool.true_and, Bool.and_false, Bool.false_and, BitVec.reduceOfInt, Nat.zero_add, Nat.mul_one, Nat.add_zero, Int.zero_add, Int.reduceToNat, Nat.reducePow, ↓reduceIte, reduceCtorEq, Int.reduceLE, Int.reduceLT, Int.reduceEq, Int.reduceNe, Int.reduceAdd, Int.reduceSub, Int.reduceMul, Int.reduceNeg, Nat.reduceBEq, show regOf Tryd.f15 4 = Code.region _ _ _ from rfl, show regOf Tryd.f15 5 = Code.region _ _ _ from rfl, show regOf Tryd.f15 6 = Code.region _ _ _ from rfl, show regOf Tryd.f15 7 = Code.region _ _ _ from rfl, show regOf Tryd.f15 8 = Code.region _ _ _ from rfl, show regOf Tryd.f15 9 = Code.region _ _ _ from rfl, c36, c37, c38]
    all_goals cases w <;> cases D <;> cases rg
    all_goals first | (exact absurd (hk rfl) (by decide)) | (simp (disch := first | omega) only [go_sem, Nat.reduceAdd, Nat.reduceSub, Nat.reduceMul, Nat.reduceLT, Nat.reduceLeDiff, Nat.reduceEqDiff, List.drop_zero, List.take_succ_cons, List.take_zero, List.drop_succ_cons, Bool.and_true, Bool.true_and, Bool.and_false, Bool.false_and, BitVec.reduceOfInt, Nat.zero_add, Nat.mul_one, Nat.add_zero, Int.zero_add, Int.reduceToNat, Nat.reducePow, ↓reduceIte, reduceCtorEq, Int.reduceLE, Int.reduceLT, Int.reduceEq, Int.reduceNe, Int.reduceAdd, Int.reduceSub, Int.reduceMul, Int.reduceNeg, Nat.reduceBEq, show regOf Tryd.f15 10 = Code.region _ _ _ from rfl, show regOf Tryd.f15 11 = Code.region _ _ _ from rfl, show regOf Tryd.f15 12 = Code.region _ _ _ from rfl, cr, hD, c38, aresults, tupOf, Option.map_some]; exact ⟨_, rfl⟩)
  obtain ⟨h, e⟩ := e
  rw [pcall_eq, e]
  cases dec cN s <;> exact pureRes_solid rfl
end Go.Proofs.YtfloombnadnmaaaDoor
namespace Go.Proofs.YtfloombnadnmaaaDoor
open Go Go.Ab Go.Proofs
set_option maxRecDepth 100000
set_option linter.unusedSimpArgs false
set_option linter.unusedVariables false
set_option maxHeartbeats 16000000 in
theorem rdecode_p {s : List UInt8} (hs : s.length < 2 ^ 62) : pcall Tryd.prog md fg 16 [.str (txt s)] = some (decV (dec sN s)) := by
  have e : ∃ h, aval Tryd.prog md fg 16 [.str (txt s)] [] = some (decV (dec sN s), h) := by
    have c40 : ∀ (A : AObj), doCall md (aval Tryd.prog md fg) 40 [.ptr 1 0] [A, RO s false] = some (v64 (uA s false), [A, RO2 (d1 s)]) := fun A => qU_c (h := [A, RO s false]) (id := 1) rfl (by simp) hs
    have c39 : ∀ (g : AHeap), doCall md (aval Tryd.prog md fg) 39 [v64 (uA s false)] g = some (.int (sN (uA s false)), g) := fun g => doCall_pure md39 rfl (small_p _)
    have l1 := d1_len s
    unfold dec
    dsimp only
    rw [apply_ite decV, ← Bool.cond_eq_ite]
    unfold decOk
    generalize sN (uA s false) = k at *
    have c41 : ∀ (t : List UInt8 × Bool) (A B : AObj), t.1.length ≤ s.length → doCall md (aval Tryd.prog md fg) 41 [.ptr 1 0] [A, RO2 t, B] = some (.agg [.str (txt (dP true t)), .int (dA sN true t), .int (dB sN true t), .int (dC sN true t)], [A, RO2 (dS true t), B]) := fun t A B ht => qRead (h := [A, RO2 t, B]) (id := 1) rfl (by simp) (by omega)
    have c42 : ∀ (t : List UInt8 × Bool) (A B : AObj), t.1.length ≤ s.length → doCall md (aval Tryd.prog md fg) 42 [.ptr 1 0] [A, RO2 t, B] = some (.val (.string (txt (dP true t))), [A, RO2 (dS4 true t), B]) := fun t A B ht => qT_c (h := [A, RO2 t, B]) (id := 1) rfl (by simp) (by omega)
    have c28 : ∀ h : AHeap, doCall md (aval Tryd.prog md fg) 28 [.int k] h = some (.val (.bool (pinB k)), h) := fun h => doCall_pure md28 rfl (hasPin_p k)
    have c30 : ∀ h : AHeap, doCall md (aval Tryd.prog md fg) 30 [.int k] h = some (.val (.bool (srcB k)), h) := fun h => doCall_pure md30 rfl (hasSource_p k)
    have cr : ∀ (x y z : Bool) (h : AHeap), doCall md (aval Tryd.prog md fg) 12 [cmdV (dM sN k x y z s)] h = some (.val (.bool (dM sN k x y z s).right), h) := fun x y z h => doCall_pure md12 rfl (rright2_p _ (dM_small sN k x y z (by omega)))
    have hk6 : (k == 6) = decide (k = 6) := rfl
    generalize pinB k = x at *
    generalize decide (k = 6) = y at *
    generalize srcB k = z at *
    have cr := cr x y z
    have l2 := d2_len x s
    have l3 := d3_len x y s
    generalize hrg : (dM sN k x y z s).right = rg at *
    clear hrg
    show ∃ h, aval Tryd.prog md fg 16 [.str (txt s)] [] = some (cond ((!(d4 x y z s).2 && (d4 x y z s).1.isEmpty) && rg) (.tup [cmdV (dM sN k x y z s), .int 0]) (.tup [zeroV, .int 8]), h)
    dsimp only [dM, cmdV, d4, d3, d2] at cr l2 l3 ⊢
    generalize hT : dS4 z (dS y (dS x (d1 s))) = T at *
    rw [aval_of Tryd.func16 body16 Tryd.results16 Tryd.ntmps16 ok16]
    simp (disch := first | omega) only [go_sem, Nat.reduceAdd, Nat.reduceSub, Nat.reduceMul, Nat.reduceLT, Nat.reduceLeDiff, Nat.reduceEqDiff, List.drop_zero, List.take_succ_cons, List.take_zero, List.drop_succ_cons, Bool.and_true, Bool.true_and, Bool.and_false, Bool.false_and, BitVec.reduceOfInt, Nat.zero_add, Nat.mul_one, Nat.add_zero, Int.zero_add, Int.reduceToNat, Nat.reducePow, ↓reduceIte, reduceCtorEq, Int.reduceLE, Int.reduceLT, Int.reduceEq, Int.reduceNe, Int.reduceAdd, Int.reduceSub, Int.reduceMul, Int.reduceNeg, Nat.reduceBEq, show regOf Tryd.f16 0 = Code.region _ _ _ from rfl, show regOf Tryd.f16 1 = Code.region _ _ _ from rfl, show regOf Tryd.f16 2 = Code.region _ _ _ from rfl, c40, c39]
    cases x <;> cases y <;> cases z
    all_goals try simp only [dS_f, dS4_f, dP_f, dA_f, dB_f, dC_f] at cr l2 l3 hT ⊢
    all_goals simp (disch := first | omega) only [go_sem, Nat.reduceAdd, Nat.reduceSub, Nat.reduceMul, Nat.reduceLT, Nat.reduceLeDiff, Nat.reduceEqDiff, List.drop_zero, List.take_succ_cons, List.take_zero, List.drop_succ_cons, Bool.and_true, Bool.true_and, Bool.and_false, Bool.false_and, BitVec.reduceOfInt, Nat.zero_add, Nat.mul_one, Nat.add_zero, Int.zero_add, Int.reduceToNat, Nat.reducePow, ↓reduceIte, reduceCtorEq, Int.reduceLE, Int.reduceLT, Int.reduceEq, Int.reduceNe, Int.reduceAdd, Int.reduceSub, Int.reduceMul, Int.reduceNeg, Nat.reduceBEq, show regOf Tryd.f16 3 = Code.region _ _ _ from rfl, show regOf Tryd.f16 4 = Code.region _ _ _ from rfl, show regOf Tryd.f16 5 = Code.region _ _ _ from rfl, show regOf Tryd.f16 6 = Code.region _ _ _ from rfl, show regOf Tryd.f16 7 = Code.region _ _ _ from rfl, show regOf Tryd.f16 8 = Code.region _ _ _ from rfl, c41, c42, c28, c30, hk6]
    all_goals simp only [hT]
    all_goals obtain ⟨u, bb⟩ := T
    all_goals dsimp only [RO2, RO]
    all_goals have hu := txt_eq_nil u
    all_goals cases bb <;> cases u <;> cases rg
    all_goals simp only [reduceCtorEq] at hu
    all_goals simp (disch := first | omega) only [go_sem, Nat.reduceAdd, Nat.reduceSub, Nat.reduceMul, Nat.reduceLT, Nat.reduceLeDiff, Nat.reduceEqDiff, List.drop_zero, List.take_succ_cons, List.take_zero, List.drop_succ_cons, Bool.and_true, Bool.true_and, Bool.and_false, Bool.false_and, BitVec.reduceOfInt, Nat.zero_add, Nat.mul_one, Nat.add_zero, Int.zero_add, Int.reduceToNat, Nat.reducePow, ↓reduceIte, reduceCtorEq, Int.reduceLE, Int.reduceLT, Int.reduceEq, Int.reduceNe, Int.reduceAdd, Int.reduceSub, Int.reduceMul, Int.reduceNeg, Nat.reduceBEq, show regOf Tryd.f16 9 = Code.region _ _ _ from rfl, show regOf Tryd.f16 10 = Code.region _ _ _ from rfl, show regOf Tryd.f16 11 = Code.region _ _ _ from rfl, cr, hu, aresults, tupOf, Option.map_some]
    all_goals exact ⟨_, rfl⟩
  obtain ⟨h, e⟩ := e
  rw [pcall_eq, e]
  cases dec sN s <;> exact pureRes_solid rfl
end Go.Proofs.YtfloombnadnmaaaDoor
namespace Go.Proofs.YtfloombnadnmaaaDoor
open Go Go.Ab Go.Proofs
set_option maxRecDepth 100000
set_option linter.unusedSimpArgs false
set_option linter.unusedVariables false
theorem cN_eq {x : BitVec 64} (h : x.toNat ≤ 999999) : cN x = (x.toNat : Int) := by unfold cN; rw [Int.min_eq_left (by omega)]
theorem sN_eq {x : BitVec 64} (h : x.toNat ≤ 999999) : sN x = (x.toNat : Int) := by unfold sN; rw [Int.min_eq_left (by omega)]
theorem cN_big {x : BitVec 64} (h : ¬ x.toNat ≤ 999999) : 999999 < cN x := by unfold cN; rw [Int.min_def]; split <;> omega
theorem sN_big {x : BitVec 64} (h : ¬ x.toNat ≤ 999999) : 999999 < sN x := by unfold sN; rw [Int.min_def]; split <;> omega
theorem cN_le {x : BitVec 64} (h : cN x ≤ 999999) : x.toNat ≤ 999999 := Decidable.byContradiction fun hn => by have := cN_big hn; omega
theorem num_cN {x : BitVec 64} (h : cN x ≤ 999999) : num (cN x) = uvarN x.toNat := by
  unfold num; rw [cN_eq (cN_le h)]; rfl
theorem st4_ok {s : List UInt8} {b : Bool} (h : (st4 s b).2 = false) : b = false ∧ textL (tA s b) ++ (uvarN (pa s b).toNat ++ (uvarN (pb s b).toNat ++ (uvarN (pc s b).toNat ++ (st4 s b).1))) = s := by
  obtain ⟨h3, e3⟩ := uS_ok (s := (st3 s b).1) (b := (st3 s b).2) h
  obtain ⟨h2, e2⟩ := uS_ok (s := (st2 s b).1) (b := (st2 s b).2) h3
  obtain ⟨h1, e1⟩ := uS_ok (s := (st1 s b).1) (b := (st1 s b).2) h2
  obtain ⟨h0, e0⟩ := tS_ok (s := s) (b := b) h1
  refine ⟨h0, ?_⟩
  show textL (tA s b) ++ (uvarN (uA (st1 s b).1 (st1 s b).2).toNat ++ (uvarN (uA (st2 s b).1 (st2 s b).2).toNat ++ (uvarN (uA (st3 s b).1 (st3 s b).2).toNat ++ (uS (st3 s b).1 (st3 s b).2).1))) = s
  rw [e3]
  show textL (tA s b) ++ (uvarN (uA (st1 s b).1 (st1 s b).2).toNat ++ (uvarN (uA (st2 s b).1 (st2 s b).2).toNat ++ (uS (st2 s b).1 (st2 s b).2).1)) = s
  rw [e2]
  show textL (tA s b) ++ (uvarN (uA (st1 s b).1 (st1 s b).2).toNat ++ (uS (st1 s b).1 (st1 s b).2).1) = s
  rw [e1]
  exact e0
theorem dS4_ok {z : Bool} {t : List UInt8 × Bool} (h : (dS4 z t).2 = false) : t.2 = false ∧ (if z then textL (dP z t) else []) ++ (dS4 z t).1 = t.1 := by
  cases z with
  | false => exact ⟨h, rfl⟩
  | true => exact tS_ok h
theorem dS_ok {x : Bool} {t : List UInt8 × Bool} (h : (dS x t).2 = false) (hf : x = true → Fits (dP x t) (dA cN x t) (dB cN x t) (dC cN x t)) : t.2 = false ∧ (if x then pinL (dP x t) (dA cN x t) (dB cN x t) (dC cN x t) else []) ++ (dS x t).1 = t.1 := by
  cases x with
  | false => exact ⟨h, rfl⟩
  | true =>
    obtain ⟨h0, e0⟩ := st4_ok (s := t.1) (b := t.2) h
    refine ⟨h0, ?_⟩
    obtain ⟨_, f2, f3, f4⟩ := hf rfl
    show (textL (tA t.1 t.2) ++ (num (cN (pa t.1 t.2)) ++ (num (cN (pb t.1 t.2)) ++ num (cN (pc t.1 t.2))))) ++ (st4 t.1 t.2).1 = t.1
    rw [num_cN f2.2, num_cN f3.2, num_cN f4.2]
    simpa only [List.append_assoc] using e0
theorem decOk_parts {nf : BitVec 64 → Int} {k : Int} {x y z : Bool} {s : List UInt8} (h : decOk nf k x y z s = true) : (d4 x y z s).2 = false ∧ (d4 x y z s).1 = [] ∧ (dM nf k x y z s).right = true := by
  unfold decOk at h
  simp only [Bool.and_eq_true, Bool.not_eq_true', List.isEmpty_iff] at h
  exact ⟨h.1.1, h.1.2, h.2⟩
/-- What is decoded has these bytes. -/
theorem dec_enc {s : List UInt8} {m : Cmd} (h : dec cN s = some m) : m.right = true ∧ encL m = s := by
  unfold dec at h
  dsimp only at h
  by_cases hd : decOk cN (cN (uA s false)) (pinB (cN (uA s false))) (decide (cN (uA s false) = 6)) (srcB (cN (uA s false))) s = true
  · rw [if_pos hd] at h
    cases h
    obtain ⟨h1, h2, h3⟩ := decOk_parts hd
    refine ⟨h3, ?_⟩
    have hr := h3
    unfold Cmd.right at hr
    simp only [Bool.and_eq_true, decide_eq_true_eq] at hr
    obtain ⟨⟨⟨⟨r1, r2⟩, r3⟩, r4⟩, r5⟩ := hr
    have hk : kindB (cN (uA s false)) = true := r1
    have k10 : cN (uA s false) ≤ 999999 := by unfold kindB at hk; simp only [decide_eq_true_eq] at hk; omega
    obtain ⟨o3, e3⟩ := dS4_ok h1
    obtain ⟨o2, e2⟩ := dS_ok o3 (fun hx => fits_cpin r3 hx)
    obtain ⟨o1, e1⟩ := dS_ok o2 (fun hx => fits_cpin r2 hx)
    obtain ⟨_, e0⟩ := uS_ok o1
    unfold encL
    show num (cN (uA s false)) ++ ((if pinB (cN (uA s false)) then pinL (dP _ (d1 s)) (dA cN _ (d1 s)) (dB cN _ (d1 s)) (dC cN _ (d1 s)) else []) ++ ((if decide (cN (uA s false) = 6) then pinL (dP _ (d2 _ s)) (dA cN _ (d2 _ s)) (dB cN _ (d2 _ s)) (dC cN _ (d2 _ s)) else []) ++ (if srcB (cN (uA s false)) then textL (dP _ (d3 _ _ s)) else []))) = s
    rw [num_cN k10]
    have e3' := e3
    unfold d4 at h2
    rw [h2, List.append_nil] at e3'
    rw [e3']
    unfold d3
    rw [e2]
    unfold d2
    rw [e1]
    exact e0
  · rw [if_neg hd] at h; cases h
theorem inB_nf (x : BitVec 64) : inB (cN x) = inB (sN x) := by
  by_cases h : x.toNat ≤ 999999
  · rw [cN_eq h, sN_eq h]
  · have h1 := cN_big h
    have h2 := sN_big h
    unfold inB
    rw [decide_eq_false (by omega), decide_eq_false (by omega)]
theorem nf_of_inB {x : BitVec 64} (h : inB (cN x) = true) : cN x = sN x := by
  unfold inB at h
  simp only [decide_eq_true_eq] at h
  rw [cN_eq (cN_le h.2), sN_eq (cN_le h.2)]
theorem cpin_nf (x u : Bool) (t : List UInt8 × Bool) : cpinB (dP x t) (dA cN x t) (dB cN x t) (dC cN x t) x u = cpinB (dP x t) (dA sN x t) (dB sN x t) (dC sN x t) x u := by
  cases x with
  | false => rfl
  | true =>
    unfold cpinB dA dB dC
    simp only [if_true]
    by_cases hv : verB (cN (pa t.1 t.2)) (cN (pb t.1 t.2)) (cN (pc t.1 t.2)) = true
    · have hv' := hv
      unfold verB at hv'
      simp only [Bool.and_eq_true] at hv'
      rw [nf_of_inB hv'.1.1, nf_of_inB hv'.1.2, nf_of_inB hv'.2]
    · have hv2 : ¬ verB (sN (pa t.1 t.2)) (sN (pb t.1 t.2)) (sN (pc t.1 t.2)) = true := by
        unfold verB at hv ⊢
        rw [← inB_nf, ← inB_nf, ← inB_nf]; exact hv
      simp only [Bool.not_eq_true] at hv hv2
      rw [hv, hv2]; simp
theorem dABC_nf {x u : Bool} {t : List UInt8 × Bool} (h : cpinB (dP x t) (dA cN x t) (dB cN x t) (dC cN x t) x u = true) : dA cN x t = dA sN x t ∧ dB cN x t = dB sN x t ∧ dC cN x t = dC sN x t := by
  cases x with
  | false => exact ⟨rfl, rfl, rfl⟩
  | true =>
    obtain ⟨_, f2, f3, f4⟩ := fits_cpin h rfl
    have g2 : cN (pa t.1 t.2) ≤ 999999 := f2.2
    have g3 : cN (pb t.1 t.2) ≤ 999999 := f3.2
    have g4 : cN (pc t.1 t.2) ≤ 999999 := f4.2
    refine ⟨?_, ?_, ?_⟩
    · show cN (pa t.1 t.2) = sN (pa t.1 t.2); rw [cN_eq (cN_le g2), sN_eq (cN_le g2)]
    · show cN (pb t.1 t.2) = sN (pb t.1 t.2); rw [cN_eq (cN_le g3), sN_eq (cN_le g3)]
    · show cN (pc t.1 t.2) = sN (pc t.1 t.2); rw [cN_eq (cN_le g4), sN_eq (cN_le g4)]
theorem dM_right_nf (k : Int) (s : List UInt8) : (dM cN k (pinB k) (decide (k = 6)) (srcB k) s).right = (dM sN k (pinB k) (decide (k = 6)) (srcB k) s).right := by
  unfold Cmd.right dM
  dsimp only
  rw [cpin_nf, cpin_nf]
theorem dM_nf {k : Int} {s : List UInt8} (h : (dM cN k (pinB k) (decide (k = 6)) (srcB k) s).right = true) : dM cN k (pinB k) (decide (k = 6)) (srcB k) s = dM sN k (pinB k) (decide (k = 6)) (srcB k) s := by
  unfold Cmd.right dM at h
  dsimp only at h
  simp only [Bool.and_eq_true, decide_eq_true_eq] at h
  obtain ⟨⟨⟨⟨r1, r2⟩, r3⟩, r4⟩, r5⟩ := h
  obtain ⟨a1, a2, a3⟩ := dABC_nf r2
  obtain ⟨b1, b2, b3⟩ := dABC_nf r3
  unfold dM
  rw [a1, a2, a3, b1, b2, b3]
/-- Both read the same. -/
theorem dec_same (s : List UInt8) : dec cN s = dec sN s := by
  unfold dec
  dsimp only
  by_cases h : (uA s false).toNat ≤ 999999
  · rw [cN_eq h, sN_eq h]
    generalize ((uA s false).toNat : Int) = k
    have e := dM_right_nf k s
    have e2 : decOk cN k (pinB k) (decide (k = 6)) (srcB k) s = decOk sN k (pinB k) (decide (k = 6)) (srcB k) s := by unfold decOk; rw [e]
    rw [← e2]
    by_cases hd : decOk cN k (pinB k) (decide (k = 6)) (srcB k) s = true
    · rw [if_pos hd, if_pos hd, dM_nf (decOk_parts hd).2.2]
    · rw [if_neg hd, if_neg hd]
  · have b1 := cN_big h
    have b2 := sN_big h
    have no : ∀ (nf : BitVec 64 → Int) (k : Int) (x y z : Bool), 999999 < k → ¬ decOk nf k x y z s = true := fun nf k x y z hk hd => by
      have := right_kind (decOk_parts hd).2.2
      unfold kindB at this
      simp only [decide_eq_true_eq] at this
      have e : (dM nf k x y z s).k = k := rfl
      omega
    rw [if_neg (no _ _ _ _ _ b1), if_neg (no _ _ _ _ _ b2)]
/-! ### Back -/
theorem n_back {n : Int} (h0 : 0 ≤ n) (h1 : n ≤ 999999) (r : List UInt8) : cN (uA (num n ++ r) false) = n ∧ uS (num n ++ r) false = (r, false) := by
  have e : num n = uvarN (bv n).toNat := by unfold num; rw [bv_nat h0 (by omega)]
  obtain ⟨a, b⟩ := u_back (bv n) r
  rw [e]
  refine ⟨?_, b⟩
  rw [a, cN_eq (by rw [bv_nat h0 (by omega)]; omega), bv_int h0 (by omega)]
theorem pin_back {p : List UInt8} {a b c : Int} (hf : Fits p a b c) (r : List UInt8) : dS true (pinL p a b c ++ r, false) = (r, false) ∧ dP true (pinL p a b c ++ r, false) = p ∧ dA cN true (pinL p a b c ++ r, false) = a ∧ dB cN true (pinL p a b c ++ r, false) = b ∧ dC cN true (pinL p a b c ++ r, false) = c := by
  obtain ⟨f1, f2, f3, f4⟩ := hf
  have e : pinL p a b c ++ r = textL p ++ (num a ++ (num b ++ (num c ++ r))) := by unfold pinL; simp only [List.append_assoc]
  rw [e]
  obtain ⟨t1, t2⟩ := t_back p (num a ++ (num b ++ (num c ++ r))) (by omega)
  obtain ⟨a1, a2⟩ := n_back f2.1 f2.2 (num b ++ (num c ++ r))
  obtain ⟨b1, b2⟩ := n_back f3.1 f3.2 (num c ++ r)
  obtain ⟨c1, c2⟩ := n_back f4.1 f4.2 r
  unfold dS dP dA dB dC pa pb pc st4 st3 st2 st1
  simp only [if_true, t1, t2, a1, a2, b1, b2, c1, c2, and_self]
theorem pin_backIf {x u : Bool} {p : List UInt8} {a b c : Int} (h : cpinB p a b c x u = true) (r : List UInt8) : dS x ((if x then pinL p a b c else []) ++ r, false) = (r, false) ∧ dP x ((if x then pinL p a b c else []) ++ r, false) = p ∧ dA cN x ((if x then pinL p a b c else []) ++ r, false) = a ∧ dB cN x ((if x then pinL p a b c else []) ++ r, false) = b ∧ dC cN x ((if x then pinL p a b c else []) ++ r, false) = c := by
  cases x with
  | true => exact pin_back (fits_cpin h rfl) r
  | false =>
    unfold cpinB pinZ verZ at h
    simp only [Bool.false_eq_true, if_false, Bool.and_eq_true, decide_eq_true_eq] at h
    obtain ⟨rfl, rfl, rfl, rfl⟩ := h
    exact ⟨rfl, rfl, rfl, rfl, rfl⟩
theorem dec_back {m : Cmd} (h : m.right = true) : dec cN (encL m) = some m := by
  obtain ⟨k, p, a, b, c, o, d, e, f, s⟩ := m
  have hr := h
  unfold Cmd.right at hr
  dsimp only at hr
  simp only [Bool.and_eq_true, decide_eq_true_eq] at hr
  obtain ⟨⟨⟨⟨r1, r2⟩, r3⟩, r4⟩, r5⟩ := hr
  have hk : 1 ≤ k ∧ k ≤ 10 := by unfold kindB at r1; simpa only [decide_eq_true_eq] using r1
  obtain ⟨n1, n2⟩ := n_back (n := k) (by omega) (by omega) ((if pinB k then pinL p a b c else []) ++ ((if decide (k = 6) then pinL o d e f else []) ++ (if srcB k then textL s else [])))
  obtain ⟨p1, p2, p3, p4, p5⟩ := pin_backIf r2 ((if decide (k = 6) then pinL o d e f else []) ++ (if srcB k then textL s else []))
  obtain ⟨q1, q2, q3, q4, q5⟩ := pin_backIf r3 (if srcB k then textL s else [])
  obtain ⟨z1, z2⟩ : dS4 (srcB k) (if srcB k then textL s else [], false) = ([], false) ∧ dP (srcB k) (if srcB k then textL s else [], false) = s := by
    cases hz : srcB k with
    | false =>
      rw [hz] at r5
      have r6 : s = [] := by simpa using r5
      subst r6; exact ⟨rfl, rfl⟩
    | true =>
      obtain ⟨t1, t2⟩ := t_back s [] (by omega)
      rw [List.append_nil] at t1 t2
      exact ⟨t2, t1⟩
  unfold dec
  dsimp only
  show (if decOk cN (cN (uA (num k ++ _) false)) _ _ _ _ = true then _ else none) = _
  unfold encL
  dsimp only
  rw [n1]
  have em : dM cN k (pinB k) (decide (k = 6)) (srcB k) (num k ++ ((if pinB k then pinL p a b c else []) ++ ((if decide (k = 6) then pinL o d e f else []) ++ (if srcB k then textL s else [])))) = ⟨k, p, a, b, c, o, d, e, f, s⟩ := by
    unfold dM d3 d2 d1
    rw [n2, p1, p2, p3, p4, p5, q1, q2, q3, q4, q5, z2]
  have ed : d4 (pinB k) (decide (k = 6)) (srcB k) (num k ++ ((if pinB k then pinL p a b c else []) ++ ((if decide (k = 6) then pinL o d e f else []) ++ (if srcB k then textL s else [])))) = ([], false) := by
    unfold d4 d3 d2 d1
    rw [n2, p1, q1, z1]
  unfold decOk
  rw [em, ed, h]
  rfl
end Go.Proofs.YtfloombnadnmaaaDoor
namespace Go.Proofs.YtfloombnadnmaaaDoor
open Go Go.Ab Go.Proofs
set_option maxRecDepth 100000
set_option linter.unusedSimpArgs false
set_option linter.unusedVariables false
theorem alive_p : pcall Tryd.prog md fg 7 [] = some (.bool true) := pcall_strue okKnown 200 (by decide +kernel)
theorem no_p (n : Int) : pcall Tryd.prog md fg 10 [.int n] = some (.int n) := by
  have e : aval Tryd.prog md fg 10 [.int n] [] = some (.int n, []) := by
    rw [aval_of Tryd.func10 body10 Tryd.results10 Tryd.ntmps10 ok10]
    simp (implicitDefEqProofs := false) (disch := omega) only [go_sem, Nat.reduceAdd, Nat.reduceSub, Nat.reduceMul, Nat.reduceLT, Nat.reduceLeDiff, Nat.reduceEqDiff, List.drop_zero, List.take_succ_cons, List.take_zero, List.drop_succ_cons, Bool.and_true, Bool.true_and, Bool.and_false, Bool.false_and, BitVec.reduceOfInt, Nat.zero_add, Nat.mul_one, Nat.add_zero, Int.zero_add, Int.reduceToNat, Nat.reducePow, ↓reduceIte, reduceCtorEq, Int.reduceLE, Int.reduceLT, Int.reduceEq, Int.reduceNe, Int.reduceAdd, Int.reduceSub, Int.reduceMul, Int.reduceNeg, Nat.reduceBEq, show regOf Tryd.f10 0 = Code.region _ _ _ from rfl, show regOf Tryd.f10 1 = Code.region _ _ _ from rfl]
  rw [pcall_eq, e, pureRes_solid rfl]
end Go.Proofs.YtfloombnadnmaaaDoor
namespace Go.Proofs.YtfloombnadnmaaaDoor
open Go Go.Ab Go.Proofs
set_option maxRecDepth 100000
set_option linter.unusedSimpArgs false
set_option linter.unusedVariables false
theorem eq27 (k a b c d e f k' a' b' c' d' e' f' : Int) (p o s p' o' s' : ByteArray) : aeqS Tryd.prog 27 (.agg [.int k, .str p, .int a, .int b, .int c, .str o, .int d, .int e, .int f, .str s]) (.agg [.int k', .str p', .int a', .int b', .int c', .str o', .int d', .int e', .int f', .str s']) = some ((k == k') && (((p.data.toList == p'.data.toList) && (((a == a') && ((b == b') && ((c == c') && true))) && true)) && (((o.data.toList == o'.data.toList) && (((d == d') && ((e == e') && ((f == f') && true))) && true)) && ((s.data.toList == s'.data.toList) && true)))) := by kernel_rfl
theorem eq27s (k a b c d e f : Int) (p o s : ByteArray) : aeqS Tryd.prog 27 (.agg [.int k, .str p, .int a, .int b, .int c, .str o, .int d, .int e, .int f, .str s]) (.agg [.int k, .str p, .int a, .int b, .int c, .str o, .int d, .int e, .int f, .str s]) = some true := by
  rw [eq27]; simp
theorem dec_small {nf : BitVec 64 → Int} {s : List UInt8} {m : Cmd} (hs : s.length < 9223372036854775808) (h : dec nf s = some m) : m.small := by
  unfold dec at h
  dsimp only at h
  split at h
  · cases h; exact dM_small _ _ _ _ _ hs
  · cases h
theorem alive_c (h : AHeap) : doCall md (aval Tryd.prog md fg) 7 [] h = some (.val (.bool true), h) := doCall_pure md7 rfl alive_p
theorem no_c (n : Int) (h : AHeap) : doCall md (aval Tryd.prog md fg) 10 [.int n] h = some (.int n, h) := doCall_pure md10 rfl (no_p n)
set_option maxHeartbeats 8000000 in
theorem commandDecodes (s : ByteArray) : pcall Tryd.prog md fg 4 [.str s] = some (.bool true) := by
  obtain ⟨S, rfl⟩ := txt_of s
  have hz := txt_size S
  have e : ∃ h, aval Tryd.prog md fg 4 [.str (txt S)] [] = some (.bool true, h) := by
    by_cases h1 : S.length ≤ 4000
    · have c15 : ∀ h : AHeap, doCall md (aval Tryd.prog md fg) 15 [.str (txt S)] h = some (decV (dec sN S), h) := fun h => doCall_pure md15 rfl (by rw [← dec_same]; exact decode_p (by omega))
      have c16 : ∀ h : AHeap, doCall md (aval Tryd.prog md fg) 16 [.str (txt S)] h = some (decV (dec sN S), h) := fun h => doCall_pure md16 rfl (rdecode_p (by omega))
      cases hd : dec sN S with
      | none =>
        rw [hd] at c15 c16
        simp only [decV] at c15 c16
        rw [aval_of Tryd.func4 body4 Tryd.results4 Tryd.ntmps4 ok4]
        simp (implicitDefEqProofs := false) (disch := omega) only [go_sem, Nat.reduceAdd, Nat.reduceSub, Nat.reduceMul, Nat.reduceLT, Nat.reduceLeDiff, Nat.reduceEqDiff, List.drop_zero, List.take_succ_cons, List.take_zero, List.drop_succ_cons, Bool.and_true, Bool.true_and, Bool.and_false, Bool.false_and, BitVec.reduceOfInt, Nat.zero_add, Nat.mul_one, Nat.add_zero, Int.zero_add, Int.reduceToNat, Nat.reducePow, ↓reduceIte, reduceCtorEq, Int.reduceLE, Int.reduceLT, Int.reduceEq, Int.reduceNe, Int.reduceAdd, Int.reduceSub, Int.reduceMul, Int.reduceNeg, Nat.reduceBEq, show regOf Tryd.f4 0 = Code.region _ _ _ from rfl, show regOf Tryd.f4 1 = Code.region _ _ _ from rfl, show regOf Tryd.f4 2 = Code.region _ _ _ from rfl, show regOf Tryd.f4 3 = Code.region _ _ _ from rfl, show regOf Tryd.f4 4 = Code.region _ _ _ from rfl, show regOf Tryd.f4 5 = Code.region _ _ _ from rfl, show regOf Tryd.f4 6 = Code.region _ _ _ from rfl, show regOf Tryd.f4 7 = Code.region _ _ _ from rfl, show regOf Tryd.f4 8 = Code.region _ _ _ from rfl, show regOf Tryd.f4 9 = Code.region _ _ _ from rfl, show regOf Tryd.f4 10 = Code.region _ _ _ from rfl, c15, c16, no_c, alive_c, abin_agg, eq27s, bind_some, aeqb_neq, Bool.not_true]
        exact ⟨_, rfl⟩
      | some m =>
        have hm := dec_small (by omega) hd
        rw [← dec_same] at hd
        obtain ⟨hr, he⟩ := dec_enc hd
        have c8 : ∀ h : AHeap, doCall md (aval Tryd.prog md fg) 8 [cmdV m] h = some (.tup [.val (.string (txt S)), .int 0], h) := fun h => doCall_pure md8 rfl (by rw [encode_p m hm, hr, he]; rfl)
        rw [← dec_same, hd] at c15 c16
        simp only [decV] at c15 c16
        obtain ⟨k, p, a, b, c, o, d, e, f, s⟩ := m
        rw [aval_of Tryd.func4 body4 Tryd.results4 Tryd.ntmps4 ok4]
        simp (implicitDefEqProofs := false) (disch := omega) only [go_sem, Nat.reduceAdd, Nat.reduceSub, Nat.reduceMul, Nat.reduceLT, Nat.reduceLeDiff, Nat.reduceEqDiff, List.drop_zero, List.take_succ_cons, List.take_zero, List.drop_succ_cons, Bool.and_true, Bool.true_and, Bool.and_false, Bool.false_and, BitVec.reduceOfInt, Nat.zero_add, Nat.mul_one, Nat.add_zero, Int.zero_add, Int.reduceToNat, Nat.reducePow, ↓reduceIte, reduceCtorEq, Int.reduceLE, Int.reduceLT, Int.reduceEq, Int.reduceNe, Int.reduceAdd, Int.reduceSub, Int.reduceMul, Int.reduceNeg, Nat.reduceBEq, show regOf Tryd.f4 0 = Code.region _ _ _ from rfl, show regOf Tryd.f4 1 = Code.region _ _ _ from rfl, show regOf Tryd.f4 2 = Code.region _ _ _ from rfl, show regOf Tryd.f4 3 = Code.region _ _ _ from rfl, show regOf Tryd.f4 4 = Code.region _ _ _ from rfl, show regOf Tryd.f4 5 = Code.region _ _ _ from rfl, show regOf Tryd.f4 6 = Code.region _ _ _ from rfl, show regOf Tryd.f4 7 = Code.region _ _ _ from rfl, show regOf Tryd.f4 8 = Code.region _ _ _ from rfl, show regOf Tryd.f4 9 = Code.region _ _ _ from rfl, show regOf Tryd.f4 10 = Code.region _ _ _ from rfl, c15, c16, c8, no_c, alive_c, abin_agg, eq27s, bind_some, aeqb_neq, Bool.not_true]
        exact ⟨_, rfl⟩
    · rw [aval_of Tryd.func4 body4 Tryd.results4 Tryd.ntmps4 ok4]
      simp (implicitDefEqProofs := false) (disch := omega) only [go_sem, Nat.reduceAdd, Nat.reduceSub, Nat.reduceMul, Nat.reduceLT, Nat.reduceLeDiff, Nat.reduceEqDiff, List.drop_zero, List.take_succ_cons, List.take_zero, List.drop_succ_cons, Bool.and_true, Bool.true_and, Bool.and_false, Bool.false_and, BitVec.reduceOfInt, Nat.zero_add, Nat.mul_one, Nat.add_zero, Int.zero_add, Int.reduceToNat, Nat.reducePow, ↓reduceIte, reduceCtorEq, Int.reduceLE, Int.reduceLT, Int.reduceEq, Int.reduceNe, Int.reduceAdd, Int.reduceSub, Int.reduceMul, Int.reduceNeg, Nat.reduceBEq, show regOf Tryd.f4 0 = Code.region _ _ _ from rfl, show regOf Tryd.f4 1 = Code.region _ _ _ from rfl, show regOf Tryd.f4 2 = Code.region _ _ _ from rfl, alive_c]
      exact ⟨_, rfl⟩
  obtain ⟨h, e⟩ := e
  rw [pcall_eq, e, pureRes_solid rfl]
theorem encL_len (m : Cmd) (hp : m.p.length ≤ 30000) (ho : m.o.length ≤ 30000) (hs : m.s.length ≤ 30000) (hr : m.right = true) : (encL m).length ≤ 100000 := by
  have hr' := hr
  unfold Cmd.right at hr'
  simp only [Bool.and_eq_true, decide_eq_true_eq] at hr'
  obtain ⟨⟨⟨⟨r1, r2⟩, r3⟩, r4⟩, r5⟩ := hr'
  unfold kindB at r1
  simp only [decide_eq_true_eq] at r1
  have nk := num_len m.k (by omega)
  have hsL : (textL m.s).length ≤ 30010 := by have := uvarN_len m.s.length (by omega); unfold textL; rw [List.length_append]; omega
  have h1 : (if pinB m.k then pinL m.p m.a m.b m.c else []).length ≤ 60 := by
    split
    · rename_i h; exact pinL_len (fits_cpin r2 h)
    · simp
  have h2 : (if decide (m.k = 6) then pinL m.o m.d m.e m.f else []).length ≤ 60 := by
    split
    · rename_i h; exact pinL_len (fits_cpin r3 h)
    · simp
  have h3 : (if srcB m.k then textL m.s else []).length ≤ 30010 := by
    split
    · exact hsL
    · simp
  unfold encL
  simp only [List.length_append]
  omega
theorem wrap_hi {n : Int} (h1 : 9223372036854775808 ≤ n) (h2 : n < 18446744073709551616) : IntKind.i64.wrap n = n - 18446744073709551616 := by
  unfold IntKind.wrap
  simp only [IntKind.signed, IntKind.bits]
  simp
  omega
theorem right_short {m : Cmd} (h : m.right = true) : m.p.length ≤ 20 ∧ m.o.length ≤ 20 := by
  unfold Cmd.right at h
  simp only [Bool.and_eq_true, decide_eq_true_eq] at h
  have key : ∀ {p : List UInt8} {a b c : Int} {x u : Bool}, cpinB p a b c x u = true → p.length ≤ 20 := fun {p a b c x u} h => by
    cases x with
    | true => exact (fits_cpin h rfl).1
    | false =>
      unfold cpinB pinZ at h
      simp only [Bool.false_eq_true, if_false, Bool.and_eq_true, decide_eq_true_eq] at h
      rw [h.1]; simp
  exact ⟨key h.1.1.1.2, key h.1.1.2⟩
set_option maxHeartbeats 8000000 in
theorem commandEncodes (m : Cmd) (kd : Int) (hp : m.p.length < 9223372036854775808) (ho : m.o.length < 9223372036854775808) (hs : m.s.length < 9223372036854775808) : pcall Tryd.prog md fg 3 [cmdV m, .int kd] = some (.bool true) := by
  have hm : m.small := ⟨hp, ho, hs⟩
  have c8 : ∀ h : AHeap, doCall md (aval Tryd.prog md fg) 8 [cmdV m] h = some (.tup (if m.right then [.val (.string (txt (encL m))), .int 0] else [.val (.string ⟨#[]⟩), .int 2]), h) := fun h => doCall_pure md8 rfl (encode_p m hm)
  have c9 : ∀ h : AHeap, doCall md (aval Tryd.prog md fg) 9 [cmdV m] h = some (.tup (if m.right then [.val (.string (txt (encL m))), .int 0] else [.val (.string ⟨#[]⟩), .int 2]), h) := fun h => doCall_pure md9 rfl (rencode_p m hm)
  have c11 : ∀ h : AHeap, doCall md (aval Tryd.prog md fg) 11 [cmdV m] h = some (.val (.bool m.right), h) := fun h => doCall_pure md11 rfl (cright_p m hm)
  have c12 : ∀ h : AHeap, doCall md (aval Tryd.prog md fg) 12 [cmdV m] h = some (.val (.bool m.right), h) := fun h => doCall_pure md12 rfl (rright2_p m hm)
  have c13 : ∀ h : AHeap, doCall md (aval Tryd.prog md fg) 13 [.int kd] h = some (.val (.bool (mutB kd)), h) := fun h => doCall_pure md13 rfl (mutates_p kd)
  have c14 : ∀ h : AHeap, doCall md (aval Tryd.prog md fg) 14 [.int kd] h = some (.val (.bool (mutB kd)), h) := fun h => doCall_pure md14 rfl (rmutates_p kd)
  have e : ∃ h, aval Tryd.prog md fg 3 [cmdV m, .int kd] [] = some (.bool true, h) := by
    have zp := txt_size m.p
    have zo := txt_size m.o
    have zs := txt_size m.s
    by_cases h1 : m.s.length ≤ 21000
    · by_cases h2 : m.p.length + m.o.length ≤ 2000
      · cases hr : m.right with
        | false =>
          simp only [hr, Bool.false_eq_true, if_false] at c8 c9 c11 c12
          obtain ⟨k, p, a, b, c, o, d, e, f, s⟩ := m
          dsimp only at *
          rw [aval_of Tryd.func3 body3 Tryd.results3 Tryd.ntmps3 ok3]
          generalize mutB kd = mb at *
          cases mb <;>
          · simp (implicitDefEqProofs := false) (disch := omega) only [go_sem, Nat.reduceAdd, Nat.reduceSub, Nat.reduceMul, Nat.reduceLT, Nat.reduceLeDiff, Nat.reduceEqDiff, List.drop_zero, List.take_succ_cons, List.take_zero, List.drop_succ_cons, Bool.and_true, Bool.true_and, Bool.and_false, Bool.false_and, BitVec.reduceOfInt, Nat.zero_add, Nat.mul_one, Nat.add_zero, Int.zero_add, Int.reduceToNat, Nat.reducePow, ↓reduceIte, reduceCtorEq, Int.reduceLE, Int.reduceLT, Int.reduceEq, Int.reduceNe, Int.reduceAdd, Int.reduceSub, Int.reduceMul, Int.reduceNeg, Nat.reduceBEq, show regOf Tryd.f3 0 = Code.region _ _ _ from rfl, show regOf Tryd.f3 1 = Code.region _ _ _ from rfl, show regOf Tryd.f3 2 = Code.region _ _ _ from rfl, show regOf Tryd.f3 3 = Code.region _ _ _ from rfl, show regOf Tryd.f3 4 = Code.region _ _ _ from rfl, show regOf Tryd.f3 5 = Code.region _ _ _ from rfl, show regOf Tryd.f3 6 = Code.region _ _ _ from rfl, show regOf Tryd.f3 7 = Code.region _ _ _ from rfl, show regOf Tryd.f3 8 = Code.region _ _ _ from rfl, show regOf Tryd.f3 9 = Code.region _ _ _ from rfl, show regOf Tryd.f3 10 = Code.region _ _ _ from rfl, c8, c9, c11, c12, c13, c14, no_c, alive_c]
            exact ⟨_, rfl⟩
        | true =>
          have hd := dec_back hr
          have hl := encL_len m (by omega) (by omega) (by omega) hr
          have c15 : ∀ h : AHeap, doCall md (aval Tryd.prog md fg) 15 [.str (txt (encL m))] h = some (decV (dec cN (encL m)), h) := fun h => doCall_pure md15 rfl (decode_p (by omega))
          rw [hd] at c15
          simp only [decV] at c15
          simp only [hr, if_true] at c8 c9 c11 c12
          generalize txt (encL m) = E at *
          obtain ⟨k, p, a, b, c, o, d, e, f, s⟩ := m
          dsimp only at *
          rw [aval_of Tryd.func3 body3 Tryd.results3 Tryd.ntmps3 ok3]
          generalize mutB kd = mb at *
          cases mb <;>
          · simp (implicitDefEqProofs := false) (disch := omega) only [go_sem, Nat.reduceAdd, Nat.reduceSub, Nat.reduceMul, Nat.reduceLT, Nat.reduceLeDiff, Nat.reduceEqDiff, List.drop_zero, List.take_succ_cons, List.take_zero, List.drop_succ_cons, Bool.and_true, Bool.true_and, Bool.and_false, Bool.false_and, BitVec.reduceOfInt, Nat.zero_add, Nat.mul_one, Nat.add_zero, Int.zero_add, Int.reduceToNat, Nat.reducePow, ↓reduceIte, reduceCtorEq, Int.reduceLE, Int.reduceLT, Int.reduceEq, Int.reduceNe, Int.reduceAdd, Int.reduceSub, Int.reduceMul, Int.reduceNeg, Nat.reduceBEq, show regOf Tryd.f3 0 = Code.region _ _ _ from rfl, show regOf Tryd.f3 1 = Code.region _ _ _ from rfl, show regOf Tryd.f3 2 = Code.region _ _ _ from rfl, show regOf Tryd.f3 3 = Code.region _ _ _ from rfl, show regOf Tryd.f3 4 = Code.region _ _ _ from rfl, show regOf Tryd.f3 5 = Code.region _ _ _ from rfl, show regOf Tryd.f3 6 = Code.region _ _ _ from rfl, show regOf Tryd.f3 7 = Code.region _ _ _ from rfl, show regOf Tryd.f3 8 = Code.region _ _ _ from rfl, show regOf Tryd.f3 9 = Code.region _ _ _ from rfl, show regOf Tryd.f3 10 = Code.region _ _ _ from rfl, c8, c9, c11, c12, c13, c14, c15, no_c, alive_c, abin_agg, eq27s, bind_some, aeqb_eql]
            exact ⟨_, rfl⟩
      · by_cases h3 : m.p.length + m.o.length ≤ 9223372036854775807
        · obtain ⟨k, p, a, b, c, o, d, e, f, s⟩ := m
          dsimp only at *
          rw [aval_of Tryd.func3 body3 Tryd.results3 Tryd.ntmps3 ok3]
          simp (implicitDefEqProofs := false) (disch := omega) only [go_sem, Nat.reduceAdd, Nat.reduceSub, Nat.reduceMul, Nat.reduceLT, Nat.reduceLeDiff, Nat.reduceEqDiff, List.drop_zero, List.take_succ_cons, List.take_zero, List.drop_succ_cons, Bool.and_true, Bool.true_and, Bool.and_false, Bool.false_and, BitVec.reduceOfInt, Nat.zero_add, Nat.mul_one, Nat.add_zero, Int.zero_add, Int.reduceToNat, Nat.reducePow, ↓reduceIte, reduceCtorEq, Int.reduceLE, Int.reduceLT, Int.reduceEq, Int.reduceNe, Int.reduceAdd, Int.reduceSub, Int.reduceMul, Int.reduceNeg, Nat.reduceBEq, show regOf Tryd.f3 0 = Code.region _ _ _ from rfl, show regOf Tryd.f3 1 = Code.region _ _ _ from rfl, show regOf Tryd.f3 2 = Code.region _ _ _ from rfl, alive_c]
          exact ⟨_, rfl⟩
        · have hr : m.right = false := by
            cases hr : m.right with
            | false => rfl
            | true => have := right_short hr; omega
          simp only [hr, Bool.false_eq_true, if_false] at c8 c9 c11 c12
          obtain ⟨k, p, a, b, c, o, d, e, f, s⟩ := m
          dsimp only at *
          rw [aval_of Tryd.func3 body3 Tryd.results3 Tryd.ntmps3 ok3]
          generalize mutB kd = mb at *
          cases mb <;>
          · simp (implicitDefEqProofs := false) (disch := omega) only [go_sem, Nat.reduceAdd, Nat.reduceSub, Nat.reduceMul, Nat.reduceLT, Nat.reduceLeDiff, Nat.reduceEqDiff, List.drop_zero, List.take_succ_cons, List.take_zero, List.drop_succ_cons, Bool.and_true, Bool.true_and, Bool.and_false, Bool.false_and, BitVec.reduceOfInt, Nat.zero_add, Nat.mul_one, Nat.add_zero, Int.zero_add, Int.reduceToNat, Nat.reducePow, ↓reduceIte, reduceCtorEq, Int.reduceLE, Int.reduceLT, Int.reduceEq, Int.reduceNe, Int.reduceAdd, Int.reduceSub, Int.reduceMul, Int.reduceNeg, Nat.reduceBEq, show regOf Tryd.f3 0 = Code.region _ _ _ from rfl, show regOf Tryd.f3 1 = Code.region _ _ _ from rfl, show regOf Tryd.f3 2 = Code.region _ _ _ from rfl, show regOf Tryd.f3 3 = Code.region _ _ _ from rfl, show regOf Tryd.f3 4 = Code.region _ _ _ from rfl, show regOf Tryd.f3 5 = Code.region _ _ _ from rfl, show regOf Tryd.f3 6 = Code.region _ _ _ from rfl, show regOf Tryd.f3 7 = Code.region _ _ _ from rfl, show regOf Tryd.f3 8 = Code.region _ _ _ from rfl, show regOf Tryd.f3 9 = Code.region _ _ _ from rfl, show regOf Tryd.f3 10 = Code.region _ _ _ from rfl, c8, c9, c11, c12, c13, c14, no_c, alive_c, wrap_hi]
            exact ⟨_, rfl⟩
    · obtain ⟨k, p, a, b, c, o, d, e, f, s⟩ := m
      dsimp only at *
      rw [aval_of Tryd.func3 body3 Tryd.results3 Tryd.ntmps3 ok3]
      simp (implicitDefEqProofs := false) (disch := omega) only [go_sem, Nat.reduceAdd, Nat.reduceSub, Nat.reduceMul, Nat.reduceLT, Nat.reduceLeDiff, Nat.reduceEqDiff, List.drop_zero, List.take_succ_cons, List.take_zero, List.drop_succ_cons, Bool.and_true, Bool.true_and, Bool.and_false, Bool.false_and, BitVec.reduceOfInt, Nat.zero_add, Nat.mul_one, Nat.add_zero, Int.zero_add, Int.reduceToNat, Nat.reducePow, ↓reduceIte, reduceCtorEq, Int.reduceLE, Int.reduceLT, Int.reduceEq, Int.reduceNe, Int.reduceAdd, Int.reduceSub, Int.reduceMul, Int.reduceNeg, Nat.reduceBEq, show regOf Tryd.f3 0 = Code.region _ _ _ from rfl, show regOf Tryd.f3 1 = Code.region _ _ _ from rfl, show regOf Tryd.f3 2 = Code.region _ _ _ from rfl, alive_c]
      exact ⟨_, rfl⟩
  obtain ⟨h, e⟩ := e
  rw [pcall_eq, e, pureRes_solid rfl]
end Go.Proofs.YtfloombnadnmaaaDoor
namespace Go.Proofs.YtfloombnadnmaaaDoor
open Go Go.Ab Go.Proofs Go.RowKit Go.ChangeShapes Go.WideShapes
set_option maxRecDepth 100000
theorem own : ownKnob Tryd.prog.godebug = none := by kernel_rfl
theorem laidOut : laidOutB Tryd.prog = true := by kernel_rfl
theorem mixed : Tryd.prog.follows .mixedOrders = true := by kernel_rfl
theorem WT_str {n : Nat} {a : AV} (h : WT Tryd.prog n 9 a) : ∃ s : ByteArray, a = .val (.string s) ∧ s.size ≤ maxLen := by
  cases n with
  | zero => exact h.elim
  | succ n => unfold WT at h; rw [und_9] at h; exact h
theorem WT_i64 {n t : Nat} {a : AV} (ht : Tryd.prog.underlying t = some (.int .i64)) (h : WT Tryd.prog n t a) : ∃ x, a = .int x ∧ -9223372036854775808 ≤ x ∧ x ≤ 9223372036854775807 := by
  cases n with
  | zero => exact h.elim
  | succ n =>
    unfold WT at h; rw [ht] at h
    obtain ⟨x, rfl, hw⟩ := h
    have hw' : (decide (-9223372036854775808 ≤ x) && decide (x ≤ 9223372036854775807)) = true := hw
    simp only [Bool.and_eq_true, decide_eq_true_eq] at hw'
    exact ⟨x, rfl, hw'⟩
theorem allF {fs : List Field} {p : Field → Prop} (h : ∀ f ∈ fs.toArray, p f) : ∀ f ∈ fs, p f := fun f hf => h f (List.mem_toArray.2 hf)
theorem WT_ver {n : Nat} {a : AV} (h : WT Tryd.prog n 23 a) : ∃ x y z : Int, a = .agg [.int x, .int y, .int z] ∧ (-9223372036854775808 ≤ x ∧ x ≤ 9223372036854775807) ∧ (-9223372036854775808 ≤ y ∧ y ≤ 9223372036854775807) ∧ (-9223372036854775808 ≤ z ∧ z ≤ 9223372036854775807) := by
  cases n with
  | zero => exact h.elim
  | succ n =>
    unfold WT at h
    rw [Tryd.underlying23] at h
    obtain ⟨cs, rfl, hl, hf⟩ := h
    have hl : cs.length = 3 := hl
    match cs, hl with
    | [a0, a1, a2], _ =>
      have hf := allF hf
      simp only [List.forall_mem_cons] at hf
      obtain ⟨f0, f1, f2, _⟩ := hf
      obtain ⟨x, e0, x1, x2⟩ := WT_i64 und_3 (show WT Tryd.prog n 3 a0 from f0)
      obtain ⟨y, e1, y1, y2⟩ := WT_i64 und_3 (show WT Tryd.prog n 3 a1 from f1)
      obtain ⟨z, e2, z1, z2⟩ := WT_i64 und_3 (show WT Tryd.prog n 3 a2 from f2)
      subst e0; subst e1; subst e2
      exact ⟨x, y, z, rfl, ⟨x1, x2⟩, ⟨y1, y2⟩, ⟨z1, z2⟩⟩
theorem WT_pin {n : Nat} {a : AV} (h : WT Tryd.prog n 25 a) : ∃ (p : List UInt8) (x y z : Int), a = pinV p x y z ∧ p.length < 9223372036854775808 ∧ (-9223372036854775808 ≤ x ∧ x ≤ 9223372036854775807) ∧ (-9223372036854775808 ≤ y ∧ y ≤ 9223372036854775807) ∧ (-9223372036854775808 ≤ z ∧ z ≤ 9223372036854775807) := by
  cases n with
  | zero => exact h.elim
  | succ n =>
    unfold WT at h
    rw [Tryd.underlying25] at h
    obtain ⟨cs, rfl, hl, hf⟩ := h
    have hl : cs.length = 4 := hl
    match cs, hl with
    | [a0, a1, a2, a3], _ =>
      have hf := allF hf
      simp only [List.forall_mem_cons] at hf
      obtain ⟨f0, f1, _⟩ := hf
      obtain ⟨s, e0, hs⟩ := WT_str (show WT Tryd.prog n 9 a0 from f0)
      obtain ⟨x, y, z, e1, hx⟩ := WT_ver (show WT Tryd.prog n 23 (.agg [a1, a2, a3]) from f1)
      subst e0
      cases e1
      obtain ⟨S, rfl⟩ := txt_of s
      have := txt_size S
      unfold maxLen at hs
      exact ⟨S, x, y, z, rfl, by omega, hx⟩
theorem WT_cmd {n : Nat} {a : AV} (h : WT Tryd.prog n 27 a) : ∃ m : Cmd, a = cmdV m ∧ m.p.length < 9223372036854775808 ∧ m.o.length < 9223372036854775808 ∧ m.s.length < 9223372036854775808 := by
  cases n with
  | zero => exact h.elim
  | succ n =>
    unfold WT at h
    rw [Tryd.underlying27] at h
    obtain ⟨cs, rfl, hl, hf⟩ := h
    have hl : cs.length = 10 := hl
    match cs, hl with
    | [a0, a1, a2, a3, a4, a5, a6, a7, a8, a9], _ =>
      have hf := allF hf
      simp only [List.forall_mem_cons] at hf
      obtain ⟨f0, f1, f2, f3, _⟩ := hf
      obtain ⟨k, e0, _, _⟩ := WT_i64 und_3 (show WT Tryd.prog n 3 a0 from f0)
      obtain ⟨p, x, y, z, e1, hp, _⟩ := WT_pin (show WT Tryd.prog n 25 (.agg [a1, a2, a3, a4]) from f1)
      obtain ⟨o, u, v, w, e2, ho, _⟩ := WT_pin (show WT Tryd.prog n 25 (.agg [a5, a6, a7, a8]) from f2)
      obtain ⟨s, e3, hs⟩ := WT_str (show WT Tryd.prog n 9 a9 from f3)
      subst e0; subst e3
      cases e1; cases e2
      obtain ⟨S, rfl⟩ := txt_of s
      have := txt_size S
      unfold maxLen at hs
      exact ⟨⟨k, p, x, y, z, o, u, v, w, S⟩, rfl, hp, ho, by dsimp only; omega⟩
end Go.Proofs.YtfloombnadnmaaaDoor
namespace Go.Proofs.YtfloombnadnmaaaDoor
open Go Go.Ab Go.Proofs
set_option maxRecDepth 100000
set_option linter.unusedSimpArgs false
set_option linter.unusedVariables false
/-- A number with its sign, in bytes; some of them. -/
def zg (n : Int) : List UInt8 := uvarN (zigN n).toNat
def zgs : List Int → List UInt8
  | [] => []
  | x :: r => zg x ++ zgs r
abbrev I64 (n : Int) : Prop := -9223372036854775808 ≤ n ∧ n ≤ 9223372036854775807
theorem zg_len {n : Int} (h : I64 n) : (zg n).length ≤ 10 := by
  have hz := zigN_range h.1 h.2
  exact uvarN_len _ (by omega)
theorem zgs_len : ∀ l : List Int, (∀ x ∈ l, I64 x) → (zgs l).length ≤ 10 * l.length
  | [], _ => by simp [zgs]
  | x :: r, h => by
    have := zg_len (h x (List.mem_cons_self ..))
    have := zgs_len r fun y hy => h y (List.mem_cons_of_mem _ hy)
    simp only [zgs, List.length_append, List.length_cons]; omega
theorem wIs_loop {id : Nat} (L : List Int) (hL : L.length < 1000) (hI : ∀ x ∈ L, I64 x) : ∀ (r : List Int) (i : Nat) (h : AHeap) (l : List UInt8), L.drop i = r → i ≤ L.length → WB h id l → l.length + 10 * r.length ≤ 100000 → ∃ h',
    lrun Tryd.prog md fg (fg 43) (loopOf Tryd.f43 0) (fg 43 1) ([.ptr id 0, .unk, .unk, .unk, .unk, .unk, .slc true (L.map .int), .int L.length, .int i, .unk, .unk, .unk, .unk, .unk, .unk, .unk, .unk, .unk]) h = some (.exit 0, [.ptr id 0, .unk, .unk, .unk, .unk, .unk, .slc true (L.map .int), .int L.length, .int L.length, .unk, .unk, .unk, .unk, .unk, .unk, .unk, .unk, .unk], h') ∧ WB h' id (l ++ zgs r) ∧ Fr id h h'
  | [], i, h, l, hd, hi, hw, hn => by
    have : i = L.length := by have := congrArg List.length hd; simp at this; omega
    subst this
    refine ⟨h, ?_, by rw [zgs, List.append_nil]; exact hw, Fr.refl _ _⟩
    rw [lrun_atC loop43_0]
    simp (implicitDefEqProofs := false) (disch := omega) only [go_sem, Nat.reduceAdd, Nat.reduceSub, Nat.reduceMul, Nat.reduceLT, Nat.reduceLeDiff, Nat.reduceEqDiff, List.drop_zero, List.take_succ_cons, List.take_zero, List.drop_succ_cons, Bool.and_true, Bool.true_and, Bool.and_false, Bool.false_and, BitVec.reduceOfInt, Nat.zero_add, Nat.mul_one, Nat.add_zero, Int.zero_add, Int.reduceToNat, Nat.reducePow, ↓reduceIte, reduceCtorEq, Int.reduceLE, Int.reduceLT, Int.reduceEq, Int.reduceNe, Int.reduceAdd, Int.reduceSub, Int.reduceMul, Int.reduceNeg, Nat.reduceBEq, show regOf Tryd.f43 1 = Code.region _ _ _ from rfl, show regOf Tryd.f43 2 = Code.region _ _ _ from rfl, show regOf Tryd.f43 3 = Code.region _ _ _ from rfl, show regOf Tryd.f43 4 = Code.region _ _ _ from rfl]
  | x :: r, i, h, l, hd, hi, hw, hn => by
    have hx : L[i]? = some x := by have := congrArg (·[0]?) hd; simpa using this
    have hlt : i < L.length := (List.getElem?_eq_some_iff.1 hx).1
    have hd' : L.drop (i + 1) = r := by rw [← List.tail_drop, hd]; rfl
    have hxm : I64 x := hI x (List.mem_of_getElem? hx)
    have hz := zigN_range hxm.1 hxm.2
    obtain ⟨y, hy⟩ : ∃ y : BitVec 64, zigN x = (y.toNat : Int) := ⟨_, v64_of hz.1 hz.2⟩
    have hzl := zg_len hxm
    simp only [List.length_cons] at hn
    obtain ⟨h1, e1, w1, f1⟩ := wU_c y hw (by omega)
    have hzy : zg x = uvarN y.toNat := by unfold zg; rw [hy]; rfl
    rw [← hzy] at w1
    have cz : ∀ g, doCall md (aval Tryd.prog md fg) 56 [.int x] g = some (v64 y, g) := fun g => doCall_pure md56 rfl ((zigI_p hxm.1 hxm.2).trans (by rw [hy]))
    obtain ⟨h', k1, k2, k3⟩ := wIs_loop L hL hI r (i + 1) _ _ hd' (by omega) w1 (by rw [List.length_append]; omega)
    refine ⟨h', ?_, by rw [zgs, ← List.append_assoc]; exact k2, f1.trans k3⟩
    rw [← k1]
    rw [lrun_atC loop43_0]
    have ht : ((i : Int)).toNat = i := by omega
    simp (implicitDefEqProofs := false) (disch := omega) only [go_sem, Nat.reduceAdd, Nat.reduceSub, Nat.reduceMul, Nat.reduceLT, Nat.reduceLeDiff, Nat.reduceEqDiff, List.drop_zero, List.take_succ_cons, List.take_zero, List.drop_succ_cons, Bool.and_true, Bool.true_and, Bool.and_false, Bool.false_and, BitVec.reduceOfInt, Nat.zero_add, Nat.mul_one, Nat.add_zero, Int.zero_add, Int.reduceToNat, Nat.reducePow, ↓reduceIte, reduceCtorEq, Int.reduceLE, Int.reduceLT, Int.reduceEq, Int.reduceNe, Int.reduceAdd, Int.reduceSub, Int.reduceMul, Int.reduceNeg, Nat.reduceBEq, show regOf Tryd.f43 1 = Code.region _ _ _ from rfl, show regOf Tryd.f43 2 = Code.region _ _ _ from rfl, show regOf Tryd.f43 3 = Code.region _ _ _ from rfl, show regOf Tryd.f43 4 = Code.region _ _ _ from rfl, List.getElem?_map, ht, hx, Option.map_some, cz, e1]
    all_goals (congr 1 <;> simp only [List.cons.injEq, AV.val.injEq, Value.int.injEq, Value.bool.injEq, true_and, and_true] <;> omega)
theorem wIs {h : AHeap} {id : Nat} {l : List UInt8} (L : List Int) (hL : L.length < 1000) (hI : ∀ x ∈ L, I64 x) (hw : WB h id l) (hn : l.length + 10 * L.length ≤ 100000) :
    ∃ h', doCall md (aval Tryd.prog md fg) 43 [.ptr id 0, .slc true (L.map .int)] h = some (.tup [], h') ∧ WB h' id (l ++ zgs L) ∧ Fr id h h' := by
  obtain ⟨h', e, w, f⟩ := wIs_loop (id := id) L hL hI L 0 h l (by simp) (by omega) hw hn
  refine doCall_fr (by decide) (?_ : aval Tryd.prog md fg 43 [.ptr id 0, .slc true (L.map .int)] h = some (.tup [], h')) hw w f
  simp only [Int.natCast_zero] at e
  rw [aval_of Tryd.func43 body43 Tryd.results43 Tryd.ntmps43 ok43]
  simp (implicitDefEqProofs := false) (disch := omega) only [go_sem, Nat.reduceAdd, Nat.reduceSub, Nat.reduceMul, Nat.reduceLT, Nat.reduceLeDiff, Nat.reduceEqDiff, List.drop_zero, List.take_succ_cons, List.take_zero, List.drop_succ_cons, Bool.and_true, Bool.true_and, Bool.and_false, Bool.false_and, BitVec.reduceOfInt, Nat.zero_add, Nat.mul_one, Nat.add_zero, Int.zero_add, Int.reduceToNat, Nat.reducePow, ↓reduceIte, reduceCtorEq, Int.reduceLE, Int.reduceLT, Int.reduceEq, Int.reduceNe, Int.reduceAdd, Int.reduceSub, Int.reduceMul, Int.reduceNeg, Nat.reduceBEq, show regOf Tryd.f43 0 = Code.region _ _ _ from rfl, List.length_map, e]
/-- Some texts. -/
def txs : List (List UInt8) → List UInt8
  | [] => []
  | x :: r => textL x ++ txs r
theorem textL_len {t : List UInt8} (h : t.length ≤ 100000) : (textL t).length ≤ 10 + t.length := by
  have := uvarN_len t.length (by omega)
  unfold textL; rw [List.length_append]; omega
theorem wTs_loop {id : Nat} (L : List (List UInt8)) (hL : L.length < 1000) (hI : ∀ x ∈ L, x.length ≤ 5000) : ∀ (r : List (List UInt8)) (i : Nat) (h : AHeap) (l : List UInt8), L.drop i = r → i ≤ L.length → WB h id l → l.length + 5010 * r.length ≤ 100000 → ∃ h',
    lrun Tryd.prog md fg (fg 25) (loopOf Tryd.f25 0) (fg 25 1) ([.ptr id 0, .unk, .unk, .unk, .unk, .unk, .unk, .unk, .slc true (L.map fun t => .val (.string (txt t))), .int L.length, .int i, .unk, .unk, .unk, .unk, .unk, .unk, .unk, .unk, .unk, .unk, .unk, .unk, .unk, .unk, .unk, .unk, .unk, .unk, .unk]) h = some (.exit 0, [.ptr id 0, .unk, .unk, .unk, .unk, .unk, .unk, .unk, .slc true (L.map fun t => .val (.string (txt t))), .int L.length, .int L.length, .unk, .unk, .unk, .unk, .unk, .unk, .unk, .unk, .unk, .unk, .unk, .unk, .unk, .unk, .unk, .unk, .unk, .unk, .unk], h') ∧ WB h' id (l ++ txs r) ∧ Fr id h h'
  | [], i, h, l, hd, hi, hw, hn => by
    have : i = L.length := by have := congrArg List.length hd; simp at this; omega
    subst this
    refine ⟨h, ?_, by rw [txs, List.append_nil]; exact hw, Fr.refl _ _⟩
    rw [lrun_atC loop25_0]
    simp (implicitDefEqProofs := false) (disch := omega) only [go_sem, Nat.reduceAdd, Nat.reduceSub, Nat.reduceMul, Nat.reduceLT, Nat.reduceLeDiff, Nat.reduceEqDiff, List.drop_zero, List.take_succ_cons, List.take_zero, List.drop_succ_cons, Bool.and_true, Bool.true_and, Bool.and_false, Bool.false_and, BitVec.reduceOfInt, Nat.zero_add, Nat.mul_one, Nat.add_zero, Int.zero_add, Int.reduceToNat, Nat.reducePow, ↓reduceIte, reduceCtorEq, Int.reduceLE, Int.reduceLT, Int.reduceEq, Int.reduceNe, Int.reduceAdd, Int.reduceSub, Int.reduceMul, Int.reduceNeg, Nat.reduceBEq, show regOf Tryd.f25 2 = Code.region _ _ _ from rfl, show regOf Tryd.f25 3 = Code.region _ _ _ from rfl, show regOf Tryd.f25 4 = Code.region _ _ _ from rfl, show regOf Tryd.f25 5 = Code.region _ _ _ from rfl, show regOf Tryd.f25 6 = Code.region _ _ _ from rfl]
  | t :: r, i, h, l, hd, hi, hw, hn => by
    have hx : L[i]? = some t := by have := congrArg (·[0]?) hd; simpa using this
    have hlt : i < L.length := (List.getElem?_eq_some_iff.1 hx).1
    have hd' : L.drop (i + 1) = r := by rw [← List.tail_drop, hd]; rfl
    have ht0 : t.length ≤ 5000 := hI t (List.mem_of_getElem? hx)
    simp only [List.length_cons] at hn
    obtain ⟨h1, e1, w1, f1⟩ := wU_c (BitVec.ofNat 64 t.length) hw (by omega)
    have hlen : (BitVec.ofNat 64 t.length).toNat = t.length := by rw [BitVec.toNat_ofNat]; exact Nat.mod_eq_of_lt (by omega)
    rw [hlen] at w1
    have hu := uvarN_len t.length (by omega)
    obtain ⟨bv, v, h2, e2, e3, e4, e5, e6, e7, e8⟩ := wb_app (xs := t) w1 (.val (.int .u8 0)) (by simp only [List.length_append]; omega)
    rw [List.append_assoc] at e7
    have htl := textL_len (t := t) (by omega)
    change WB _ id (l ++ textL t) at e7
    obtain ⟨h', k1, k2, k3⟩ := wTs_loop L hL hI r (i + 1) _ _ hd' (by omega) e7 (by rw [List.length_append]; omega)
    refine ⟨h', ?_, by rw [txs, ← List.append_assoc]; exact k2, f1.trans (e8.trans k3)⟩
    rw [← k1]
    rw [lrun_atC loop25_0]
    have ht : ((i : Int)).toNat = i := by omega
    simp (implicitDefEqProofs := false) (disch := omega) only [go_sem, Nat.reduceAdd, Nat.reduceSub, Nat.reduceMul, Nat.reduceLT, Nat.reduceLeDiff, Nat.reduceEqDiff, List.drop_zero, List.take_succ_cons, List.take_zero, List.drop_succ_cons, Bool.and_true, Bool.true_and, Bool.and_false, Bool.false_and, BitVec.reduceOfInt, Nat.zero_add, Nat.mul_one, Nat.add_zero, Int.zero_add, Int.reduceToNat, Nat.reducePow, ↓reduceIte, reduceCtorEq, Int.reduceLE, Int.reduceLT, Int.reduceEq, Int.reduceNe, Int.reduceAdd, Int.reduceSub, Int.reduceMul, Int.reduceNeg, Nat.reduceBEq, show regOf Tryd.f25 2 = Code.region _ _ _ from rfl, show regOf Tryd.f25 3 = Code.region _ _ _ from rfl, show regOf Tryd.f25 4 = Code.region _ _ _ from rfl, show regOf Tryd.f25 5 = Code.region _ _ _ from rfl, show regOf Tryd.f25 6 = Code.region _ _ _ from rfl, List.getElem?_map, ht, hx, Option.map_some, txt_size, BitVec.ofInt_natCast, e1, e2, e3, e4, e5, e6, txt_list]
    all_goals (congr 1 <;> simp only [List.cons.injEq, AV.val.injEq, Value.int.injEq, Value.bool.injEq, true_and, and_true] <;> omega)
theorem wTs {h : AHeap} {id : Nat} {l : List UInt8} (L : List (List UInt8)) (hL : L.length < 1000) (hI : ∀ x ∈ L, x.length ≤ 5000) (hw : WB h id l) (hn : l.length + 5010 * L.length ≤ 100000) :
    ∃ h', doCall md (aval Tryd.prog md fg) 25 [.ptr id 0, .slc true (L.map fun t => .val (.string (txt t)))] h = some (.tup [], h') ∧ WB h' id (l ++ txs L) ∧ Fr id h h' := by
  obtain ⟨h', e, w, f⟩ := wTs_loop (id := id) L hL hI L 0 h l (by simp) (by omega) hw hn
  refine doCall_fr (by decide) (?_ : aval Tryd.prog md fg 25 [.ptr id 0, .slc true (L.map fun t => .val (.string (txt t)))] h = some (.tup [], h')) hw w f
  simp only [Int.natCast_zero] at e
  rw [aval_of Tryd.func25 body25 Tryd.results25 Tryd.ntmps25 ok25]
  simp (implicitDefEqProofs := false) (disch := omega) only [go_sem, Nat.reduceAdd, Nat.reduceSub, Nat.reduceMul, Nat.reduceLT, Nat.reduceLeDiff, Nat.reduceEqDiff, List.drop_zero, List.take_succ_cons, List.take_zero, List.drop_succ_cons, Bool.and_true, Bool.true_and, Bool.and_false, Bool.false_and, BitVec.reduceOfInt, Nat.zero_add, Nat.mul_one, Nat.add_zero, Int.zero_add, Int.reduceToNat, Nat.reducePow, ↓reduceIte, reduceCtorEq, Int.reduceLE, Int.reduceLT, Int.reduceEq, Int.reduceNe, Int.reduceAdd, Int.reduceSub, Int.reduceMul, Int.reduceNeg, Nat.reduceBEq, show regOf Tryd.f25 0 = Code.region _ _ _ from rfl, show regOf Tryd.f25 1 = Code.region _ _ _ from rfl, List.length_map, e]
end Go.Proofs.YtfloombnadnmaaaDoor
namespace Go.Proofs.YtfloombnadnmaaaDoor
open Go Go.Ab Go.Proofs
set_option maxRecDepth 100000
set_option linter.unusedSimpArgs false
set_option linter.unusedVariables false
/-- A pin; an answer. -/
structure Pn where
  p : List UInt8
  a : Int
  b : Int
  c : Int
abbrev pnV (x : Pn) : AV := pinV x.p x.a x.b x.c
def Pn.ok (x : Pn) : Prop := x.p.length ≤ 4000 ∧ I64 x.a ∧ I64 x.b ∧ I64 x.c
structure Ans where
  err : Int
  at' : Int
  gap : Int
  kind : Int
  name : List UInt8
  con : List UInt8
  pins : List Pn
  text : List UInt8
  y : Bool
  r1 : Int
  r2 : Int
  r3 : Int
  r4 : Int
def pinsL : List Pn → List UInt8
  | [] => []
  | x :: r => (textL x.p ++ zgs [x.a, x.b, x.c]) ++ pinsL r
def toldL (m : Ans) : List UInt8 := zgs [m.err, m.at', m.gap, m.kind] ++ (txs [m.name, m.con] ++ (num (m.pins.length : Int) ++ (pinsL m.pins ++ (textL m.text ++ (num (if m.y then 1 else 0) ++ zgs [m.r1, m.r2, m.r3, m.r4])))))
def Ans.ok (m : Ans) : Prop := (I64 m.err ∧ I64 m.at' ∧ I64 m.gap ∧ I64 m.kind) ∧ (I64 m.r1 ∧ I64 m.r2 ∧ I64 m.r3 ∧ I64 m.r4) ∧ m.name.length ≤ 4000 ∧ m.con.length ≤ 4000 ∧ m.text.length ≤ 4000 ∧ m.pins.length ≤ 1000 ∧ (∀ x ∈ m.pins, x.ok) ∧ (pinsL m.pins).length ≤ 45000
def ansCells (full : Bool) (m : Ans) : List AV := [.int m.err, .int m.at', .int m.gap, .int m.kind, .str (txt m.name), .str (txt m.con), .slc full (m.pins.map pnV), .str (txt m.text), .bool m.y, .int m.r1, .int m.r2, .int m.r3, .int m.r4]
abbrev ansV (full : Bool) (m : Ans) : AV := .agg [.int m.err, .int m.at', .int m.gap, .int m.kind, .str (txt m.name), .str (txt m.con), .slc full (m.pins.map pnV), .str (txt m.text), .bool m.y, .int m.r1, .int m.r2, .int m.r3, .int m.r4]
theorem told_loop (full : Bool) (Ps : List Pn) (hL : Ps.length ≤ 1000) (hI : ∀ x ∈ Ps, x.ok) : ∀ (r : List Pn) (i : Nat) (h : AHeap) (l : List UInt8), Ps.drop i = r → i ≤ Ps.length → WB h 1 l → l.length + (pinsL r).length ≤ 60000 → ∃ h',
    lrun Tryd.prog md fg (fg 17) (loopOf Tryd.f17 0) (fg 17 1) ((.unk :: (.ptr 0 0) :: .unk :: (.ptr 1 0) :: .unk :: .unk :: .unk :: .unk :: .unk :: .unk :: .unk :: .unk :: .unk :: .unk :: .unk :: .unk :: .unk :: .unk :: .unk :: .unk :: .unk :: .unk :: .unk :: .unk :: .unk :: .unk :: .unk :: .unk :: .unk :: .unk :: .unk :: .unk :: .unk :: .unk :: .unk :: .unk :: .unk :: .unk :: .unk :: .unk :: (.slc full (Ps.map pnV)) :: (.int Ps.length) :: (.int i) :: .unk :: .unk :: .unk :: .unk :: .unk :: .unk :: .unk :: .unk :: .unk :: .unk :: .unk :: .unk :: .unk :: .unk :: .unk :: .unk :: .unk :: .unk :: .unk :: .unk :: .unk :: .unk :: .unk :: .unk :: .unk :: .unk :: .unk :: .unk :: .unk :: .unk :: .unk :: .unk :: .unk :: .unk :: .unk :: .unk :: .unk :: .unk :: .unk :: .unk :: .unk :: .unk :: .unk :: .unk :: .unk :: .unk :: .unk :: .unk :: .unk :: .unk :: .unk :: .unk :: .unk :: .unk :: .unk :: .unk :: .unk :: .unk :: [] : List AV)) h = some (.exit 0, (.unk :: (.ptr 0 0) :: .unk :: (.ptr 1 0) :: .unk :: .unk :: .unk :: .unk :: .unk :: .unk :: .unk :: .unk :: .unk :: .unk :: .unk :: .unk :: .unk :: .unk :: .unk :: .unk :: .unk :: .unk :: .unk :: .unk :: .unk :: .unk :: .unk :: .unk :: .unk :: .unk :: .unk :: .unk :: .unk :: .unk :: .unk :: .unk :: .unk :: .unk :: .unk :: .unk :: (.slc full (Ps.map pnV)) :: (.int Ps.length) :: (.int Ps.length) :: .unk :: .unk :: .unk :: .unk :: .unk :: .unk :: .unk :: .unk :: .unk :: .unk :: .unk :: .unk :: .unk :: .unk :: .unk :: .unk :: .unk :: .unk :: .unk :: .unk :: .unk :: .unk :: .unk :: .unk :: .unk :: .unk :: .unk :: .unk :: .unk :: .unk :: .unk :: .unk :: .unk :: .unk :: .unk :: .unk :: .unk :: .unk :: .unk :: .unk :: .unk :: .unk :: .unk :: .unk :: .unk :: .unk :: .unk :: .unk :: .unk :: .unk :: .unk :: .unk :: .unk :: .unk :: .unk :: .unk :: .unk :: .unk :: [] : List AV), h') ∧ WB h' 1 (l ++ pinsL r) ∧ Fr 1 h h'
  | [], i, h, l, hd, hi, hw, hn => by
    have : i = Ps.length := by have := congrArg List.length hd; simp at this; omega
    subst this
    refine ⟨h, ?_, by rw [pinsL, List.append_nil]; exact hw, Fr.refl _ _⟩
    rw [lrun_atC loop17_0]
    simp (implicitDefEqProofs := false) (disch := omega) only [go_sem, Nat.reduceAdd, Nat.reduceSub, Nat.reduceMul, Nat.reduceLT, Nat.reduceLeDiff, Nat.reduceEqDiff, List.drop_zero, List.take_succ_cons, List.take_zero, List.drop_succ_cons, Bool.and_true, Bool.true_and, Bool.and_false, Bool.false_and, BitVec.reduceOfInt, Nat.zero_add, Nat.mul_one, Nat.add_zero, Int.zero_add, Int.reduceToNat, Nat.reducePow, ↓reduceIte, reduceCtorEq, Int.reduceLE, Int.reduceLT, Int.reduceEq, Int.reduceNe, Int.reduceAdd, Int.reduceSub, Int.reduceMul, Int.reduceNeg, Nat.reduceBEq, show regOf Tryd.f17 6 = Code.region _ _ _ from rfl]
  | ⟨p, a, b, c⟩ :: r, i, h, l, hd, hi, hw, hn => by
    have hx : Ps[i]? = some ⟨p, a, b, c⟩ := by have := congrArg (·[0]?) hd; simpa using this
    have hlt : i < Ps.length := (List.getElem?_eq_some_iff.1 hx).1
    have hd' : Ps.drop (i + 1) = r := by rw [← List.tail_drop, hd]; rfl
    obtain ⟨o1, o2, o3, o4⟩ := hI _ (List.mem_of_getElem? hx)
    dsimp only at o1 o2 o3 o4
    have hid := hw.1
    rw [pinsL, List.length_append, List.length_append] at hn
    dsimp only at hn
    have g0 : hget (h ++ [.vars [.str (txt p), .int a, .int b, .int c]]) h.length = .vars [.str (txt p), .int a, .int b, .int c] := hget_last
    obtain ⟨h1, e1, w1, f1⟩ := wTs (id := 1) [p] (by simp) (by simp; omega) (WB_push (o := .vars [.str (txt p), .int a, .int b, .int c]) hw) (by simp; omega)
    have g1 := f1.2 h.length _ (by omega) g0
    simp only [txs, List.append_nil] at w1
    obtain ⟨h2, e2, w2, f2⟩ := wIs (id := 1) [a, b, c] (by simp) (by simp only [List.mem_cons, List.not_mem_nil, or_false]; rintro x (rfl | rfl | rfl) <;> assumption) w1 (by rw [List.length_append]; simp only [List.length_cons, List.length_nil]; omega)
    rw [List.append_assoc] at w2
    obtain ⟨h', k1, k2, k3⟩ := told_loop full Ps hL hI r (i + 1) _ _ hd' (by omega) w2 (by simp only [List.length_append]; omega)
    simp only [List.map_cons, List.map_nil] at e1 e2
    refine ⟨h', ?_, by rw [pinsL, ← List.append_assoc]; exact k2, (fr_push _).trans (f1.trans (f2.trans k3))⟩
    rw [← k1]
    rw [lrun_atC loop17_0]
    have ht : ((i : Int)).toNat = i := by omega
    simp (implicitDefEqProofs := false) (disch := omega) only [go_sem, Nat.reduceAdd, Nat.reduceSub, Nat.reduceMul, Nat.reduceLT, Nat.reduceLeDiff, Nat.reduceEqDiff, List.drop_zero, List.take_succ_cons, List.take_zero, List.drop_succ_cons, Bool.and_true, Bool.true_and, Bool.and_false, Bool.false_and, BitVec.reduceOfInt, Nat.zero_add, Nat.mul_one, Nat.add_zero, Int.zero_add, Int.reduceToNat, Nat.reducePow, ↓reduceIte, reduceCtorEq, Int.reduceLE, Int.reduceLT, Int.reduceEq, Int.reduceNe, Int.reduceAdd, Int.reduceSub, Int.reduceMul, Int.reduceNeg, Nat.reduceBEq, show regOf Tryd.f17 6 = Code.region _ _ _ from rfl, show regOf Tryd.f17 7 = Code.region _ _ _ from rfl, show regOf Tryd.f17 8 = Code.region _ _ _ from rfl, show regOf Tryd.f17 9 = Code.region _ _ _ from rfl, show regOf Tryd.f17 10 = Code.region _ _ _ from rfl, List.getElem?_map, ht, hx, Option.map_some, hget_last, set_last, g0, e1, g1, e2, callD_one md25, callD_one md43]
    all_goals (congr 1 <;> simp only [List.cons.injEq, AV.val.injEq, Value.int.injEq, Value.bool.injEq, true_and, and_true] <;> omega)
end Go.Proofs.YtfloombnadnmaaaDoor
namespace Go.Proofs.YtfloombnadnmaaaDoor
open Go Go.Ab Go.Proofs
set_option maxRecDepth 100000
set_option linter.unusedSimpArgs false
set_option linter.unusedVariables false
theorem zgs4 {a b c d : Int} (ha : I64 a) (hb : I64 b) (hc : I64 c) (hd : I64 d) : ∀ x ∈ [a, b, c, d], I64 x := by
  simp only [List.mem_cons, List.not_mem_nil, or_false]
  rintro x (rfl | rfl | rfl | rfl) <;> assumption
set_option maxHeartbeats 8000000 in
theorem told_p (full : Bool) (m : Ans) (hm : m.ok) : pcall Tryd.prog md fg 17 [ansV full m] = some (.val (.string (txt (toldL m)))) := by
  obtain ⟨err, at', gap, kind, name, con, pins, text, y, r1, r2, r3, r4⟩ := m
  obtain ⟨⟨i1, i2, i3, i4⟩, ⟨i5, i6, i7, i8⟩, q1, q2, q3, q4, q5, q6⟩ := hm
  dsimp only at i1 i2 i3 i4 i5 i6 i7 i8 q1 q2 q3 q4 q5 q6
  have e : ∃ h, aval Tryd.prog md fg 17 [ansV full ⟨err, at', gap, kind, name, con, pins, text, y, r1, r2, r3, r4⟩] [] = some (.val (.string (txt (toldL ⟨err, at', gap, kind, name, con, pins, text, y, r1, r2, r3, r4⟩))), h) := by
    unfold toldL
    dsimp only
    have g0 : hget [.vars [.int err, .int at', .int gap, .int kind, .str (txt name), .str (txt con), .slc full (pins.map pnV), .str (txt text), .bool y, .int r1, .int r2, .int r3, .int r4], .vars [.slc true []]] 0 = .vars [.int err, .int at', .int gap, .int kind, .str (txt name), .str (txt con), .slc full (pins.map pnV), .str (txt text), .bool y, .int r1, .int r2, .int r3, .int r4] := rfl
    have w0 : WB [.vars [.int err, .int at', .int gap, .int kind, .str (txt name), .str (txt con), .slc full (pins.map pnV), .str (txt text), .bool y, .int r1, .int r2, .int r3, .int r4], .vars [.slc true []]] 1 [] := ⟨by simp, .inl ⟨rfl, rfl⟩⟩
    have na := textL_len (t := name) (by omega)
    have nb := textL_len (t := con) (by omega)
    obtain ⟨h1, e1, w1, f1⟩ := wIs (id := 1) [err, at', gap, kind] (by simp) (zgs4 i1 i2 i3 i4) w0 (by simp)
    have g1 := f1.2 0 _ (by omega) g0
    rw [List.nil_append] at w1
    have n1 := zgs_len _ (zgs4 i1 i2 i3 i4)
    simp only [List.length_cons, List.length_nil] at n1
    obtain ⟨h2, e2, w2, f2⟩ := wTs (id := 1) [name, con] (by simp) (by simp only [List.mem_cons, List.not_mem_nil, or_false]; rintro x (rfl | rfl) <;> omega) w1 (by simp only [List.length_cons, List.length_nil]; omega)
    have g2 := f2.2 0 _ (by omega) g1
    have n2 : (txs [name, con]).length ≤ 8020 := by
      have := textL_len (t := name) (by omega)
      have := textL_len (t := con) (by omega)
      simp only [txs, List.length_append, List.length_nil]; omega
    obtain ⟨h3, e3, w3, f3⟩ := wNum (n := (pins.length : Int)) (by omega) (by omega) w2 (by simp only [List.length_append]; omega)
    have g3 := f3.2 0 _ (by omega) g2
    have n3 := num_len (pins.length : Int) (by omega)
    obtain ⟨h4, e4, w4, f4⟩ := told_loop full pins q4 q5 pins 0 h3 _ (by simp) (by omega) w3 (by simp only [List.length_append]; omega)
    have g4 := f4.2 0 _ (by omega) g3
    obtain ⟨h5, e5, w5, f5⟩ := wTs (id := 1) [text] (by simp) (by simp only [List.mem_cons, List.not_mem_nil, or_false]; rintro x rfl; omega) w4 (by simp only [List.length_append, List.length_cons, List.length_nil]; omega)
    have g5 := f5.2 0 _ (by omega) g4
    simp only [txs, List.append_nil] at w5
    have n5 := textL_len (t := text) (by omega)
    obtain ⟨h6, e6, w6, f6⟩ := wNum (n := if y then 1 else 0) (by split <;> omega) (by split <;> omega) w5 (by simp only [List.length_append]; omega)
    have g6 := f6.2 0 _ (by omega) g5
    have n6 := num_len (if y then 1 else 0) (by split <;> omega)
    obtain ⟨h7, e7, w7, f7⟩ := wIs (id := 1) [r1, r2, r3, r4] (by simp) (zgs4 i5 i6 i7 i8) w6 (by simp only [List.length_append, List.length_cons, List.length_nil]; omega)
    have es := wS_c w7
    simp only [List.append_assoc] at es
    simp only [List.map_cons, List.map_nil, Int.natCast_zero] at e1 e2 e4 e5 e7
    refine ⟨h7, ?_⟩
    simp only [txs, List.append_nil, List.append_assoc] at es ⊢
    rw [aval_of Tryd.func17 body17 Tryd.results17 Tryd.ntmps17 ok17]
    cases y <;> simp only [Bool.false_eq_true, if_true, if_false] at e6 es ⊢ <;>
    simp (implicitDefEqProofs := false) (disch := omega) only [go_sem, Nat.reduceAdd, Nat.reduceSub, Nat.reduceMul, Nat.reduceLT, Nat.reduceLeDiff, Nat.reduceEqDiff, List.drop_zero, List.take_succ_cons, List.take_zero, List.drop_succ_cons, Bool.and_true, Bool.true_and, Bool.and_false, Bool.false_and, BitVec.reduceOfInt, Nat.zero_add, Nat.mul_one, Nat.add_zero, Int.zero_add, Int.reduceToNat, Nat.reducePow, ↓reduceIte, reduceCtorEq, Int.reduceLE, Int.reduceLT, Int.reduceEq, Int.reduceNe, Int.reduceAdd, Int.reduceSub, Int.reduceMul, Int.reduceNeg, Nat.reduceBEq, show regOf Tryd.f17 0 = Code.region _ _ _ from rfl, show regOf Tryd.f17 1 = Code.region _ _ _ from rfl, show regOf Tryd.f17 2 = Code.region _ _ _ from rfl, show regOf Tryd.f17 3 = Code.region _ _ _ from rfl, show regOf Tryd.f17 4 = Code.region _ _ _ from rfl, show regOf Tryd.f17 5 = Code.region _ _ _ from rfl, show regOf Tryd.f17 11 = Code.region _ _ _ from rfl, show regOf Tryd.f17 12 = Code.region _ _ _ from rfl, show regOf Tryd.f17 13 = Code.region _ _ _ from rfl, show regOf Tryd.f17 14 = Code.region _ _ _ from rfl, show regOf Tryd.f17 15 = Code.region _ _ _ from rfl, show regOf Tryd.f17 16 = Code.region _ _ _ from rfl, show regOf Tryd.f17 17 = Code.region _ _ _ from rfl, List.length_map, g0, e1, g1, e2, g2, e3, g3, e4, g4, e5, g5, e6, g6, e7, es, callD_one md25, callD_one md43]
  obtain ⟨h, e⟩ := e
  rw [pcall_eq, e, pureRes_solid rfl]
end Go.Proofs.YtfloombnadnmaaaDoor
namespace Go.Proofs.YtfloombnadnmaaaDoor
open Go Go.Ab Go.Proofs
set_option maxRecDepth 100000
set_option linter.unusedSimpArgs false
set_option linter.unusedVariables false
theorem rzig_p {n : Int} (hn : I64 n) : pcall Tryd.prog md fg 47 [.int n] = some (.val (.string (txt (zg n)))) := by
  have hz := zigN_range hn.1 hn.2
  obtain ⟨y, hy⟩ : ∃ y : BitVec 64, zigN n = (y.toNat : Int) := ⟨_, v64_of hz.1 hz.2⟩
  have c1 : ∀ h, doCall md (aval Tryd.prog md fg) 59 [.int n] h = some (v64 y, h) := fun h => doCall_pure md59 rfl ((refZig_p hn.1 hn.2).trans (by rw [hy]))
  have c2 : ∀ h, doCall md (aval Tryd.prog md fg) 50 [v64 y] h = some (.val (.string (txt (zg n))), h) := fun h => by
    have := doCall_pure (h := h) md50 rfl (refUvarint_p y)
    have hz : uvarT y = txt (zg n) := by unfold uvarT zg; rw [hy]; rfl
    rw [hz] at this; exact this
  have e : ∃ h, aval Tryd.prog md fg 47 [.int n] [] = some (.val (.string (txt (zg n))), h) := by
    rw [aval_of Tryd.func47 body47 Tryd.results47 Tryd.ntmps47 ok47]
    simp (implicitDefEqProofs := false) (disch := omega) only [go_sem, Nat.reduceAdd, Nat.reduceSub, Nat.reduceMul, Nat.reduceLT, Nat.reduceLeDiff, Nat.reduceEqDiff, List.drop_zero, List.take_succ_cons, List.take_zero, List.drop_succ_cons, Bool.and_true, Bool.true_and, Bool.and_false, Bool.false_and, BitVec.reduceOfInt, Nat.zero_add, Nat.mul_one, Nat.add_zero, Int.zero_add, Int.reduceToNat, Nat.reducePow, ↓reduceIte, reduceCtorEq, Int.reduceLE, Int.reduceLT, Int.reduceEq, Int.reduceNe, Int.reduceAdd, Int.reduceSub, Int.reduceMul, Int.reduceNeg, Nat.reduceBEq, show regOf Tryd.f47 0 = Code.region _ _ _ from rfl, show regOf Tryd.f47 1 = Code.region _ _ _ from rfl, c1, c2]
    exact ⟨_, rfl⟩
  obtain ⟨h, e⟩ := e
  rw [pcall_eq, e, pureRes_solid rfl]
theorem zig_c {n : Int} (hn : I64 n) (h : AHeap) : doCall md (aval Tryd.prog md fg) 47 [.int n] h = some (.val (.string (txt (zg n))), h) := doCall_pure md47 rfl (rzig_p hn)
theorem rtold_loop (full : Bool) (m : Ans) (hL : m.pins.length ≤ 1000) (hI : ∀ x ∈ m.pins, x.ok) : ∀ (r : List Pn) (i : Nat) (l : List UInt8), m.pins.drop i = r → i ≤ m.pins.length → l.length + (pinsL r).length ≤ 60000 →
    lrun Tryd.prog md fg (fg 19) (loopOf Tryd.f19 0) (fg 19 1) ((.unk :: (.ptr 0 0) :: .unk :: (.val (.string (txt l))) :: (.int i) :: .unk :: .unk :: .unk :: .unk :: .unk :: .unk :: .unk :: .unk :: .unk :: .unk :: .unk :: .unk :: .unk :: .unk :: .unk :: .unk :: .unk :: .unk :: .unk :: .unk :: .unk :: .unk :: .unk :: .unk :: .unk :: .unk :: .unk :: .unk :: .unk :: .unk :: .unk :: .unk :: .unk :: .unk :: .unk :: .unk :: .unk :: .unk :: .unk :: .unk :: .unk :: .unk :: .unk :: .unk :: .unk :: .unk :: .unk :: .unk :: .unk :: .unk :: .unk :: .unk :: .unk :: .unk :: .unk :: .unk :: .unk :: .unk :: .unk :: .unk :: .unk :: .unk :: .unk :: .unk :: .unk :: .unk :: .unk :: .unk :: .unk :: .unk :: .unk :: .unk :: .unk :: .unk :: .unk :: .unk :: .unk :: .unk :: .unk :: .unk :: .unk :: .unk :: .unk :: .unk :: .unk :: .unk :: .unk :: .unk :: .unk :: .unk :: .unk :: .unk :: .unk :: .unk :: .unk :: .unk :: .unk :: .unk :: .unk :: .unk :: .unk :: .unk :: .unk :: .unk :: .unk :: .unk :: .unk :: .unk :: [] : List AV)) [.vars (ansCells full m)] = some (.exit 0, (.unk :: (.ptr 0 0) :: .unk :: (.val (.string (txt (l ++ pinsL r)))) :: (.int m.pins.length) :: .unk :: .unk :: .unk :: .unk :: .unk :: .unk :: .unk :: .unk :: .unk :: .unk :: .unk :: .unk :: .unk :: .unk :: .unk :: .unk :: .unk :: .unk :: .unk :: .unk :: .unk :: .unk :: .unk :: .unk :: .unk :: .unk :: .unk :: .unk :: .unk :: .unk :: .unk :: .unk :: .unk :: .unk :: .unk :: .unk :: .unk :: .unk :: .unk :: .unk :: .unk :: .unk :: .unk :: .unk :: .unk :: .unk :: .unk :: .unk :: .unk :: .unk :: .unk :: .unk :: .unk :: .unk :: .unk :: .unk :: .unk :: .unk :: .unk :: .unk :: .unk :: .unk :: .unk :: .unk :: .unk :: .unk :: .unk :: .unk :: .unk :: .unk :: .unk :: .unk :: .unk :: .unk :: .unk :: .unk :: .unk :: .unk :: .unk :: .unk :: .unk :: .unk :: .unk :: .unk :: .unk :: .unk :: .unk :: .unk :: .unk :: .unk :: .unk :: .unk :: .unk :: .unk :: .unk :: .unk :: .unk :: .unk :: .unk :: .unk :: .unk :: .unk :: .unk :: .unk :: .unk :: .unk :: .unk :: .unk :: [] : List AV), [.vars (ansCells full m)])
  | [], i, l, hd, hi, hn => by
    have : i = m.pins.length := by have := congrArg List.length hd; simp at this; omega
    subst this
    rw [pinsL, List.append_nil]
    unfold ansCells
    rw [lrun_atC loop19_0]
    simp (implicitDefEqProofs := false) (disch := omega) only [go_sem, Nat.reduceAdd, Nat.reduceSub, Nat.reduceMul, Nat.reduceLT, Nat.reduceLeDiff, Nat.reduceEqDiff, List.drop_zero, List.take_succ_cons, List.take_zero, List.drop_succ_cons, Bool.and_true, Bool.true_and, Bool.and_false, Bool.false_and, BitVec.reduceOfInt, Nat.zero_add, Nat.mul_one, Nat.add_zero, Int.zero_add, Int.reduceToNat, Nat.reducePow, ↓reduceIte, reduceCtorEq, Int.reduceLE, Int.reduceLT, Int.reduceEq, Int.reduceNe, Int.reduceAdd, Int.reduceSub, Int.reduceMul, Int.reduceNeg, Nat.reduceBEq, show regOf Tryd.f19 3 = Code.region _ _ _ from rfl, List.length_map]
  | ⟨p, a, b, c⟩ :: r, i, l, hd, hi, hn => by
    have hx : m.pins[i]? = some ⟨p, a, b, c⟩ := by have := congrArg (·[0]?) hd; simpa using this
    have hlt : i < m.pins.length := (List.getElem?_eq_some_iff.1 hx).1
    have hd' : m.pins.drop (i + 1) = r := by rw [← List.tail_drop, hd]; rfl
    obtain ⟨o1, o2, o3, o4⟩ := hI _ (List.mem_of_getElem? hx)
    dsimp only at o1 o2 o3 o4
    have n1 := textL_len (t := p) (by omega)
    have n2 := zg_len o2
    have n3 := zg_len o3
    have n4 := zg_len o4
    simp only [pinsL, zgs, List.append_nil, List.length_append] at hn
    have k1 := rtold_loop full m hL hI r (i + 1) (l ++ (textL p ++ (zg a ++ (zg b ++ zg c)))) hd' (by omega) (by simp only [List.length_append]; omega)
    have ep : l ++ pinsL (⟨p, a, b, c⟩ :: r) = (l ++ (textL p ++ (zg a ++ (zg b ++ zg c)))) ++ pinsL r := by simp only [pinsL, zgs, List.append_nil, List.append_assoc]
    rw [ep, ← k1]
    have ct : ∀ h : AHeap, doCall md (aval Tryd.prog md fg) 31 [.val (.string (txt p))] h = some (.val (.string (txt (textL p))), h) := fun h => doCall_pure md31 rfl (refText_p p (by omega))
    have ca := zig_c o2
    have cb := zig_c o3
    have cc := zig_c o4
    unfold ansCells
    rw [lrun_atC loop19_0]
    have ht : ((i : Int)).toNat = i := by omega
    simp (implicitDefEqProofs := false) (disch := first | omega | (simp only [List.length_append]; omega)) only [go_sem, Nat.reduceAdd, Nat.reduceSub, Nat.reduceMul, Nat.reduceLT, Nat.reduceLeDiff, Nat.reduceEqDiff, List.drop_zero, List.take_succ_cons, List.take_zero, List.drop_succ_cons, Bool.and_true, Bool.true_and, Bool.and_false, Bool.false_and, BitVec.reduceOfInt, Nat.zero_add, Nat.mul_one, Nat.add_zero, Int.zero_add, Int.reduceToNat, Nat.reducePow, ↓reduceIte, reduceCtorEq, Int.reduceLE, Int.reduceLT, Int.reduceEq, Int.reduceNe, Int.reduceAdd, Int.reduceSub, Int.reduceMul, Int.reduceNeg, Nat.reduceBEq, show regOf Tryd.f19 3 = Code.region _ _ _ from rfl, show regOf Tryd.f19 4 = Code.region _ _ _ from rfl, show regOf Tryd.f19 5 = Code.region _ _ _ from rfl, List.length_map, List.getElem?_map, ht, hx, Option.map_some, ct, ca, cb, cc, cat2, List.append_assoc]
    all_goals (congr 1 <;> simp only [List.cons.injEq, AV.val.injEq, Value.int.injEq, Value.bool.injEq, true_and, and_true] <;> omega)
set_option maxHeartbeats 8000000 in
theorem rtoldA_p (full : Bool) (m : Ans) (hm : m.ok) : pcall Tryd.prog md fg 19 [ansV full m] = some (.val (.string (txt (toldL m)))) := by
  have hm0 := hm
  obtain ⟨⟨i1, i2, i3, i4⟩, ⟨i5, i6, i7, i8⟩, q1, q2, q3, q4, q5, q6⟩ := hm0
  have e : ∃ h, aval Tryd.prog md fg 19 [ansV full m] [] = some (.val (.string (txt (toldL m))), h) := by
    unfold toldL
    have n1 := zg_len i1
    have n2 := zg_len i2
    have n3 := zg_len i3
    have n4 := zg_len i4
    have n5 := zg_len i5
    have n6 := zg_len i6
    have n7 := zg_len i7
    have n8 := zg_len i8
    have l1 := textL_len (t := m.name) (by omega)
    have l2 := textL_len (t := m.con) (by omega)
    have l3 := textL_len (t := m.text) (by omega)
    have l4 := num_len (m.pins.length : Int) (by omega)
    have l5 := num_len 0 (by omega)
    have l6 := num_len 1 (by omega)
    have ct : ∀ (p : List UInt8), p.length ≤ 4000 → ∀ h : AHeap, doCall md (aval Tryd.prog md fg) 31 [.val (.string (txt p))] h = some (.val (.string (txt (textL p))), h) := fun p hp h => doCall_pure md31 rfl (refText_p p (by omega))
    have ct1 := ct m.name q1
    have ct2 := ct m.con q2
    have ct3 := ct m.text q3
    have cn : ∀ (n : Int), 0 ≤ n → n ≤ 1000 → ∀ h : AHeap, doCall md (aval Tryd.prog md fg) 27 [.int n] h = some (.val (.string (txt (num n))), h) := fun n h0 h1 h => doCall_pure md27 rfl (rnum_p h0 (by omega))
    have cn0 := cn 0 (by omega) (by omega)
    have cn1 := cn 1 (by omega) (by omega)
    have cnp := cn (m.pins.length : Int) (by omega) (by omega)
    have z1 := zig_c i1
    have z2 := zig_c i2
    have z3 := zig_c i3
    have z4 := zig_c i4
    have z5 := zig_c i5
    have z6 := zig_c i6
    have z7 := zig_c i7
    have z8 := zig_c i8
    have lp := rtold_loop full m q4 q5 m.pins 0 (zg m.err ++ (zg m.at' ++ (zg m.gap ++ (zg m.kind ++ (textL m.name ++ (textL m.con ++ num (m.pins.length : Int))))))) (by simp) (by omega) (by simp only [List.length_append]; omega)
    simp only [Int.natCast_zero, List.append_assoc] at lp
    unfold ansCells at lp
    simp only [zgs, txs, List.append_nil, List.append_assoc]
    rw [aval_of Tryd.func19 body19 Tryd.results19 Tryd.ntmps19 ok19]
    cases hy : m.y <;> simp only [hy] at lp <;>
    simp (implicitDefEqProofs := false) (disch := first | omega | (simp only [List.length_append]; omega)) only [go_sem, Nat.reduceAdd, Nat.reduceSub, Nat.reduceMul, Nat.reduceLT, Nat.reduceLeDiff, Nat.reduceEqDiff, List.drop_zero, List.take_succ_cons, List.take_zero, List.drop_succ_cons, Bool.and_true, Bool.true_and, Bool.and_false, Bool.false_and, BitVec.reduceOfInt, Nat.zero_add, Nat.mul_one, Nat.add_zero, Int.zero_add, Int.reduceToNat, Nat.reducePow, ↓reduceIte, reduceCtorEq, Int.reduceLE, Int.reduceLT, Int.reduceEq, Int.reduceNe, Int.reduceAdd, Int.reduceSub, Int.reduceMul, Int.reduceNeg, Nat.reduceBEq, show regOf Tryd.f19 0 = Code.region _ _ _ from rfl, show regOf Tryd.f19 1 = Code.region _ _ _ from rfl, show regOf Tryd.f19 2 = Code.region _ _ _ from rfl, show regOf Tryd.f19 6 = Code.region _ _ _ from rfl, show regOf Tryd.f19 7 = Code.region _ _ _ from rfl, show regOf Tryd.f19 8 = Code.region _ _ _ from rfl, show regOf Tryd.f19 9 = Code.region _ _ _ from rfl, show regOf Tryd.f19 10 = Code.region _ _ _ from rfl, List.length_map, ct1, ct2, ct3, cn0, cn1, cnp, z1, z2, z3, z4, z5, z6, z7, z8, lp, hy, cat2, List.append_assoc, Bool.false_eq_true]
    all_goals exact ⟨_, rfl⟩
  obtain ⟨h, e⟩ := e
  rw [pcall_eq, e, pureRes_solid rfl]
end Go.Proofs.YtfloombnadnmaaaDoor
namespace Go.Proofs.YtfloombnadnmaaaDoor
open Go Go.Ab Go.Proofs
set_option maxRecDepth 100000
set_option linter.unusedSimpArgs false
set_option linter.unusedVariables false
/-- A reader's state; what is read in it; the state behind it. -/
abbrev St := List UInt8 × Bool
def uN (t : St) : St := uS t.1 t.2
def tN (t : St) : St := tS t.1 t.2
def uX (t : St) : BitVec 64 := uA t.1 t.2
def iX (t : St) : Int := zagN (uA t.1 t.2).toNat
def tX (t : St) : List UInt8 := tA t.1 t.2
theorem uN_len (t : St) : (uN t).1.length ≤ t.1.length := uS_len t.1 t.2
theorem tN_len (t : St) : (tN t).1.length ≤ t.1.length := tS_len t.1 t.2
section
variable {h : AHeap} {id : Nat} {t : St}
theorem aI (l : AHeap) (hr : hget h id = RO2 t) (hid : id < h.length) (hs : t.1.length < 2 ^ 62) : doCall md (aval Tryd.prog md fg) 44 [.ptr id 0] (h ++ l) = some (.int (iX t), h.set id (RO2 (uN t)) ++ l) := by
  rw [← sa_set l _ hid]
  exact rI_c (by rw [sa_id l hid]; exact hr) (by simp; omega) hs
theorem aU (l : AHeap) (hr : hget h id = RO2 t) (hid : id < h.length) (hs : t.1.length < 2 ^ 62) : doCall md (aval Tryd.prog md fg) 45 [.ptr id 0] (h ++ l) = some (v64 (uX t), h.set id (RO2 (uN t)) ++ l) := by
  rw [← sa_set l _ hid]
  exact rU_c (by rw [sa_id l hid]; exact hr) (by simp; omega) hs
theorem aT (l : AHeap) (hr : hget h id = RO2 t) (hid : id < h.length) (hs : t.1.length < 2 ^ 62) : doCall md (aval Tryd.prog md fg) 37 [.ptr id 0] (h ++ l) = some (.val (.string (txt (tX t))), h.set id (RO2 (tN t)) ++ l) := by
  rw [← sa_set l _ hid]
  exact rT_c (by rw [sa_id l hid]; exact hr) (by simp; omega) hs
end
/-- The same, of a memory that begins with some and the reader. -/
theorem bI (A : AObj) (t : St) (l : AHeap) (hs : t.1.length < 2 ^ 62) : doCall md (aval Tryd.prog md fg) 44 [.ptr 1 0] (A :: RO2 t :: l) = some (.int (iX t), A :: RO2 (uN t) :: l) := aI (h := [A, RO2 t]) (id := 1) l rfl (by simp) hs
theorem bU (A : AObj) (t : St) (l : AHeap) (hs : t.1.length < 2 ^ 62) : doCall md (aval Tryd.prog md fg) 45 [.ptr 1 0] (A :: RO2 t :: l) = some (v64 (uX t), A :: RO2 (uN t) :: l) := aU (h := [A, RO2 t]) (id := 1) l rfl (by simp) hs
theorem bT (A : AObj) (t : St) (l : AHeap) (hs : t.1.length < 2 ^ 62) : doCall md (aval Tryd.prog md fg) 37 [.ptr 1 0] (A :: RO2 t :: l) = some (.val (.string (txt (tX t))), A :: RO2 (tN t) :: l) := aT (h := [A, RO2 t]) (id := 1) l rfl (by simp) hs
/-- A pin that is read; some of them, until the reader is bad. -/
def pnN (t : St) : St := uN (uN (uN (tN t)))
def pnX (t : St) : Pn := ⟨tX t, iX (tN t), iX (uN (tN t)), iX (uN (uN (tN t)))⟩
def pR : Nat → St → List Pn × St
  | 0, t => ([], t)
  | n + 1, t => if t.2 then ([], t) else (pnX t :: (pR n (pnN t)).1, (pR n (pnN t)).2)
theorem pnN_len (t : St) : (pnN t).1.length ≤ t.1.length := Nat.le_trans (uN_len _) (Nat.le_trans (uN_len _) (Nat.le_trans (uN_len _) (tN_len t)))
/-- The pins, as they are appended one after another. -/
def PB (h : AHeap) (v : AV) (acc : List Pn) : Prop :=
  (v = .slc true [] ∧ acc = []) ∨ ∃ k g, k < h.length ∧ v = .arr k 0 acc.length g 4 ∧ hget h k = .arr 4 (acc.map pnV) g
theorem pb_app {h : AHeap} {v : AV} {acc : List Pn} (hp : PB h v acc) (x : Pn) (b : Nat) (z : AV) (hb : b ≤ 1000) (hn : acc.length ≤ 100000) :
    ∃ v' h', appT (some (4, b, z)) h v (some [pnV x]) = some (v', h') ∧ fits 1 v' = true ∧ v'.cells = [v'] ∧ PB h' v' (acc ++ [x]) ∧ h.length ≤ h'.length ∧ (∀ j cs, hget h j = .vars cs → hget h' j = .vars cs) := by
  have hbb : (acc.length + 1) * b ≤ 140737488355328 := Nat.le_trans (Nat.mul_le_mul (Nat.succ_le_succ hn) hb) (by decide)
  obtain ⟨rfl, rfl⟩ | ⟨k, g, hk, rfl, ho⟩ := hp
  · refine ⟨.arr h.length 0 (0 + 1) 0 4, h ++ [.arr 4 ([] ++ [pnV x]) 0], appT_slc _ _ _ _ _ rfl rfl (by simp) (by simpa using hbb), rfl, rfl, .inr ⟨h.length, 0, by simp, rfl, ?_⟩, by simp, fun j cs e => hget_push' e⟩
    rw [hget_last]; rfl
  · refine ⟨.arr k 0 (acc.length + 1) (g + 1) 4, h.set k (.arr 4 (acc.map pnV ++ [pnV x]) (g + 1)), appT_arr _ _ _ _ _ _ _ _ ho (by simp) rfl (by simpa using hbb), rfl, rfl, .inr ⟨k, g + 1, by simpa using hk, by simp, ?_⟩, by simp, fun j cs e => ?_⟩
    · rw [hget_set_eq hk]; simp
    · have hjk : k ≠ j := by rintro rfl; rw [ho] at e; cases e
      rw [hget_set_ne hjk]; exact e
theorem PB_set {h : AHeap} {v : AV} {acc : List Pn} {j : Nat} {cs : List AV} {o : AObj} (hp : PB h v acc) (ho : hget h j = .vars cs) : PB (h.set j o) v acc := by
  obtain h1 | ⟨k, g, hk, e, hg⟩ := hp
  · exact .inl h1
  · refine .inr ⟨k, g, by simpa using hk, e, ?_⟩
    have hjk : j ≠ k := by rintro rfl; rw [ho] at hg; cases hg
    rw [hget_set_ne hjk]; exact hg
theorem PB_push {h : AHeap} {v : AV} {acc : List Pn} {o : AObj} (hp : PB h v acc) : PB (h ++ [o]) v acc := by
  obtain h1 | ⟨k, g, hk, e, hg⟩ := hp
  · exact .inl h1
  · exact .inr ⟨k, g, by simp; omega, e, by rw [hget_push hk]; exact hg⟩
theorem bvi {i : Nat} (h : i ≤ 60000) : (BitVec.ofInt 64 (i : Int) + 1#64).toNat = i + 1 := by
  rw [BitVec.ofInt_natCast, BitVec.toNat_add, BitVec.toNat_ofNat]
  simp
  omega
structure Inv (e a g k : Int) (nm cn : ByteArray) (h : AHeap) (t : St) (acc : List Pn) (v : AV) : Prop where
  z : hget h 0 = .vars [.int 0, .int 0, .int 0, .int 0, .str ⟨#[]⟩, .str ⟨#[]⟩, .slc true [], .str ⟨#[]⟩, .bool false, .int 0, .int 0, .int 0, .int 0]
  r : hget h 1 = RO2 t
  w : hget h 2 = .vars [.ptr 1 0]
  a : hget h 3 = .vars [.int e, .int a, .int g, .int k, .str nm, .str cn, v, .str ⟨#[]⟩, .bool false, .int 0, .int 0, .int 0, .int 0]
  p : PB h v acc
  l : 3 < h.length
theorem aBad {h : AHeap} {t : St} (hr : hget h 1 = RO2 t) : doCall md (aval Tryd.prog md fg) 46 [.ptr 1 0] h = some (.val (.bool t.2), h) := rBad_c hr
theorem hget_sa {h : AHeap} {i j : Nat} {X o : AObj} (l : AHeap) (e : hget h j = o) (hj : j < h.length) (hij : i ≠ j) : hget (h.set i X ++ l) j = o := by
  rw [sa_id l (by simpa using hj), hget_set_ne hij]; exact e
set_option maxHeartbeats 8000000 in
theorem a_loop {e a g k : Int} {nm cn S : ByteArray} (N : Nat) (hN : N ≤ 60000) : ∀ (r i : Nat) (h : AHeap) (t : St) (acc : List Pn) (v : AV), i + r = N → acc.length ≤ i → t.1.length ≤ 60000 → Inv e a g k nm cn h t acc v → ∃ (i' : Int) (v' : AV) (h' : AHeap),
    lrun Tryd.prog md fg (fg 18) (loopOf Tryd.f18 0) (fg 18 1) (((.str S) :: .unk :: (.ptr 0 0) :: .unk :: (.ptr 2 0) :: (.ptr 3 0) :: .unk :: .unk :: .unk :: .unk :: .unk :: .unk :: .unk :: .unk :: .unk :: .unk :: .unk :: .unk :: .unk :: .unk :: .unk :: .unk :: .unk :: .unk :: .unk :: .unk :: .unk :: .unk :: .unk :: .unk :: .unk :: .unk :: .unk :: .unk :: .unk :: .unk :: .unk :: .unk :: (.val (.int .u64 N)) :: (.val (.int .u64 i)) :: .unk :: .unk :: .unk :: .unk :: .unk :: .unk :: .unk :: .unk :: .unk :: .unk :: .unk :: .unk :: .unk :: .unk :: .unk :: .unk :: .unk :: .unk :: .unk :: .unk :: .unk :: .unk :: .unk :: .unk :: .unk :: .unk :: .unk :: .unk :: .unk :: .unk :: .unk :: .unk :: .unk :: .unk :: .unk :: .unk :: .unk :: .unk :: .unk :: .unk :: .unk :: .unk :: .unk :: .unk :: .unk :: .unk :: .unk :: .unk :: .unk :: .unk :: .unk :: .unk :: .unk :: .unk :: .unk :: .unk :: .unk :: .unk :: .unk :: .unk :: .unk :: .unk :: .unk :: .unk :: .unk :: .unk :: .unk :: .unk :: .unk :: .unk :: [] : List AV)) h = some (.exit 0, ((.str S) :: .unk :: (.ptr 0 0) :: .unk :: (.ptr 2 0) :: (.ptr 3 0) :: .unk :: .unk :: .unk :: .unk :: .unk :: .unk :: .unk :: .unk :: .unk :: .unk :: .unk :: .unk :: .unk :: .unk :: .unk :: .unk :: .unk :: .unk :: .unk :: .unk :: .unk :: .unk :: .unk :: .unk :: .unk :: .unk :: .unk :: .unk :: .unk :: .unk :: .unk :: .unk :: (.val (.int .u64 N)) :: (.val (.int .u64 i')) :: .unk :: .unk :: .unk :: .unk :: .unk :: .unk :: .unk :: .unk :: .unk :: .unk :: .unk :: .unk :: .unk :: .unk :: .unk :: .unk :: .unk :: .unk :: .unk :: .unk :: .unk :: .unk :: .unk :: .unk :: .unk :: .unk :: .unk :: .unk :: .unk :: .unk :: .unk :: .unk :: .unk :: .unk :: .unk :: .unk :: .unk :: .unk :: .unk :: .unk :: .unk :: .unk :: .unk :: .unk :: .unk :: .unk :: .unk :: .unk :: .unk :: .unk :: .unk :: .unk :: .unk :: .unk :: .unk :: .unk :: .unk :: .unk :: .unk :: .unk :: .unk :: .unk :: .unk :: .unk :: .unk :: .unk :: .unk :: .unk :: .unk :: .unk :: [] : List AV), h') ∧ Inv e a g k nm cn h' (pR r t).2 (acc ++ (pR r t).1) v'
  | 0, i, h, t, acc, v, hi, ha, hl, I => by
    obtain rfl : i = N := by omega
    refine ⟨i, v, h, ?_, by rw [show (pR 0 t) = ([], t) from rfl, List.append_nil]; exact I⟩
    rw [lrun_atC loop18_0]
    simp (implicitDefEqProofs := false) (disch := omega) only [go_sem, Nat.reduceAdd, Nat.reduceSub, Nat.reduceMul, Nat.reduceLT, Nat.reduceLeDiff, Nat.reduceEqDiff, List.drop_zero, List.take_succ_cons, List.take_zero, List.drop_succ_cons, Bool.and_true, Bool.true_and, Bool.and_false, Bool.false_and, BitVec.reduceOfInt, Nat.zero_add, Nat.mul_one, Nat.add_zero, Int.zero_add, Int.reduceToNat, Nat.reducePow, ↓reduceIte, reduceCtorEq, Int.reduceLE, Int.reduceLT, Int.reduceEq, Int.reduceNe, Int.reduceAdd, Int.reduceSub, Int.reduceMul, Int.reduceNeg, Nat.reduceBEq, show regOf Tryd.f18 5 = Code.region _ _ _ from rfl]
  | r + 1, i, h, t, acc, v, hi, ha, hl, I => by
    have cb := aBad I.r
    cases hb : t.2 with
    | true =>
      refine ⟨i, v, h, ?_, by rw [show (pR (r + 1) t) = ([], t) by unfold pR; rw [hb]; rfl, List.append_nil]; exact I⟩
      rw [hb] at cb
      have w := I.w
      rw [lrun_atC loop18_0]
      simp (implicitDefEqProofs := false) (disch := omega) only [go_sem, Nat.reduceAdd, Nat.reduceSub, Nat.reduceMul, Nat.reduceLT, Nat.reduceLeDiff, Nat.reduceEqDiff, List.drop_zero, List.take_succ_cons, List.take_zero, List.drop_succ_cons, Bool.and_true, Bool.true_and, Bool.and_false, Bool.false_and, BitVec.reduceOfInt, Nat.zero_add, Nat.mul_one, Nat.add_zero, Int.zero_add, Int.reduceToNat, Nat.reducePow, ↓reduceIte, reduceCtorEq, Int.reduceLE, Int.reduceLT, Int.reduceEq, Int.reduceNe, Int.reduceAdd, Int.reduceSub, Int.reduceMul, Int.reduceNeg, Nat.reduceBEq, show regOf Tryd.f18 5 = Code.region _ _ _ from rfl, show regOf Tryd.f18 6 = Code.region _ _ _ from rfl, w, cb]
    | false =>
      rw [hb] at cb
      have ep : pR (r + 1) t = (pnX t :: (pR r (pnN t)).1, (pR r (pnN t)).2) := by rw [pR, hb]; rfl
      rw [ep]
      have hid : 1 < h.length := by have := I.l; omega
      have k1 := tN_len t
      have k2 := uN_len (tN t)
      have k3 := uN_len (uN (tN t))
      have E : ∀ X : AObj, hget (h.set 1 X) 1 = X := fun X => hget_set_eq hid
      have L : ∀ X : AObj, (h.set 1 X).length = h.length := fun X => by simp
      have cT := aT [] I.r hid (by omega)
      have n1 := fun l => aI (h := h.set 1 (RO2 (tN t))) l (E _) (by rw [L]; exact hid) (by omega)
      have n2 := fun l => aI (h := h.set 1 (RO2 (uN (tN t)))) l (E _) (by rw [L]; exact hid) (by omega)
      have n3 := fun l => aI (h := h.set 1 (RO2 (uN (uN (tN t))))) l (E _) (by rw [L]; exact hid) (by omega)
      rw [List.set_set] at n1 n2 n3
      rw [List.append_nil, List.append_nil] at cT
      have g2 : ∀ (X : AObj) (l : AHeap), hget (h.set 1 X ++ l) 2 = .vars [.ptr 1 0] := fun X l => hget_sa l I.w (by have := I.l; omega) (by decide)
      have g3 : ∀ (X : AObj) (l : AHeap), hget (h.set 1 X ++ l) 3 = .vars [.int e, .int a, .int g, .int k, .str nm, .str cn, v, .str ⟨#[]⟩, .bool false, .int 0, .int 0, .int 0, .int 0] := fun X l => hget_sa l I.a I.l (by decide)
      have g0 : ∀ (X : AObj) (l : AHeap), hget (h.set 1 X ++ l) 0 = .vars [.int 0, .int 0, .int 0, .int 0, .str ⟨#[]⟩, .str ⟨#[]⟩, .slc true [], .str ⟨#[]⟩, .bool false, .int 0, .int 0, .int 0, .int 0] := fun X l => hget_sa l I.z (by have := I.l; omega) (by decide)
      have g1 : ∀ (X : AObj) (l : AHeap), hget (h.set 1 X ++ l) 1 = X := fun X l => by rw [sa_id l (by rw [L]; exact hid)]; exact E X
      have pb : PB (h.set 1 (RO2 (pnN t)) ++ [.vars [.str (txt (tX t)), .int (iX (tN t)), .int (iX (uN (tN t))), .int (iX (uN (uN (tN t))))]]) v acc := PB_push (PB_set I.p I.r)
      obtain ⟨v', h5, e5, f5, c5, p5, l5, s5⟩ := pb_app pb (pnX t) 40 (.agg [.str ⟨#[]⟩, .int 0, .int 0, .int 0]) (by omega) (by omega)
      have I' : Inv e a g k nm cn (h5.set 3 (.vars [.int e, .int a, .int g, .int k, .str nm, .str cn, v', .str ⟨#[]⟩, .bool false, .int 0, .int 0, .int 0, .int 0])) (pnN t) (acc ++ [pnX t]) v' := by
        have l3 : 3 < h5.length := by have := I.l; simp only [List.length_append, List.length_set, List.length_cons] at l5; omega
        refine ⟨?_, ?_, ?_, hget_set_eq l3, PB_set p5 (s5 3 _ (g3 _ _)), by simpa using l3⟩
        · rw [hget_set_ne (by decide)]; exact s5 0 _ (g0 _ _)
        · rw [hget_set_ne (by decide)]; exact s5 1 _ (g1 _ _)
        · rw [hget_set_ne (by decide)]; exact s5 2 _ (g2 _ _)
      have h53 := s5 3 _ (g3 _ _)
      obtain ⟨i', v2, h2, q1, q2⟩ := a_loop (e := e) (a := a) (g := g) (k := k) (nm := nm) (cn := cn) (S := S) N hN r (i + 1) _ _ _ _ (by omega) (by simp; omega) (Nat.le_trans (pnN_len t) hl) I'
      refine ⟨i', v2, h2, ?_, by rw [List.append_assoc] at q2; exact q2⟩
      rw [← q1]
      unfold pnX at e5
      change ∀ l, _ = some (_, h.set 1 (RO2 (pnN t)) ++ l) at n3
      generalize (RO2 (pnN t)) = R4 at *
      generalize (RO2 (uN (uN (tN t)))) = R3 at *
      generalize (RO2 (uN (tN t))) = R2 at *
      generalize (RO2 (tN t)) = R1 at *
      have w := I.w
      have hiv := bvi (i := i) (by omega)
      rw [lrun_atC loop18_0]
      simp (implicitDefEqProofs := false) (maxSteps := 6000000) (disch := first | omega | exact List.length_set) only [go_sem, Nat.reduceAdd, Nat.reduceSub, Nat.reduceMul, Nat.reduceLT, Nat.reduceLeDiff, Nat.reduceEqDiff, List.drop_zero, List.take_succ_cons, List.take_zero, List.drop_succ_cons, Bool.and_true, Bool.true_and, Bool.and_false, Bool.false_and, BitVec.reduceOfInt, Nat.zero_add, Nat.mul_one, Nat.add_zero, Int.zero_add, Int.reduceToNat, Nat.reducePow, ↓reduceIte, reduceCtorEq, Int.reduceLE, Int.reduceLT, Int.reduceEq, Int.reduceNe, Int.reduceAdd, Int.reduceSub, Int.reduceMul, Int.reduceNeg, Nat.reduceBEq, show regOf Tryd.f18 5 = Code.region _ _ _ from rfl, show regOf Tryd.f18 6 = Code.region _ _ _ from rfl, show regOf Tryd.f18 7 = Code.region _ _ _ from rfl, w, cb, cT, List.length_set, sb_get0, sb_set0]
      simp (implicitDefEqProofs := false) (maxSteps := 6000000) (disch := first | omega | exact List.length_set) only [go_sem, Nat.reduceAdd, Nat.reduceSub, Nat.reduceMul, Nat.reduceLT, Nat.reduceLeDiff, Nat.reduceEqDiff, List.drop_zero, List.take_succ_cons, List.take_zero, List.drop_succ_cons, Bool.and_true, Bool.true_and, Bool.and_false, Bool.false_and, BitVec.reduceOfInt, Nat.zero_add, Nat.mul_one, Nat.add_zero, Int.zero_add, Int.reduceToNat, Nat.reducePow, ↓reduceIte, reduceCtorEq, Int.reduceLE, Int.reduceLT, Int.reduceEq, Int.reduceNe, Int.reduceAdd, Int.reduceSub, Int.reduceMul, Int.reduceNeg, Nat.reduceBEq, show regOf Tryd.f18 8 = Code.region _ _ _ from rfl, ↓tail_nil, ↓subs_nil_all, ↓List.forall_mem_cons, ↓all_nil, md44, Bool.true_or, List.append_assoc, List.cons_append, List.nil_append, List.length_append, List.length_cons, List.length_nil, List.length_set, sb_get0, sb_set0, n1, n2, n3, g2]
      simp (implicitDefEqProofs := false) (maxSteps := 6000000) (disch := first | omega | exact List.length_set) only [go_sem, Nat.reduceAdd, Nat.reduceSub, Nat.reduceMul, Nat.reduceLT, Nat.reduceLeDiff, Nat.reduceEqDiff, List.drop_zero, List.take_succ_cons, List.take_zero, List.drop_succ_cons, Bool.and_true, Bool.true_and, Bool.and_false, Bool.false_and, BitVec.reduceOfInt, Nat.zero_add, Nat.mul_one, Nat.add_zero, Int.zero_add, Int.reduceToNat, Nat.reducePow, ↓reduceIte, reduceCtorEq, Int.reduceLE, Int.reduceLT, Int.reduceEq, Int.reduceNe, Int.reduceAdd, Int.reduceSub, Int.reduceMul, Int.reduceNeg, Nat.reduceBEq, show regOf Tryd.f18 9 = Code.region _ _ _ from rfl, show regOf Tryd.f18 10 = Code.region _ _ _ from rfl, List.length_set, sb_get0, sb_set0, g3, e5, f5, c5, h53]
      all_goals (congr 1 <;> simp only [List.cons.injEq, AV.val.injEq, Value.int.injEq, Value.bool.injEq, true_and, and_true] <;> omega)
end Go.Proofs.YtfloombnadnmaaaDoor
