/- Parts of the proof, each with its own heading: Answers: what is read has just these bytes. Answers: Answer. Answers: Answer, by the program. Answers: reading as the document says, the pins. Answers: Answer as the document says. Answers: an answer is the same as itself. CommandReads is true of every input. Answers: what was told is read back; CommandAnswers is true of every input. CommandAnswers is true of every input. Answers as arguments, as abstract values. -/
import Derived.Test.YtfloombnadnmaaaDoorPart12
set_option linter.unusedSimpArgs false
set_option linter.unusedVariables false
namespace Go.Proofs.YtfloombnadnmaaaDoor
open Go Go.Ab Go.Proofs
set_option maxRecDepth 100000
set_option linter.unusedSimpArgs false
set_option linter.unusedVariables false
def u4 (t : St) : St := uN (uN (uN (uN t)))
/-- The states while an answer is read. -/
def a4 (s : List UInt8) : St := u4 (s, false)
def a6 (s : List UInt8) : St := tN (tN (a4 s))
def a7 (s : List UInt8) : St := uN (a6 s)
def nn (s : List UInt8) : Nat := (uX (a6 s)).toNat
def a8 (s : List UInt8) : St := (pR (nn s) (a7 s)).2
def a9 (s : List UInt8) : St := tN (a8 s)
def a10 (s : List UInt8) : St := uN (a9 s)
def a14 (s : List UInt8) : St := u4 (a10 s)
def yk (s : List UInt8) : BitVec 64 := uX (a9 s)
def ansOf (s : List UInt8) : Ans :=
  { err := iX (s, false), at' := iX (uN (s, false)), gap := iX (uN (uN (s, false))), kind := iX (uN (uN (uN (s, false)))), name := tX (a4 s), con := tX (tN (a4 s)), pins := (pR (nn s) (a7 s)).1, text := tX (a8 s), y := decide ((yk s).toNat = 1),
    r1 := iX (a10 s), r2 := iX (uN (a10 s)), r3 := iX (uN (uN (a10 s))), r4 := iX (uN (uN (uN (a10 s)))) }
def ansOk (s : List UInt8) : Bool := (!(a14 s).2 && (a14 s).1.isEmpty) && decide ((yk s).toNat ≤ 1)
theorem iX_range (t : St) : I64 (iX t) := zagN_range (by omega) (by have := (uA t.1 t.2).isLt; omega)
theorem zg_iX (t : St) : zg (iX t) = uvarN (uX t).toNat := by
  unfold zg iX uX
  rw [zig_zag (by omega), Int.toNat_natCast]
theorem i_ok {t : St} (h : (uN t).2 = false) : t.2 = false ∧ zg (iX t) ++ (uN t).1 = t.1 := by
  rw [zg_iX]; exact uS_ok h
theorem n_ok {t : St} (h : (uN t).2 = false) : t.2 = false ∧ num ((uX t).toNat : Int) ++ (uN t).1 = t.1 := uS_ok h
theorem t_ok {t : St} (h : (tN t).2 = false) : t.2 = false ∧ textL (tX t) ++ (tN t).1 = t.1 := tS_ok h
theorem u4_ok {t : St} (h : (u4 t).2 = false) : t.2 = false ∧ zgs [iX t, iX (uN t), iX (uN (uN t)), iX (uN (uN (uN t)))] ++ (u4 t).1 = t.1 := by
  obtain ⟨h3, e3⟩ := i_ok (t := uN (uN (uN t))) h
  obtain ⟨h2, e2⟩ := i_ok h3
  obtain ⟨h1, e1⟩ := i_ok h2
  obtain ⟨h0, e0⟩ := i_ok h1
  refine ⟨h0, ?_⟩
  simp only [zgs, List.append_nil, List.append_assoc]
  unfold u4
  rw [e3, e2, e1, e0]
theorem pn_ok {t : St} (h : (pnN t).2 = false) : t.2 = false ∧ (textL (pnX t).p ++ zgs [(pnX t).a, (pnX t).b, (pnX t).c]) ++ (pnN t).1 = t.1 := by
  obtain ⟨h3, e3⟩ := i_ok (t := uN (uN (tN t))) h
  obtain ⟨h2, e2⟩ := i_ok h3
  obtain ⟨h1, e1⟩ := i_ok h2
  obtain ⟨h0, e0⟩ := t_ok h1
  refine ⟨h0, ?_⟩
  unfold pnX
  simp only [zgs, List.append_nil, List.append_assoc]
  unfold pnN
  rw [e3, e2, e1, e0]
theorem pR_ok : ∀ (n : Nat) {t : St}, (pR n t).2.2 = false → t.2 = false ∧ pinsL (pR n t).1 ++ (pR n t).2.1 = t.1 ∧ (pR n t).1.length = n
  | 0, t, h => ⟨h, rfl, rfl⟩
  | n + 1, t, h => by
    unfold pR at h ⊢
    by_cases hb : t.2 = true
    · rw [if_pos hb] at h; rw [hb] at h; cases h
    · rw [if_neg hb] at h ⊢
      obtain ⟨h1, e1, l1⟩ := pR_ok n h
      obtain ⟨h0, e0⟩ := pn_ok h1
      refine ⟨h0, ?_, by simp [l1]⟩
      show ((textL (pnX t).p ++ zgs [(pnX t).a, (pnX t).b, (pnX t).c]) ++ pinsL (pR n (pnN t)).1) ++ (pR n (pnN t)).2.1 = t.1
      rw [List.append_assoc, e1, e0]
theorem pnN_lt {t : St} (h : (pnN t).2 = false) : (pnN t).1.length < t.1.length := by
  obtain ⟨_, e⟩ := pn_ok h
  have e2 := congrArg List.length e
  simp only [List.length_append] at e2
  have : 0 < (textL (pnX t).p).length := by unfold textL; rw [List.length_append]; have := uvarN_pos (pnX t).p.length; omega
  omega
theorem pR_bad {n : Nat} {t : St} (h : t.2 = true) : pR n t = ([], t) := by
  cases n with
  | zero => rfl
  | succ n => unfold pR; rw [if_pos h]
theorem pR_enough : ∀ (k : Nat) {k' : Nat} {t : St}, t.1.length < k → k ≤ k' → pR k t = pR k' t
  | 0, k', t, h, _ => by omega
  | k + 1, k', t, h, h' => by
    cases k' with
    | zero => omega
    | succ k' =>
      cases hb : t.2 with
      | true => rw [pR_bad hb, pR_bad hb]
      | false =>
        have e : pR k (pnN t) = pR k' (pnN t) := by
          cases hc : (pnN t).2 with
          | true => rw [pR_bad hc, pR_bad hc]
          | false =>
            have := pnN_lt hc
            exact pR_enough k (by omega) (by omega)
        unfold pR
        rw [hb, e]
theorem ansOk_parts {s : List UInt8} (h : ansOk s = true) : (a14 s).2 = false ∧ (a14 s).1 = [] ∧ (yk s).toNat ≤ 1 := by
  unfold ansOk at h
  simp only [Bool.and_eq_true, Bool.not_eq_true', List.isEmpty_iff, decide_eq_true_eq] at h
  exact ⟨h.1.1, h.1.2, h.2⟩
/-- An answer that is read has these bytes. -/
theorem ans_told {s : List UInt8} (h : ansOk s = true) : toldL (ansOf s) = s ∧ (ansOf s).pins.length = nn s := by
  obtain ⟨h14, e14, hy⟩ := ansOk_parts h
  obtain ⟨h10, e10⟩ := u4_ok (t := a10 s) h14
  obtain ⟨h9, e9⟩ := n_ok (t := a9 s) h10
  obtain ⟨h8, e8⟩ := t_ok (t := a8 s) h9
  obtain ⟨h7, e7, l7⟩ := pR_ok (nn s) (t := a7 s) h8
  obtain ⟨h6, e6⟩ := n_ok (t := a6 s) h7
  obtain ⟨h5, e5⟩ := t_ok (t := tN (a4 s)) h6
  obtain ⟨h4, e4⟩ := t_ok (t := a4 s) h5
  obtain ⟨h0, e0⟩ := u4_ok (t := (s, false)) h4
  have hyk : (if decide ((yk s).toNat = 1) = true then (1 : Int) else 0) = ((yk s).toNat : Int) := by
    by_cases h1 : (yk s).toNat = 1
    · rw [if_pos (by simpa using h1), h1]; rfl
    · rw [if_neg (by simpa using h1)]; omega
  refine ⟨?_, l7⟩
  have f10 : zgs [iX (a10 s), iX (uN (a10 s)), iX (uN (uN (a10 s))), iX (uN (uN (uN (a10 s))))] = (a10 s).1 := by
    have : (u4 (a10 s)).1 = [] := e14
    rw [this, List.append_nil] at e10; exact e10
  unfold toldL ansOf
  dsimp only
  rw [hyk, f10, l7]
  change num ((yk s).toNat : Int) ++ (a10 s).1 = _ at e9
  rw [e9]
  change textL (tX (a8 s)) ++ (a9 s).1 = _ at e8
  rw [e8]
  change pinsL (pR (nn s) (a7 s)).1 ++ (a8 s).1 = _ at e7
  rw [e7]
  change num (nn s : Int) ++ (a7 s).1 = _ at e6
  rw [e6]
  simp only [txs, List.append_nil, List.append_assoc]
  change textL (tX (tN (a4 s))) ++ (a6 s).1 = _ at e5
  rw [e5, e4]
  exact e0
theorem pinsL_len : ∀ l : List Pn, l.length ≤ (pinsL l).length
  | [] => by simp
  | x :: r => by
    have := pinsL_len r
    have h0 : 0 < (textL x.p).length := by unfold textL; rw [List.length_append]; have := uvarN_pos x.p.length; omega
    simp only [pinsL, List.length_append, List.length_cons]; omega
theorem pinsL_mem : ∀ {l : List Pn} {x : Pn}, x ∈ l → x.p.length ≤ (pinsL l).length
  | y :: r, x, h => by
    have hy : y.p.length ≤ (textL y.p).length := by unfold textL; rw [List.length_append]; omega
    simp only [pinsL, List.length_append]
    rcases List.mem_cons.1 h with rfl | h
    · omega
    · have := pinsL_mem h; omega
theorem pR_range : ∀ (n : Nat) (t : St), ∀ x ∈ (pR n t).1, I64 x.a ∧ I64 x.b ∧ I64 x.c
  | 0, t, x, h => by cases h
  | n + 1, t, x, h => by
    unfold pR at h
    split at h
    · cases h
    · rcases List.mem_cons.1 h with rfl | h
      · exact ⟨iX_range _, iX_range _, iX_range _⟩
      · exact pR_range n _ x h
theorem txt_le (t : List UInt8) : t.length ≤ (textL t).length := by unfold textL; rw [List.length_append]; omega
theorem ans_ok {s : List UInt8} (hs : s.length ≤ 4000) (h : ansOk s = true) : (ansOf s).ok := by
  obtain ⟨e, l⟩ := ans_told h
  have hl := congrArg List.length e
  unfold toldL at hl
  simp only [txs, List.append_nil, List.length_append] at hl
  have n1 := txt_le (ansOf s).name
  have n2 := txt_le (ansOf s).con
  have n3 := txt_le (ansOf s).text
  have n4 := pinsL_len (ansOf s).pins
  refine ⟨⟨iX_range _, iX_range _, iX_range _, iX_range _⟩, ⟨iX_range _, iX_range _, iX_range _, iX_range _⟩, by omega, by omega, by omega, ?_, fun x hx => ⟨?_, pR_range _ _ x hx⟩, by omega⟩
  · have h4 : 4 * (ansOf s).pins.length ≤ (pinsL (ansOf s).pins).length := by
      have : ∀ l : List Pn, 4 * l.length ≤ (pinsL l).length := by
        intro l
        induction l with
        | nil => simp
        | cons x r ih =>
          have h0 : 0 < (textL x.p).length := by unfold textL; rw [List.length_append]; have := uvarN_pos x.p.length; omega
          have h1 : 0 < (zg x.a).length := uvarN_pos _
          have h2 : 0 < (zg x.b).length := uvarN_pos _
          have h3 : 0 < (zg x.c).length := uvarN_pos _
          simp only [pinsL, zgs, List.append_nil, List.length_append, List.length_cons]; omega
      exact this _
    omega
  · have := pinsL_mem hx; omega
end Go.Proofs.YtfloombnadnmaaaDoor
namespace Go.Proofs.YtfloombnadnmaaaDoor
open Go Go.Ab Go.Proofs
set_option maxRecDepth 100000
set_option linter.unusedSimpArgs false
set_option linter.unusedVariables false
/-- A memory whose reader and whose answer are such. -/
def HH (h : AHeap) (X Y : AObj) : AHeap := (h.set 1 X).set 3 Y
section
variable {h : AHeap}
theorem HH_set1 (X Y X' : AObj) : (HH h X Y).set 1 X' = HH h X' Y := by
  unfold HH; rw [List.set_comm _ _ (by decide), List.set_set]
theorem HH_set3 (X Y Y' : AObj) : (HH h X Y).set 3 Y' = HH h X Y' := by
  unfold HH; rw [List.set_set]
theorem HH_len (X Y : AObj) : List.length (HH h X Y) = List.length h := by unfold HH; simp
theorem HH_get1 (X Y : AObj) (hl : 3 < h.length) : hget (HH h X Y) 1 = X := by
  unfold HH; rw [hget_set_ne (by decide), hget_set_eq (by omega)]
theorem HH_get3 (X Y : AObj) (hl : 3 < h.length) : hget (HH h X Y) 3 = Y := by
  unfold HH; rw [hget_set_eq (by simpa using hl)]
theorem HH_get (X Y : AObj) {j : Nat} (h1 : 1 ≠ j) (h3 : 3 ≠ j) : hget (HH h X Y) j = hget h j := by
  unfold HH; rw [hget_set_ne h3, hget_set_ne h1]
theorem HH_self {X Y : AObj} (e1 : hget h 1 = X) (e3 : hget h 3 = Y) (hl : 3 < h.length) : h = HH h X Y := by
  unfold HH
  rw [set_same e1 (by omega), set_same e3 hl]
end
theorem pb_exp {h : AHeap} {v : AV} {acc : List Pn} (hp : PB h v acc) (d : Nat) : solid v = false ∧ ∃ ids, exp1 h (d + 1) v = some (.slc false (acc.map pnV), ids) ∧ canFrz h ids = true := by
  have hs : ∀ l : List Pn, solidL (l.map pnV) = true := fun l => by
    induction l with
    | nil => rfl
    | cons x r ih => simp only [List.map_cons, solidL, Bool.and_eq_true]; exact ⟨rfl, ih⟩
  obtain ⟨rfl, rfl⟩ | ⟨k, g, hk, rfl, ho⟩ := hp
  · exact ⟨rfl, [], rfl, rfl⟩
  · refine ⟨rfl, [k], ?_, by simp [canFrz, ho]⟩
    have hv : sview h (.arr k 0 acc.length g 4) = some (acc.map pnV) := sview_arr _ _ _ _ _ ho (by simp)
    simp only [exp1, hv, expL_solid (hs acc)]
    rfl
theorem exp_ans {h : AHeap} {v : AV} {acc : List Pn} (hp : PB h v acc) (d : Nat) (a0 a1 a2 a3 a4 a5 a7 a8 a9 b0 b1 b2 : Value) :
    ∃ ids, exp1 h (d + 2) (.agg [.val a0, .val a1, .val a2, .val a3, .val a4, .val a5, v, .val a7, .val a8, .val a9, .val b0, .val b1, .val b2]) = some (.agg [.val a0, .val a1, .val a2, .val a3, .val a4, .val a5, .slc false (acc.map pnV), .val a7, .val a8, .val a9, .val b0, .val b1, .val b2], ids) ∧ canFrz h ids = true := by
  obtain ⟨hn, ids, e, hc⟩ := pb_exp hp d
  refine ⟨ids, ?_, hc⟩
  have hv : ∀ a : Value, exp1 h (d + 1) (.val a) = some (.val a, []) := fun a => rfl
  rw [exp1]
  simp only [solid, solidL, hn, Bool.false_and, Bool.and_false, Bool.true_and, if_false, Bool.false_eq_true, expL, hv, e, List.nil_append, List.append_nil, Option.map_some]
theorem pure_ans {h : AHeap} {v : AV} {acc : List Pn} (hp : PB h v acc) (a0 a1 a2 a3 a4 a5 a7 a8 a9 b0 b1 b2 er : Value) :
    pureRes (some (.tup [.agg [.val a0, .val a1, .val a2, .val a3, .val a4, .val a5, v, .val a7, .val a8, .val a9, .val b0, .val b1, .val b2], .val er], h)) = some (.tup [.agg [.val a0, .val a1, .val a2, .val a3, .val a4, .val a5, .slc false (acc.map pnV), .val a7, .val a8, .val a9, .val b0, .val b1, .val b2], .val er]) := by
  obtain ⟨ids, e, hc⟩ := exp_ans hp 57 a0 a1 a2 a3 a4 a5 a7 a8 a9 b0 b1 b2
  obtain ⟨hn, _⟩ := pb_exp hp 57
  have hv : ∀ a : Value, exp1 h 59 (.val a) = some (.val a, []) := fun a => rfl
  have e2 : exp1 h expDepth (.tup [.agg [.val a0, .val a1, .val a2, .val a3, .val a4, .val a5, v, .val a7, .val a8, .val a9, .val b0, .val b1, .val b2], .val er]) = some (.tup [.agg [.val a0, .val a1, .val a2, .val a3, .val a4, .val a5, .slc false (acc.map pnV), .val a7, .val a8, .val a9, .val b0, .val b1, .val b2], .val er], ids) := by
    show exp1 h (59 + 1) _ = _
    rw [exp1]
    simp only [solid, solidL, hn, Bool.false_and, Bool.and_false, Bool.true_and, if_false, Bool.false_eq_true, expL, hv, e, List.nil_append, List.append_nil, Option.map_some]
  unfold pureRes
  dsimp only
  rw [e2]
  dsimp only
  rw [if_pos hc]
/-- The answer that bytes are. -/
def zeroA : AV := .agg [.int 0, .int 0, .int 0, .int 0, .str ⟨#[]⟩, .str ⟨#[]⟩, .slc false [], .str ⟨#[]⟩, .bool false, .int 0, .int 0, .int 0, .int 0]
def ansR (s : List UInt8) : AV := if ansOk s then .tup [ansV false (ansOf s), .int 0] else .tup [zeroA, .int 8]
theorem told_look (m : Ans) (hm : m.ok) {h : AHeap} {v : AV} (hp : PB h v m.pins) : doCall md (aval Tryd.prog md fg) 17 [.agg [.int m.err, .int m.at', .int m.gap, .int m.kind, .str (txt m.name), .str (txt m.con), v, .str (txt m.text), .bool m.y, .int m.r1, .int m.r2, .int m.r3, .int m.r4]] h = some (.val (.string (txt (toldL m))), h) := by
  obtain ⟨ids, e, hc⟩ := exp_ans hp 58 (.int .i64 m.err) (.int .i64 m.at') (.int .i64 m.gap) (.int .i64 m.kind) (.string (txt m.name)) (.string (txt m.con)) (.string (txt m.text)) (.bool m.y) (.int .i64 m.r1) (.int .i64 m.r2) (.int .i64 m.r3) (.int .i64 m.r4)
  refine doCall_look md17 (as' := [ansV false m]) (ids := ids) ?_ hc (told_p false m hm) rfl
  show expL (exp1 h (58 + 2)) _ = _
  simp only [expL, e, List.append_nil]
end Go.Proofs.YtfloombnadnmaaaDoor
namespace Go.Proofs.YtfloombnadnmaaaDoor
open Go Go.Ab Go.Proofs
set_option maxRecDepth 100000
set_option linter.unusedSimpArgs false
set_option linter.unusedVariables false
theorem bT' (A : AObj) (t : St) (B C : AObj) (hs : t.1.length < 2 ^ 62) : doCall md (aval Tryd.prog md fg) 37 [.ptr 1 0] [A, RO2 t, B, C] = some (.val (.string (txt (tX t))), [A, RO2 (tN t), B, C]) := bT A t [B, C] hs
set_option maxHeartbeats 32000000 in
theorem answer_p {s : List UInt8} (hs : s.length ≤ 60000) (ho : ansOk s = true → (ansOf s).ok) : pcall Tryd.prog md fg 18 [.str (txt s)] = some (ansR s) := by
  have e : ∃ (h : AHeap) (v : AV) (a0 a1 a2 a3 a4 a5 a7 a8 a9 b0 b1 b2 er : Value) (acc : List Pn), aval Tryd.prog md fg 18 [.str (txt s)] [] = some (.tup [.agg [.val a0, .val a1, .val a2, .val a3, .val a4, .val a5, v, .val a7, .val a8, .val a9, .val b0, .val b1, .val b2], .val er], h) ∧ PB h v acc ∧
      ansR s = .tup [.agg [.val a0, .val a1, .val a2, .val a3, .val a4, .val a5, .slc false (acc.map pnV), .val a7, .val a8, .val a9, .val b0, .val b1, .val b2], .val er] := by
    have cn : ∀ h : AHeap, doCall md (aval Tryd.prog md fg) 34 [.str (txt s)] h = some (.ptr h.length 0, h ++ [RO2 (s, false)]) := fun h => doCall_keep (by decide) (by decide) (by decide) (newReader (txt s) h) (by simp [below])
    have hsz := txt_size s
    have hw : ansOk s = true → toldL (ansOf s) = s := fun h => (ans_told h).1
    have l0 : ((s, false) : St).1.length ≤ 60000 := hs
    have l1 : (uN (s, false)).1.length ≤ s.length := uN_len (s, false)
    have l2 := uN_len (uN (s, false))
    have l3 := uN_len (uN (uN (s, false)))
    have l4 : (a4 s).1.length ≤ (uN (uN (uN (s, false)))).1.length := uN_len (uN (uN (uN (s, false))))
    have l5 := tN_len (a4 s)
    have l6 : (a6 s).1.length ≤ (tN (a4 s)).1.length := tN_len (tN (a4 s))
    have l7 : (a7 s).1.length ≤ (a6 s).1.length := uN_len (a6 s)
    obtain ⟨i', v, h', eL, I⟩ := a_loop (e := iX (s, false)) (a := iX (uN (s, false))) (g := iX (uN (uN (s, false)))) (k := iX (uN (uN (uN (s, false))))) (nm := txt (tX (a4 s))) (cn := txt (tX (tN (a4 s)))) (S := txt s) (min (nn s) s.length) (by omega) (min (nn s) s.length) 0
      [.vars [.int 0, .int 0, .int 0, .int 0, .str ⟨#[]⟩, .str ⟨#[]⟩, .slc true [], .str ⟨#[]⟩, .bool false, .int 0, .int 0, .int 0, .int 0], RO2 (a7 s), .vars [.ptr 1 0],
        .vars [.int (iX (s, false)), .int (iX (uN (s, false))), .int (iX (uN (uN (s, false)))), .int (iX (uN (uN (uN (s, false))))), .str (txt (tX (a4 s))), .str (txt (tX (tN (a4 s)))), .slc true [], .str ⟨#[]⟩, .bool false, .int 0, .int 0, .int 0, .int 0]]
      (a7 s) [] (.slc true []) (by omega) (by simp) (by omega) ⟨rfl, rfl, rfl, rfl, .inl ⟨rfl, rfl⟩, by simp⟩
    have hp : pR (min (nn s) s.length) (a7 s) = pR (nn s) (a7 s) := by
      cases hb : (a7 s).2 with
      | true => rw [pR_bad hb, pR_bad hb]
      | false =>
        by_cases hc : nn s ≤ s.length
        · rw [Nat.min_eq_left hc]
        · rw [Nat.min_eq_right (by omega)]
          refine pR_enough _ ?_ (by omega)
          obtain ⟨h6, e6⟩ := n_ok (t := a6 s) hb
          have e7 := congrArg List.length e6
          simp only [List.length_append] at e7
          have : 0 < (num ((uX (a6 s)).toNat : Int)).length := uvarN_pos _
          have : (uN (a6 s)).1.length = (a7 s).1.length := rfl
          omega
    rw [hp, List.nil_append] at I
    change Inv _ _ _ _ _ _ h' (a8 s) (ansOf s).pins v at I
    have l8 : (a8 s).1.length ≤ (a7 s).1.length := by
      have : ∀ (n : Nat) (t : St), (pR n t).2.1.length ≤ t.1.length := by
        intro n
        induction n with
        | zero => intro t; exact Nat.le_refl _
        | succ n ih =>
          intro t
          unfold pR
          split
          · exact Nat.le_refl _
          · exact Nat.le_trans (ih _) (pnN_len t)
      exact this _ _
    have l9 : (a9 s).1.length ≤ (a8 s).1.length := tN_len (a8 s)
    have l10 : (a10 s).1.length ≤ (a9 s).1.length := uN_len (a9 s)
    have l11 := uN_len (a10 s)
    have l12 := uN_len (uN (a10 s))
    have l13 := uN_len (uN (uN (a10 s)))
    have il := I.l
    have hH := HH_self I.r I.a il
    have ip := I.p
    have iz := I.z
    have iw := I.w
    have cI : ∀ (t : St) (Y : AObj), t.1.length ≤ 60000 → doCall md (aval Tryd.prog md fg) 44 [.ptr 1 0] (HH h' (RO2 t) Y) = some (.int (iX t), HH h' (RO2 (uN t)) Y) := fun t Y ht => by
      have := aI (h := HH h' (RO2 t) Y) (id := 1) [] (HH_get1 _ _ il) (by rw [HH_len]; omega) (by omega)
      rw [List.append_nil, List.append_nil, HH_set1] at this; exact this
    have cU : ∀ (t : St) (Y : AObj), t.1.length ≤ 60000 → doCall md (aval Tryd.prog md fg) 45 [.ptr 1 0] (HH h' (RO2 t) Y) = some (v64 (uX t), HH h' (RO2 (uN t)) Y) := fun t Y ht => by
      have := aU (h := HH h' (RO2 t) Y) (id := 1) [] (HH_get1 _ _ il) (by rw [HH_len]; omega) (by omega)
      rw [List.append_nil, List.append_nil, HH_set1] at this; exact this
    have cT : ∀ (t : St) (Y : AObj), t.1.length ≤ 60000 → doCall md (aval Tryd.prog md fg) 37 [.ptr 1 0] (HH h' (RO2 t) Y) = some (.val (.string (txt (tX t))), HH h' (RO2 (tN t)) Y) := fun t Y ht => by
      have := aT (h := HH h' (RO2 t) Y) (id := 1) [] (HH_get1 _ _ il) (by rw [HH_len]; omega) (by omega)
      rw [List.append_nil, List.append_nil, HH_set1] at this; exact this
    have cD : ∀ (t : St) (Y : AObj), doCall md (aval Tryd.prog md fg) 38 [.ptr 1 0] (HH h' (RO2 t) Y) = some (.val (.bool (!t.2 && t.1.isEmpty)), HH h' (RO2 t) Y) := fun t Y => rDone_c (HH_get1 _ _ il)
    have g2 : ∀ X Y, hget (HH h' X Y) 2 = .vars [.ptr 1 0] := fun X Y => by rw [HH_get _ _ (by decide) (by decide)]; exact iw
    have g3 : ∀ X Y, hget (HH h' X Y) 3 = Y := fun X Y => HH_get3 X Y il
    have g0 : ∀ X Y, hget (HH h' X Y) 0 = .vars [.int 0, .int 0, .int 0, .int 0, .str ⟨#[]⟩, .str ⟨#[]⟩, .slc true [], .str ⟨#[]⟩, .bool false, .int 0, .int 0, .int 0, .int 0] := fun X Y => by rw [HH_get _ _ (by decide) (by decide)]; exact iz
    have g00 : ∀ X Y Z, hget ((HH h' X Y).set 0 Z) 0 = Z := fun X Y Z => hget_set_eq (by rw [HH_len]; omega)
    simp only [Int.natCast_zero] at eL
    generalize hh : h' = hz at eL
    rw [hH] at hh
    subst hh
    have eM : (if (((BitVec.ofInt 64 ((txt s).size : Int)).toNat : Nat) : Int) < ((uX (a6 s)).toNat : Int) then (((BitVec.ofInt 64 ((txt s).size : Int)).toNat : Nat) : Int) else ((uX (a6 s)).toNat : Int)) = ((min (nn s) s.length : Nat) : Int) := by
      have e1 : (BitVec.ofInt 64 ((txt s).size : Int)).toNat = s.length := by rw [hsz, BitVec.ofInt_natCast, BitVec.toNat_ofNat]; omega
      rw [e1]
      unfold nn
      split <;> omega
    rw [aval_of Tryd.func18 body18 Tryd.results18 Tryd.ntmps18 ok18]
    simp (implicitDefEqProofs := false) (disch := omega) only [go_sem, Nat.reduceAdd, Nat.reduceSub, Nat.reduceMul, Nat.reduceLT, Nat.reduceLeDiff, Nat.reduceEqDiff, List.drop_zero, List.take_succ_cons, List.take_zero, List.drop_succ_cons, Bool.and_true, Bool.true_and, Bool.and_false, Bool.false_and, BitVec.reduceOfInt, Nat.zero_add, Nat.mul_one, Nat.add_zero, Int.zero_add, Int.reduceToNat, Nat.reducePow, ↓reduceIte, reduceCtorEq, Int.reduceLE, Int.reduceLT, Int.reduceEq, Int.reduceNe, Int.reduceAdd, Int.reduceSub, Int.reduceMul, Int.reduceNeg, Nat.reduceBEq, show regOf Tryd.f18 0 = Code.region _ _ _ from rfl, show regOf Tryd.f18 1 = Code.region _ _ _ from rfl, cn]
    simp (implicitDefEqProofs := false) (maxSteps := 40000000) (disch := omega) only [go_sem, Nat.reduceAdd, Nat.reduceSub, Nat.reduceMul, Nat.reduceLT, Nat.reduceLeDiff, Nat.reduceEqDiff, List.drop_zero, List.take_succ_cons, List.take_zero, List.drop_succ_cons, Bool.and_true, Bool.true_and, Bool.and_false, Bool.false_and, BitVec.reduceOfInt, Nat.zero_add, Nat.mul_one, Nat.add_zero, Int.zero_add, Int.reduceToNat, Nat.reducePow, ↓reduceIte, reduceCtorEq, Int.reduceLE, Int.reduceLT, Int.reduceEq, Int.reduceNe, Int.reduceAdd, Int.reduceSub, Int.reduceMul, Int.reduceNeg, Nat.reduceBEq, show regOf Tryd.f18 2 = Code.region _ _ _ from rfl, ↓tail_nil, ↓subs_nil_all, ↓List.forall_mem_cons, ↓all_nil, md44, md34, Bool.true_or, bI]
    have ea4 : uN (uN (uN (uN (s, false)))) = a4 s := rfl
    have ea6 : tN (tN (a4 s)) = a6 s := rfl
    have ea7 : uN (a6 s) = a7 s := rfl
    have ea9 : tN (a8 s) = a9 s := rfl
    have ea10 : uN (a9 s) = a10 s := rfl
    have ea14 : uN (uN (uN (uN (a10 s)))) = a14 s := rfl
    simp (implicitDefEqProofs := false) (maxSteps := 40000000) (disch := omega) only [go_sem, Nat.reduceAdd, Nat.reduceSub, Nat.reduceMul, Nat.reduceLT, Nat.reduceLeDiff, Nat.reduceEqDiff, List.drop_zero, List.take_succ_cons, List.take_zero, List.drop_succ_cons, Bool.and_true, Bool.true_and, Bool.and_false, Bool.false_and, BitVec.reduceOfInt, Nat.zero_add, Nat.mul_one, Nat.add_zero, Int.zero_add, Int.reduceToNat, Nat.reducePow, ↓reduceIte, reduceCtorEq, Int.reduceLE, Int.reduceLT, Int.reduceEq, Int.reduceNe, Int.reduceAdd, Int.reduceSub, Int.reduceMul, Int.reduceNeg, Nat.reduceBEq, show regOf Tryd.f18 3 = Code.region _ _ _ from rfl, ↓tail_nil, ↓subs_nil_all, ↓List.forall_mem_cons, ↓all_nil, md44, md37, Bool.true_or, bI, bT, ea4, ea6]
    simp (implicitDefEqProofs := false) (disch := omega) only [go_sem, Nat.reduceAdd, Nat.reduceSub, Nat.reduceMul, Nat.reduceLT, Nat.reduceLeDiff, Nat.reduceEqDiff, List.drop_zero, List.take_succ_cons, List.take_zero, List.drop_succ_cons, Bool.and_true, Bool.true_and, Bool.and_false, Bool.false_and, BitVec.reduceOfInt, Nat.zero_add, Nat.mul_one, Nat.add_zero, Int.zero_add, Int.reduceToNat, Nat.reducePow, ↓reduceIte, reduceCtorEq, Int.reduceLE, Int.reduceLT, Int.reduceEq, Int.reduceNe, Int.reduceAdd, Int.reduceSub, Int.reduceMul, Int.reduceNeg, Nat.reduceBEq, show regOf Tryd.f18 4 = Code.region _ _ _ from rfl, bU, ea7, eM]
    simp (implicitDefEqProofs := false) (disch := omega) only [go_sem, Nat.reduceAdd, Nat.reduceSub, Nat.reduceMul, Nat.reduceLT, Nat.reduceLeDiff, Nat.reduceEqDiff, List.drop_zero, List.take_succ_cons, List.take_zero, List.drop_succ_cons, Bool.and_true, Bool.true_and, Bool.and_false, Bool.false_and, BitVec.reduceOfInt, Nat.zero_add, Nat.mul_one, Nat.add_zero, Int.zero_add, Int.reduceToNat, Nat.reducePow, ↓reduceIte, reduceCtorEq, Int.reduceLE, Int.reduceLT, Int.reduceEq, Int.reduceNe, Int.reduceAdd, Int.reduceSub, Int.reduceMul, Int.reduceNeg, Nat.reduceBEq, show regOf Tryd.f18 11 = Code.region _ _ _ from rfl, show regOf Tryd.f18 12 = Code.region _ _ _ from rfl, show regOf Tryd.f18 13 = Code.region _ _ _ from rfl, eL, g2, g3, HH_set3, cT, cU, ea9, ea10]
    simp (implicitDefEqProofs := false) (maxSteps := 40000000) (disch := omega) only [go_sem, Nat.reduceAdd, Nat.reduceSub, Nat.reduceMul, Nat.reduceLT, Nat.reduceLeDiff, Nat.reduceEqDiff, List.drop_zero, List.take_succ_cons, List.take_zero, List.drop_succ_cons, Bool.and_true, Bool.true_and, Bool.and_false, Bool.false_and, BitVec.reduceOfInt, Nat.zero_add, Nat.mul_one, Nat.add_zero, Int.zero_add, Int.reduceToNat, Nat.reducePow, ↓reduceIte, reduceCtorEq, Int.reduceLE, Int.reduceLT, Int.reduceEq, Int.reduceNe, Int.reduceAdd, Int.reduceSub, Int.reduceMul, Int.reduceNeg, Nat.reduceBEq, show regOf Tryd.f18 14 = Code.region _ _ _ from rfl, ↓tail_nil, ↓subs_nil_all, ↓List.forall_mem_cons, ↓all_nil, md44, Bool.true_or, cI, g2, g3, HH_set3, ea14]
    have ey : (((uX (a9 s)).toNat : Int) == 1) = decide ((yk s).toNat = 1) := by
      unfold yk
      by_cases h1 : (uX (a9 s)).toNat = 1
      · rw [h1]; rfl
      · have h2 : ¬ ((uX (a9 s)).toNat : Int) = 1 := by omega
        rw [decide_eq_false h1]; simpa using h2
    simp only [ey]
    have hPB : ∀ X Y, PB (HH h' X Y) v (ansOf s).pins := fun X Y => by
      unfold HH
      exact PB_set (PB_set ip I.r) (by rw [hget_set_ne (by decide)]; exact I.a)
    have key : ansOk s = ((!(a14 s).2 && (a14 s).1.isEmpty) && decide ((yk s).toNat ≤ 1)) := rfl
    have cD' := cD (a14 s)
    cases hok : ansOk s with
    | true =>
      have c17 : doCall md (aval Tryd.prog md fg) 17 [.agg [.int (iX (s, false)), .int (iX (uN (s, false))), .int (iX (uN (uN (s, false)))), .int (iX (uN (uN (uN (s, false))))), .str (txt (tX (a4 s))), .str (txt (tX (tN (a4 s)))), v, .str (txt (tX (a8 s))), .bool (decide ((yk s).toNat = 1)), .int (iX (a10 s)), .int (iX (uN (a10 s))), .int (iX (uN (uN (a10 s)))), .int (iX (uN (uN (uN (a10 s)))))]] (HH h' (RO2 (a14 s)) (.vars [.int (iX (s, false)), .int (iX (uN (s, false))), .int (iX (uN (uN (s, false)))), .int (iX (uN (uN (uN (s, false))))), .str (txt (tX (a4 s))), .str (txt (tX (tN (a4 s)))), v, .str (txt (tX (a8 s))), .bool (decide ((yk s).toNat = 1)), .int (iX (a10 s)), .int (iX (uN (a10 s))), .int (iX (uN (uN (a10 s)))), .int (iX (uN (uN (uN (a10 s)))))])) = some (.val (.string (txt (toldL (ansOf s)))), HH h' (RO2 (a14 s)) (.vars [.int (iX (s, false)), .int (iX (uN (s, false))), .int (iX (uN (uN (s, false)))), .int (iX (uN (uN (uN (s, false))))), .str (txt (tX (a4 s))), .str (txt (tX (tN (a4 s)))), v, .str (txt (tX (a8 s))), .bool (decide ((yk s).toNat = 1)), .int (iX (a10 s)), .int (iX (uN (a10 s))), .int (iX (uN (uN (a10 s)))), .int (iX (uN (uN (uN (a10 s)))))])) := told_look (ansOf s) (ho hok) (hPB _ _)
      rw [hw hok] at c17
      rw [hok] at key
      have k2 := key.symm
      simp only [Bool.and_eq_true, decide_eq_true_eq] at k2
      have k1 : (!(a14 s).2 && (a14 s).1.isEmpty) = true := by simp only [Bool.and_eq_true]; exact k2.1
      have k3 : ¬ ((uX (a9 s)).toNat : Int) > 1 := by have := k2.2; unfold yk at this; omega
      rw [k1] at cD'
      simp (implicitDefEqProofs := false) (disch := omega) only [go_sem, Nat.reduceAdd, Nat.reduceSub, Nat.reduceMul, Nat.reduceLT, Nat.reduceLeDiff, Nat.reduceEqDiff, List.drop_zero, List.take_succ_cons, List.take_zero, List.drop_succ_cons, Bool.and_true, Bool.true_and, Bool.and_false, Bool.false_and, BitVec.reduceOfInt, Nat.zero_add, Nat.mul_one, Nat.add_zero, Int.zero_add, Int.reduceToNat, Nat.reducePow, ↓reduceIte, reduceCtorEq, Int.reduceLE, Int.reduceLT, Int.reduceEq, Int.reduceNe, Int.reduceAdd, Int.reduceSub, Int.reduceMul, Int.reduceNeg, Nat.reduceBEq, show regOf Tryd.f18 15 = Code.region _ _ _ from rfl, show regOf Tryd.f18 16 = Code.region _ _ _ from rfl, show regOf Tryd.f18 17 = Code.region _ _ _ from rfl, g2, g3, g0, g00, cD', k3, c17, aresults, tupOf, Option.map_some]
      refine ⟨_, _, _, _, _, _, _, _, _, _, _, _, _, _, _, _, rfl, PB_set (hPB _ _) (g0 _ _), ?_⟩
      unfold ansR
      rw [if_pos hok]
      rfl
    | false =>
      have fin : ansR s = .tup [zeroA, .int 8] := by unfold ansR; rw [hok]; rfl
      rw [hok] at key
      cases hD : (!(a14 s).2 && (a14 s).1.isEmpty) with
      | false =>
        rw [hD] at cD'
        simp (implicitDefEqProofs := false) (disch := omega) only [go_sem, Nat.reduceAdd, Nat.reduceSub, Nat.reduceMul, Nat.reduceLT, Nat.reduceLeDiff, Nat.reduceEqDiff, List.drop_zero, List.take_succ_cons, List.take_zero, List.drop_succ_cons, Bool.and_true, Bool.true_and, Bool.and_false, Bool.false_and, BitVec.reduceOfInt, Nat.zero_add, Nat.mul_one, Nat.add_zero, Int.zero_add, Int.reduceToNat, Nat.reducePow, ↓reduceIte, reduceCtorEq, Int.reduceLE, Int.reduceLT, Int.reduceEq, Int.reduceNe, Int.reduceAdd, Int.reduceSub, Int.reduceMul, Int.reduceNeg, Nat.reduceBEq, show regOf Tryd.f18 15 = Code.region _ _ _ from rfl, show regOf Tryd.f18 16 = Code.region _ _ _ from rfl, show regOf Tryd.f18 17 = Code.region _ _ _ from rfl, g2, g3, g0, g00, cD', aresults, tupOf, Option.map_some]
        exact ⟨_, _, _, _, _, _, _, _, _, _, _, _, _, _, _, _, rfl, .inl ⟨rfl, rfl⟩, fin⟩
      | true =>
        rw [hD] at cD' key
        have k2 := key.symm
        simp only [Bool.true_and, decide_eq_false_iff_not] at k2
        have k3 : ((uX (a9 s)).toNat : Int) > 1 := by unfold yk at k2; omega
        simp (implicitDefEqProofs := false) (disch := omega) only [go_sem, Nat.reduceAdd, Nat.reduceSub, Nat.reduceMul, Nat.reduceLT, Nat.reduceLeDiff, Nat.reduceEqDiff, List.drop_zero, List.take_succ_cons, List.take_zero, List.drop_succ_cons, Bool.and_true, Bool.true_and, Bool.and_false, Bool.false_and, BitVec.reduceOfInt, Nat.zero_add, Nat.mul_one, Nat.add_zero, Int.zero_add, Int.reduceToNat, Nat.reducePow, ↓reduceIte, reduceCtorEq, Int.reduceLE, Int.reduceLT, Int.reduceEq, Int.reduceNe, Int.reduceAdd, Int.reduceSub, Int.reduceMul, Int.reduceNeg, Nat.reduceBEq, show regOf Tryd.f18 15 = Code.region _ _ _ from rfl, show regOf Tryd.f18 16 = Code.region _ _ _ from rfl, show regOf Tryd.f18 17 = Code.region _ _ _ from rfl, g2, g3, g0, g00, cD', k3, aresults, tupOf, Option.map_some]
        exact ⟨_, _, _, _, _, _, _, _, _, _, _, _, _, _, _, _, rfl, .inl ⟨rfl, rfl⟩, fin⟩
  obtain ⟨h, v, a0, a1, a2, a3, a4, a5, a7, a8, a9, b0, b1, b2, er, acc, e, hp, hr⟩ := e
  rw [pcall_eq, e, pure_ans hp, hr]
end Go.Proofs.YtfloombnadnmaaaDoor
namespace Go.Proofs.YtfloombnadnmaaaDoor
open Go Go.Ab Go.Proofs
set_option maxRecDepth 100000
set_option linter.unusedSimpArgs false
set_option linter.unusedVariables false
theorem zag_c (x : BitVec 64) (h : AHeap) : doCall md (aval Tryd.prog md fg) 60 [v64 x] h = some (.int (zagN x.toNat), h) := doCall_pure md60 rfl (refZag_p (by omega) (by have := x.isLt; omega))
section
variable {h : AHeap} {id : Nat} {t : St}
theorem qI (hr : hget h id = RO2 t) (hid : id < h.length) (hs : t.1.length < 2 ^ 62) : aval Tryd.prog md fg 48 [.ptr id 0] h = some (.int (iX t), h.set id (RO2 (uN t))) := by
  have cu : doCall md (aval Tryd.prog md fg) 40 [.ptr id 0] h = some (v64 (uX t), h.set id (RO2 (uN t))) := qU_c hr hid hs
  have cz := zag_c (uX t)
  have e : zagN ((uX t).toNat : Int) = iX t := rfl
  rw [e] at cz
  generalize RO2 (uN t) = R at *
  rw [aval_of Tryd.func48 body48 Tryd.results48 Tryd.ntmps48 ok48]
  simp (implicitDefEqProofs := false) (disch := omega) only [go_sem, Nat.reduceAdd, Nat.reduceSub, Nat.reduceMul, Nat.reduceLT, Nat.reduceLeDiff, Nat.reduceEqDiff, List.drop_zero, List.take_succ_cons, List.take_zero, List.drop_succ_cons, Bool.and_true, Bool.true_and, Bool.and_false, Bool.false_and, BitVec.reduceOfInt, Nat.zero_add, Nat.mul_one, Nat.add_zero, Int.zero_add, Int.reduceToNat, Nat.reducePow, ↓reduceIte, reduceCtorEq, Int.reduceLE, Int.reduceLT, Int.reduceEq, Int.reduceNe, Int.reduceAdd, Int.reduceSub, Int.reduceMul, Int.reduceNeg, Nat.reduceBEq, show regOf Tryd.f48 0 = Code.region _ _ _ from rfl, show regOf Tryd.f48 1 = Code.region _ _ _ from rfl, cu, cz]
theorem qI_c (hr : hget h id = RO2 t) (hid : id < h.length) (hs : t.1.length < 2 ^ 62) : doCall md (aval Tryd.prog md fg) 48 [.ptr id 0] h = some (.int (iX t), h.set id (RO2 (uN t))) := doCall_len (by decide) (qI hr hid hs) (by simp)
theorem zI (l : AHeap) (hr : hget h id = RO2 t) (hid : id < h.length) (hs : t.1.length < 2 ^ 62) : doCall md (aval Tryd.prog md fg) 48 [.ptr id 0] (h ++ l) = some (.int (iX t), h.set id (RO2 (uN t)) ++ l) := by
  rw [← sa_set l _ hid]
  exact qI_c (by rw [sa_id l hid]; exact hr) (by simp; omega) hs
theorem zU (l : AHeap) (hr : hget h id = RO2 t) (hid : id < h.length) (hs : t.1.length < 2 ^ 62) : doCall md (aval Tryd.prog md fg) 40 [.ptr id 0] (h ++ l) = some (v64 (uX t), h.set id (RO2 (uN t)) ++ l) := by
  rw [← sa_set l _ hid]
  exact qU_c (by rw [sa_id l hid]; exact hr) (by simp; omega) hs
theorem zT (l : AHeap) (hr : hget h id = RO2 t) (hid : id < h.length) (hs : t.1.length < 2 ^ 62) : doCall md (aval Tryd.prog md fg) 42 [.ptr id 0] (h ++ l) = some (.val (.string (txt (tX t))), h.set id (RO2 (tN t)) ++ l) := by
  rw [← sa_set l _ hid]
  exact qT_c (by rw [sa_id l hid]; exact hr) (by simp; omega) hs
end
structure Inv2 (e a g k : Int) (nm cn : ByteArray) (h : AHeap) (t : St) (acc : List Pn) (v : AV) : Prop where
  z : hget h 0 = .vars [.int 0, .int 0, .int 0, .int 0, .str ⟨#[]⟩, .str ⟨#[]⟩, .slc true [], .str ⟨#[]⟩, .bool false, .int 0, .int 0, .int 0, .int 0]
  r : hget h 1 = RO2 t
  a : hget h 2 = .vars [.int e, .int a, .int g, .int k, .str nm, .str cn, v, .str ⟨#[]⟩, .bool false, .int 0, .int 0, .int 0, .int 0]
  p : PB h v acc
  l : 2 < h.length
theorem u64_in {n : Int} (h0 : 0 ≤ n) (h1 : n < 18446744073709551616) : ((BitVec.ofInt 64 n).toNat : Int) = n := by
  rw [BitVec.toNat_ofInt]; omega
theorem bvj {i : Nat} (h : i + 1 < 18446744073709551616) : (BitVec.ofInt 64 (i : Int) + 1#64).toNat = i + 1 := by
  rw [BitVec.ofInt_natCast, BitVec.toNat_add, BitVec.toNat_ofNat]
  simp
  omega
set_option maxHeartbeats 8000000 in
theorem q_loop {e a g k : Int} {nm cn S : ByteArray} (N : Nat) (hN : N < 18446744073709551616) : ∀ (r i : Nat) (h : AHeap) (t : St) (acc : List Pn) (v : AV), i + r = N → (t.2 = false → acc.length + t.1.length ≤ 4000) → acc.length ≤ 4001 → t.1.length ≤ 4000 → Inv2 e a g k nm cn h t acc v → ∃ (i' : Int) (v' : AV) (h' : AHeap),
    lrun Tryd.prog md fg (fg 21) (loopOf Tryd.f21 0) (fg 21 1) ((.unk :: .unk :: (.ptr 0 0) :: .unk :: (.ptr 1 0) :: (.ptr 2 0) :: (.val (.int .u64 N)) :: (.val (.int .u64 i)) :: .unk :: .unk :: .unk :: .unk :: .unk :: .unk :: .unk :: .unk :: .unk :: .unk :: .unk :: .unk :: .unk :: .unk :: .unk :: .unk :: .unk :: .unk :: .unk :: .unk :: .unk :: .unk :: .unk :: .unk :: .unk :: .unk :: .unk :: .unk :: .unk :: .unk :: .unk :: .unk :: .unk :: .unk :: .unk :: .unk :: .unk :: .unk :: .unk :: .unk :: .unk :: .unk :: .unk :: .unk :: .unk :: .unk :: .unk :: .unk :: .unk :: .unk :: .unk :: .unk :: .unk :: .unk :: .unk :: .unk :: .unk :: .unk :: .unk :: .unk :: .unk :: .unk :: .unk :: .unk :: .unk :: .unk :: .unk :: .unk :: .unk :: .unk :: .unk :: .unk :: .unk :: .unk :: .unk :: .unk :: .unk :: .unk :: .unk :: .unk :: .unk :: .unk :: .unk :: .unk :: .unk :: .unk :: .unk :: .unk :: .unk :: .unk :: .unk :: .unk :: .unk :: .unk :: .unk :: .unk :: .unk :: .unk :: .unk :: .unk :: .unk :: .unk :: .unk :: [] : List AV)) h = some (.exit 0, (.unk :: .unk :: (.ptr 0 0) :: .unk :: (.ptr 1 0) :: (.ptr 2 0) :: (.val (.int .u64 N)) :: (.val (.int .u64 i')) :: .unk :: .unk :: .unk :: .unk :: .unk :: .unk :: .unk :: .unk :: .unk :: .unk :: .unk :: .unk :: .unk :: .unk :: .unk :: .unk :: .unk :: .unk :: .unk :: .unk :: .unk :: .unk :: .unk :: .unk :: .unk :: .unk :: .unk :: .unk :: .unk :: .unk :: .unk :: .unk :: .unk :: .unk :: .unk :: .unk :: .unk :: .unk :: .unk :: .unk :: .unk :: .unk :: .unk :: .unk :: .unk :: .unk :: .unk :: .unk :: .unk :: .unk :: .unk :: .unk :: .unk :: .unk :: .unk :: .unk :: .unk :: .unk :: .unk :: .unk :: .unk :: .unk :: .unk :: .unk :: .unk :: .unk :: .unk :: .unk :: .unk :: .unk :: .unk :: .unk :: .unk :: .unk :: .unk :: .unk :: .unk :: .unk :: .unk :: .unk :: .unk :: .unk :: .unk :: .unk :: .unk :: .unk :: .unk :: .unk :: .unk :: .unk :: .unk :: .unk :: .unk :: .unk :: .unk :: .unk :: .unk :: .unk :: .unk :: .unk :: .unk :: .unk :: .unk :: [] : List AV), h') ∧ Inv2 e a g k nm cn h' (pR r t).2 (acc ++ (pR r t).1) v'
  | 0, i, h, t, acc, v, hi, hb, ha, hl, I => by
    obtain rfl : i = N := by omega
    refine ⟨i, v, h, ?_, by rw [show (pR 0 t) = ([], t) from rfl, List.append_nil]; exact I⟩
    rw [lrun_atC loop21_0]
    simp (implicitDefEqProofs := false) (disch := omega) only [go_sem, Nat.reduceAdd, Nat.reduceSub, Nat.reduceMul, Nat.reduceLT, Nat.reduceLeDiff, Nat.reduceEqDiff, List.drop_zero, List.take_succ_cons, List.take_zero, List.drop_succ_cons, Bool.and_true, Bool.true_and, Bool.and_false, Bool.false_and, BitVec.reduceOfInt, Nat.zero_add, Nat.mul_one, Nat.add_zero, Int.zero_add, Int.reduceToNat, Nat.reducePow, ↓reduceIte, reduceCtorEq, Int.reduceLE, Int.reduceLT, Int.reduceEq, Int.reduceNe, Int.reduceAdd, Int.reduceSub, Int.reduceMul, Int.reduceNeg, Nat.reduceBEq, show regOf Tryd.f21 11 = Code.region _ _ _ from rfl]
  | r + 1, i, h, t, acc, v, hi, hba, ha, hl, I => by
    have ir := I.r
    cases hb : t.2 with
    | true =>
      refine ⟨i, v, h, ?_, by rw [show (pR (r + 1) t) = ([], t) by unfold pR; rw [hb]; rfl, List.append_nil]; exact I⟩
      dsimp only [RO2, RO] at ir
      rw [hb] at ir
      rw [lrun_atC loop21_0]
      simp (implicitDefEqProofs := false) (disch := omega) only [go_sem, Nat.reduceAdd, Nat.reduceSub, Nat.reduceMul, Nat.reduceLT, Nat.reduceLeDiff, Nat.reduceEqDiff, List.drop_zero, List.take_succ_cons, List.take_zero, List.drop_succ_cons, Bool.and_true, Bool.true_and, Bool.and_false, Bool.false_and, BitVec.reduceOfInt, Nat.zero_add, Nat.mul_one, Nat.add_zero, Int.zero_add, Int.reduceToNat, Nat.reducePow, ↓reduceIte, reduceCtorEq, Int.reduceLE, Int.reduceLT, Int.reduceEq, Int.reduceNe, Int.reduceAdd, Int.reduceSub, Int.reduceMul, Int.reduceNeg, Nat.reduceBEq, show regOf Tryd.f21 11 = Code.region _ _ _ from rfl, ir]
    | false =>
      have ep : pR (r + 1) t = (pnX t :: (pR r (pnN t)).1, (pR r (pnN t)).2) := by rw [pR, hb]; rfl
      rw [ep]
      have hba := hba hb
      have hid : 1 < h.length := by have := I.l; omega
      have k1 := tN_len t
      have k2 := uN_len (tN t)
      have k3 := uN_len (uN (tN t))
      have E : ∀ X : AObj, hget (h.set 1 X) 1 = X := fun X => hget_set_eq hid
      have L : ∀ X : AObj, (h.set 1 X).length = h.length := fun X => by simp
      have cT := zT [] ir hid (by omega)
      have n1 := fun l => zI (h := h.set 1 (RO2 (tN t))) l (E _) (by rw [L]; exact hid) (by omega)
      have n2 := fun l => zI (h := h.set 1 (RO2 (uN (tN t)))) l (E _) (by rw [L]; exact hid) (by omega)
      have n3 := fun l => zI (h := h.set 1 (RO2 (uN (uN (tN t))))) l (E _) (by rw [L]; exact hid) (by omega)
      rw [List.set_set] at n1 n2 n3
      rw [List.append_nil, List.append_nil] at cT
      have g3 : ∀ (X : AObj) (l : AHeap), hget (h.set 1 X ++ l) 2 = .vars [.int e, .int a, .int g, .int k, .str nm, .str cn, v, .str ⟨#[]⟩, .bool false, .int 0, .int 0, .int 0, .int 0] := fun X l => hget_sa l I.a I.l (by decide)
      have g0 : ∀ (X : AObj) (l : AHeap), hget (h.set 1 X ++ l) 0 = .vars [.int 0, .int 0, .int 0, .int 0, .str ⟨#[]⟩, .str ⟨#[]⟩, .slc true [], .str ⟨#[]⟩, .bool false, .int 0, .int 0, .int 0, .int 0] := fun X l => hget_sa l I.z (by have := I.l; omega) (by decide)
      have g1 : ∀ (X : AObj) (l : AHeap), hget (h.set 1 X ++ l) 1 = X := fun X l => by rw [sa_id l (by rw [L]; exact hid)]; exact E X
      have pb : PB (h.set 1 (RO2 (pnN t)) ++ [.vars [.str (txt (tX t)), .int (iX (tN t)), .int (iX (uN (tN t))), .int (iX (uN (uN (tN t))))]]) v acc := PB_push (PB_set I.p I.r)
      obtain ⟨v', h5, e5, f5, c5, p5, l5, s5⟩ := pb_app pb (pnX t) 40 (.agg [.str ⟨#[]⟩, .int 0, .int 0, .int 0]) (by omega) (by omega)
      have I' : Inv2 e a g k nm cn (h5.set 2 (.vars [.int e, .int a, .int g, .int k, .str nm, .str cn, v', .str ⟨#[]⟩, .bool false, .int 0, .int 0, .int 0, .int 0])) (pnN t) (acc ++ [pnX t]) v' := by
        have l3 : 2 < h5.length := by have := I.l; simp only [List.length_append, List.length_set, List.length_cons] at l5; omega
        refine ⟨?_, ?_, hget_set_eq l3, PB_set p5 (s5 2 _ (g3 _ _)), by simpa using l3⟩
        · rw [hget_set_ne (by decide)]; exact s5 0 _ (g0 _ _)
        · rw [hget_set_ne (by decide)]; exact s5 1 _ (g1 _ _)
      have h53 := s5 2 _ (g3 _ _)
      obtain ⟨i', v2, h2, q1, q2⟩ := q_loop (e := e) (a := a) (g := g) (k := k) (nm := nm) (cn := cn) (S := S) N hN r (i + 1) _ _ _ _ (by omega) (fun hb' => by have := pnN_lt hb'; simp; omega) (by simp; omega) (Nat.le_trans (pnN_len t) hl) I'
      refine ⟨i', v2, h2, ?_, by rw [List.append_assoc] at q2; exact q2⟩
      rw [← q1]
      unfold pnX at e5
      change ∀ l, _ = some (_, h.set 1 (RO2 (pnN t)) ++ l) at n3
      have ir2 : hget h 1 = .vars [.str (txt t.1), .bool false] := by rw [ir]; dsimp only [RO2, RO]; rw [hb]
      generalize (RO2 (pnN t)) = R4 at *
      generalize (RO2 (uN (uN (tN t)))) = R3 at *
      generalize (RO2 (uN (tN t))) = R2 at *
      generalize (RO2 (tN t)) = R1 at *
      have hiv := bvj (i := i) (by omega)
      rw [lrun_atC loop21_0]
      simp (implicitDefEqProofs := false) (maxSteps := 400000) (disch := first | omega | exact List.length_set) only [go_sem, Nat.reduceAdd, Nat.reduceSub, Nat.reduceMul, Nat.reduceLT, Nat.reduceLeDiff, Nat.reduceEqDiff, List.drop_zero, List.take_succ_cons, List.take_zero, List.drop_succ_cons, Bool.and_true, Bool.true_and, Bool.and_false, Bool.false_and, BitVec.reduceOfInt, Nat.zero_add, Nat.mul_one, Nat.add_zero, Int.zero_add, Int.reduceToNat, Nat.reducePow, ↓reduceIte, reduceCtorEq, Int.reduceLE, Int.reduceLT, Int.reduceEq, Int.reduceNe, Int.reduceAdd, Int.reduceSub, Int.reduceMul, Int.reduceNeg, Nat.reduceBEq, show regOf Tryd.f21 11 = Code.region _ _ _ from rfl, show regOf Tryd.f21 13 = Code.region _ _ _ from rfl, show regOf Tryd.f21 14 = Code.region _ _ _ from rfl, show regOf Tryd.f21 15 = Code.region _ _ _ from rfl, show regOf Tryd.f21 16 = Code.region _ _ _ from rfl, ir2, cT, n1, n2, n3, List.length_set, List.append_assoc, List.cons_append, List.nil_append, sb_get0, sb_set0]
      simp (implicitDefEqProofs := false) (maxSteps := 400000) (disch := first | omega | exact List.length_set) only [go_sem, Nat.reduceAdd, Nat.reduceSub, Nat.reduceMul, Nat.reduceLT, Nat.reduceLeDiff, Nat.reduceEqDiff, List.drop_zero, List.take_succ_cons, List.take_zero, List.drop_succ_cons, Bool.and_true, Bool.true_and, Bool.and_false, Bool.false_and, BitVec.reduceOfInt, Nat.zero_add, Nat.mul_one, Nat.add_zero, Int.zero_add, Int.reduceToNat, Nat.reducePow, ↓reduceIte, reduceCtorEq, Int.reduceLE, Int.reduceLT, Int.reduceEq, Int.reduceNe, Int.reduceAdd, Int.reduceSub, Int.reduceMul, Int.reduceNeg, Nat.reduceBEq, show regOf Tryd.f21 17 = Code.region _ _ _ from rfl, show regOf Tryd.f21 12 = Code.region _ _ _ from rfl, List.length_set, sb_get0, sb_set0, g3, e5, f5, c5, h53]
      all_goals (congr 1 <;> simp only [List.cons.injEq, AV.val.injEq, Value.int.injEq, Value.bool.injEq, true_and, and_true] <;> omega)
end Go.Proofs.YtfloombnadnmaaaDoor
namespace Go.Proofs.YtfloombnadnmaaaDoor
open Go Go.Ab Go.Proofs
set_option maxRecDepth 100000
set_option linter.unusedSimpArgs false
set_option linter.unusedVariables false
def HK (h : AHeap) (X Y : AObj) : AHeap := (h.set 1 X).set 2 Y
section
variable {h : AHeap}
theorem HK_set1 (X Y X' : AObj) : (HK h X Y).set 1 X' = HK h X' Y := by
  unfold HK; rw [List.set_comm _ _ (by decide), List.set_set]
theorem HK_set2 (X Y Y' : AObj) : (HK h X Y).set 2 Y' = HK h X Y' := by
  unfold HK; rw [List.set_set]
theorem HK_len (X Y : AObj) : List.length (HK h X Y) = List.length h := by unfold HK; simp
theorem HK_get1 (X Y : AObj) (hl : 2 < h.length) : hget (HK h X Y) 1 = X := by
  unfold HK; rw [hget_set_ne (by decide), hget_set_eq (by omega)]
theorem HK_get2 (X Y : AObj) (hl : 2 < h.length) : hget (HK h X Y) 2 = Y := by
  unfold HK; rw [hget_set_eq (by simpa using hl)]
theorem HK_get (X Y : AObj) {j : Nat} (h1 : 1 ≠ j) (h3 : 2 ≠ j) : hget (HK h X Y) j = hget h j := by
  unfold HK; rw [hget_set_ne h3, hget_set_ne h1]
theorem HK_self {X Y : AObj} (e1 : hget h 1 = X) (e3 : hget h 2 = Y) (hl : 2 < h.length) : h = HK h X Y := by
  unfold HK
  rw [set_same e1 (by omega), set_same e3 hl]
end
theorem yI (A : AObj) (t : St) (l : AHeap) (hs : t.1.length < 2 ^ 62) : doCall md (aval Tryd.prog md fg) 48 [.ptr 1 0] (A :: RO2 t :: l) = some (.int (iX t), A :: RO2 (uN t) :: l) := zI (h := [A, RO2 t]) (id := 1) l rfl (by simp) hs
theorem yU (A : AObj) (t : St) (l : AHeap) (hs : t.1.length < 2 ^ 62) : doCall md (aval Tryd.prog md fg) 40 [.ptr 1 0] (A :: RO2 t :: l) = some (v64 (uX t), A :: RO2 (uN t) :: l) := zU (h := [A, RO2 t]) (id := 1) l rfl (by simp) hs
theorem yT (A : AObj) (t : St) (l : AHeap) (hs : t.1.length < 2 ^ 62) : doCall md (aval Tryd.prog md fg) 42 [.ptr 1 0] (A :: RO2 t :: l) = some (.val (.string (txt (tX t))), A :: RO2 (tN t) :: l) := zT (h := [A, RO2 t]) (id := 1) l rfl (by simp) hs
theorem ro_init (s : List UInt8) : AObj.vars [.val (.string (txt s)), .val (.bool false)] = RO2 (s, false) := rfl
set_option maxHeartbeats 32000000 in
theorem ranswer_p {s : List UInt8} (hs : s.length ≤ 4000) : pcall Tryd.prog md fg 21 [.str (txt s)] = some (ansR s) := by
  have e : ∃ (h : AHeap) (v : AV) (a0 a1 a2 a3 a4 a5 a7 a8 a9 b0 b1 b2 er : Value) (acc : List Pn), aval Tryd.prog md fg 21 [.str (txt s)] [] = some (.tup [.agg [.val a0, .val a1, .val a2, .val a3, .val a4, .val a5, v, .val a7, .val a8, .val a9, .val b0, .val b1, .val b2], .val er], h) ∧ PB h v acc ∧
      ansR s = .tup [.agg [.val a0, .val a1, .val a2, .val a3, .val a4, .val a5, .slc false (acc.map pnV), .val a7, .val a8, .val a9, .val b0, .val b1, .val b2], .val er] := by
    have hsz := txt_size s
    have l0 : ((s, false) : St).1.length ≤ 4000 := hs
    have l1 : (uN (s, false)).1.length ≤ s.length := uN_len (s, false)
    have l2 := uN_len (uN (s, false))
    have l3 := uN_len (uN (uN (s, false)))
    have l4 : (a4 s).1.length ≤ (uN (uN (uN (s, false)))).1.length := uN_len (uN (uN (uN (s, false))))
    have l5 := tN_len (a4 s)
    have l6 : (a6 s).1.length ≤ (tN (a4 s)).1.length := tN_len (tN (a4 s))
    have l7 : (a7 s).1.length ≤ (a6 s).1.length := uN_len (a6 s)
    obtain ⟨i', v, h', eL, I⟩ := q_loop (e := iX (s, false)) (a := iX (uN (s, false))) (g := iX (uN (uN (s, false)))) (k := iX (uN (uN (uN (s, false))))) (nm := txt (tX (a4 s))) (cn := txt (tX (tN (a4 s)))) (S := txt s) (uX (a6 s)).toNat (uX (a6 s)).isLt (uX (a6 s)).toNat 0
      [.vars [.int 0, .int 0, .int 0, .int 0, .str ⟨#[]⟩, .str ⟨#[]⟩, .slc true [], .str ⟨#[]⟩, .bool false, .int 0, .int 0, .int 0, .int 0], RO2 (a7 s),
        .vars [.int (iX (s, false)), .int (iX (uN (s, false))), .int (iX (uN (uN (s, false)))), .int (iX (uN (uN (uN (s, false))))), .str (txt (tX (a4 s))), .str (txt (tX (tN (a4 s)))), .slc true [], .str ⟨#[]⟩, .bool false, .int 0, .int 0, .int 0, .int 0]]
      (a7 s) [] (.slc true []) (by omega) (fun _ => by simp; omega) (by simp) (by omega) ⟨rfl, rfl, rfl, .inl ⟨rfl, rfl⟩, by simp⟩
    rw [List.nil_append] at I
    change Inv2 _ _ _ _ _ _ h' (a8 s) (ansOf s).pins v at I
    have l8 : (a8 s).1.length ≤ (a7 s).1.length := by
      have : ∀ (n : Nat) (t : St), (pR n t).2.1.length ≤ t.1.length := by
        intro n
        induction n with
        | zero => intro t; exact Nat.le_refl _
        | succ n ih =>
          intro t
          unfold pR
          split
          · exact Nat.le_refl _
          · exact Nat.le_trans (ih _) (pnN_len t)
      exact this _ _
    have l9 : (a9 s).1.length ≤ (a8 s).1.length := tN_len (a8 s)
    have l10 : (a10 s).1.length ≤ (a9 s).1.length := uN_len (a9 s)
    have l11 := uN_len (a10 s)
    have l12 := uN_len (uN (a10 s))
    have l13 := uN_len (uN (uN (a10 s)))
    have il := I.l
    have hH := HK_self I.r I.a il
    have ip := I.p
    have iz := I.z
    have cI : ∀ (t : St) (Y : AObj), t.1.length ≤ 4000 → doCall md (aval Tryd.prog md fg) 48 [.ptr 1 0] (HK h' (RO2 t) Y) = some (.int (iX t), HK h' (RO2 (uN t)) Y) := fun t Y ht => by
      have := zI (h := HK h' (RO2 t) Y) (id := 1) [] (HK_get1 _ _ il) (by rw [HK_len]; omega) (by omega)
      rw [List.append_nil, List.append_nil, HK_set1] at this; exact this
    have cU : ∀ (t : St) (Y : AObj), t.1.length ≤ 4000 → doCall md (aval Tryd.prog md fg) 40 [.ptr 1 0] (HK h' (RO2 t) Y) = some (v64 (uX t), HK h' (RO2 (uN t)) Y) := fun t Y ht => by
      have := zU (h := HK h' (RO2 t) Y) (id := 1) [] (HK_get1 _ _ il) (by rw [HK_len]; omega) (by omega)
      rw [List.append_nil, List.append_nil, HK_set1] at this; exact this
    have cT : ∀ (t : St) (Y : AObj), t.1.length ≤ 4000 → doCall md (aval Tryd.prog md fg) 42 [.ptr 1 0] (HK h' (RO2 t) Y) = some (.val (.string (txt (tX t))), HK h' (RO2 (tN t)) Y) := fun t Y ht => by
      have := zT (h := HK h' (RO2 t) Y) (id := 1) [] (HK_get1 _ _ il) (by rw [HK_len]; omega) (by omega)
      rw [List.append_nil, List.append_nil, HK_set1] at this; exact this
    have g1 : ∀ X Y, hget (HK h' X Y) 1 = X := fun X Y => HK_get1 X Y il
    have g2 : ∀ X Y, hget (HK h' X Y) 2 = Y := fun X Y => HK_get2 X Y il
    have g0 : ∀ X Y, hget (HK h' X Y) 0 = .vars [.int 0, .int 0, .int 0, .int 0, .str ⟨#[]⟩, .str ⟨#[]⟩, .slc true [], .str ⟨#[]⟩, .bool false, .int 0, .int 0, .int 0, .int 0] := fun X Y => by rw [HK_get _ _ (by decide) (by decide)]; exact iz
    have g00 : ∀ X Y Z, hget ((HK h' X Y).set 0 Z) 0 = Z := fun X Y Z => hget_set_eq (by rw [HK_len]; omega)
    simp only [Int.natCast_zero] at eL
    generalize hh : h' = hz at eL
    rw [hH] at hh
    subst hh
    have ea4 : uN (uN (uN (uN (s, false)))) = a4 s := rfl
    have ea6 : tN (tN (a4 s)) = a6 s := rfl
    have ea7 : uN (a6 s) = a7 s := rfl
    have ea9 : tN (a8 s) = a9 s := rfl
    have ea10 : uN (a9 s) = a10 s := rfl
    have ea14 : uN (uN (uN (uN (a10 s)))) = a14 s := rfl
    have hPB : ∀ X Y, PB (HK h' X Y) v (ansOf s).pins := fun X Y => by
      unfold HK
      exact PB_set (PB_set ip I.r) (by rw [hget_set_ne (by decide)]; exact I.a)
    have key : ansOk s = ((!(a14 s).2 && (a14 s).1.isEmpty) && decide ((yk s).toNat ≤ 1)) := rfl
    have ey : (((uX (a9 s)).toNat : Int) == 1) = decide ((yk s).toNat = 1) := by
      unfold yk
      by_cases h1 : (uX (a9 s)).toNat = 1
      · rw [h1]; rfl
      · have h2 : ¬ ((uX (a9 s)).toNat : Int) = 1 := by omega
        rw [decide_eq_false h1]; simpa using h2
    rw [aval_of Tryd.func21 body21 Tryd.results21 Tryd.ntmps21 ok21]
    simp (implicitDefEqProofs := false) (disch := omega) only [go_sem, Nat.reduceAdd, Nat.reduceSub, Nat.reduceMul, Nat.reduceLT, Nat.reduceLeDiff, Nat.reduceEqDiff, List.drop_zero, List.take_succ_cons, List.take_zero, List.drop_succ_cons, Bool.and_true, Bool.true_and, Bool.and_false, Bool.false_and, BitVec.reduceOfInt, Nat.zero_add, Nat.mul_one, Nat.add_zero, Int.zero_add, Int.reduceToNat, Nat.reducePow, ↓reduceIte, reduceCtorEq, Int.reduceLE, Int.reduceLT, Int.reduceEq, Int.reduceNe, Int.reduceAdd, Int.reduceSub, Int.reduceMul, Int.reduceNeg, Nat.reduceBEq, show regOf Tryd.f21 0 = Code.region _ _ _ from rfl, show regOf Tryd.f21 1 = Code.region _ _ _ from rfl, show regOf Tryd.f21 2 = Code.region _ _ _ from rfl, ro_init]
    simp (implicitDefEqProofs := false) (disch := omega) only [go_sem, Nat.reduceAdd, Nat.reduceSub, Nat.reduceMul, Nat.reduceLT, Nat.reduceLeDiff, Nat.reduceEqDiff, List.drop_zero, List.take_succ_cons, List.take_zero, List.drop_succ_cons, Bool.and_true, Bool.true_and, Bool.and_false, Bool.false_and, BitVec.reduceOfInt, Nat.zero_add, Nat.mul_one, Nat.add_zero, Int.zero_add, Int.reduceToNat, Nat.reducePow, ↓reduceIte, reduceCtorEq, Int.reduceLE, Int.reduceLT, Int.reduceEq, Int.reduceNe, Int.reduceAdd, Int.reduceSub, Int.reduceMul, Int.reduceNeg, Nat.reduceBEq, show regOf Tryd.f21 3 = Code.region _ _ _ from rfl, show regOf Tryd.f21 4 = Code.region _ _ _ from rfl, show regOf Tryd.f21 5 = Code.region _ _ _ from rfl, show regOf Tryd.f21 6 = Code.region _ _ _ from rfl, show regOf Tryd.f21 7 = Code.region _ _ _ from rfl, show regOf Tryd.f21 8 = Code.region _ _ _ from rfl, show regOf Tryd.f21 9 = Code.region _ _ _ from rfl, show regOf Tryd.f21 10 = Code.region _ _ _ from rfl, yI, yT, yU, ea4, ea6, ea7]
    simp (implicitDefEqProofs := false) (disch := omega) only [go_sem, Nat.reduceAdd, Nat.reduceSub, Nat.reduceMul, Nat.reduceLT, Nat.reduceLeDiff, Nat.reduceEqDiff, List.drop_zero, List.take_succ_cons, List.take_zero, List.drop_succ_cons, Bool.and_true, Bool.true_and, Bool.and_false, Bool.false_and, BitVec.reduceOfInt, Nat.zero_add, Nat.mul_one, Nat.add_zero, Int.zero_add, Int.reduceToNat, Nat.reducePow, ↓reduceIte, reduceCtorEq, Int.reduceLE, Int.reduceLT, Int.reduceEq, Int.reduceNe, Int.reduceAdd, Int.reduceSub, Int.reduceMul, Int.reduceNeg, Nat.reduceBEq, show regOf Tryd.f21 18 = Code.region _ _ _ from rfl, show regOf Tryd.f21 19 = Code.region _ _ _ from rfl, show regOf Tryd.f21 20 = Code.region _ _ _ from rfl, show regOf Tryd.f21 21 = Code.region _ _ _ from rfl, show regOf Tryd.f21 22 = Code.region _ _ _ from rfl, show regOf Tryd.f21 23 = Code.region _ _ _ from rfl, show regOf Tryd.f21 24 = Code.region _ _ _ from rfl, eL, cT, cU, cI, g2, HK_set2, ea9, ea10, ea14, ey]
    have fin : ansOk s = false → ansR s = .tup [zeroA, .int 8] := fun h => by unfold ansR; rw [h]; rfl
    have fin2 : ansOk s = true → ansR s = .tup [ansV false (ansOf s), .int 0] := fun h => by unfold ansR; rw [if_pos h]
    generalize a14 s = T at *
    obtain ⟨u, bb⟩ := T
    dsimp only [RO2, RO] at key g1 ⊢
    have hu := txt_eq_nil u
    cases bb with
    | true =>
      have fin := fin (by rw [key]; rfl)
      simp (implicitDefEqProofs := false) (disch := omega) only [go_sem, Nat.reduceAdd, Nat.reduceSub, Nat.reduceMul, Nat.reduceLT, Nat.reduceLeDiff, Nat.reduceEqDiff, List.drop_zero, List.take_succ_cons, List.take_zero, List.drop_succ_cons, Bool.and_true, Bool.true_and, Bool.and_false, Bool.false_and, BitVec.reduceOfInt, Nat.zero_add, Nat.mul_one, Nat.add_zero, Int.zero_add, Int.reduceToNat, Nat.reducePow, ↓reduceIte, reduceCtorEq, Int.reduceLE, Int.reduceLT, Int.reduceEq, Int.reduceNe, Int.reduceAdd, Int.reduceSub, Int.reduceMul, Int.reduceNeg, Nat.reduceBEq, show regOf Tryd.f21 25 = Code.region _ _ _ from rfl, show regOf Tryd.f21 26 = Code.region _ _ _ from rfl, show regOf Tryd.f21 27 = Code.region _ _ _ from rfl, g1, g2, g0, g00, aresults, tupOf, Option.map_some]
      exact ⟨_, _, _, _, _, _, _, _, _, _, _, _, _, _, _, _, rfl, .inl ⟨rfl, rfl⟩, fin⟩
    | false =>
      cases u with
      | cons c r =>
        simp only [reduceCtorEq] at hu
        have fin := fin (by rw [key]; rfl)
        simp (implicitDefEqProofs := false) (disch := omega) only [go_sem, Nat.reduceAdd, Nat.reduceSub, Nat.reduceMul, Nat.reduceLT, Nat.reduceLeDiff, Nat.reduceEqDiff, List.drop_zero, List.take_succ_cons, List.take_zero, List.drop_succ_cons, Bool.and_true, Bool.true_and, Bool.and_false, Bool.false_and, BitVec.reduceOfInt, Nat.zero_add, Nat.mul_one, Nat.add_zero, Int.zero_add, Int.reduceToNat, Nat.reducePow, ↓reduceIte, reduceCtorEq, Int.reduceLE, Int.reduceLT, Int.reduceEq, Int.reduceNe, Int.reduceAdd, Int.reduceSub, Int.reduceMul, Int.reduceNeg, Nat.reduceBEq, show regOf Tryd.f21 25 = Code.region _ _ _ from rfl, show regOf Tryd.f21 26 = Code.region _ _ _ from rfl, show regOf Tryd.f21 27 = Code.region _ _ _ from rfl, g1, g2, g0, g00, hu, aresults, tupOf, Option.map_some]
        exact ⟨_, _, _, _, _, _, _, _, _, _, _, _, _, _, _, _, rfl, .inl ⟨rfl, rfl⟩, fin⟩
      | nil =>
        simp only [reduceCtorEq] at hu
        by_cases k3 : ((uX (a9 s)).toNat : Int) > 1
        · have fin := fin (by rw [key, decide_eq_false (by unfold yk; omega)]; rfl)
          simp (implicitDefEqProofs := false) (disch := omega) only [go_sem, Nat.reduceAdd, Nat.reduceSub, Nat.reduceMul, Nat.reduceLT, Nat.reduceLeDiff, Nat.reduceEqDiff, List.drop_zero, List.take_succ_cons, List.take_zero, List.drop_succ_cons, Bool.and_true, Bool.true_and, Bool.and_false, Bool.false_and, BitVec.reduceOfInt, Nat.zero_add, Nat.mul_one, Nat.add_zero, Int.zero_add, Int.reduceToNat, Nat.reducePow, ↓reduceIte, reduceCtorEq, Int.reduceLE, Int.reduceLT, Int.reduceEq, Int.reduceNe, Int.reduceAdd, Int.reduceSub, Int.reduceMul, Int.reduceNeg, Nat.reduceBEq, show regOf Tryd.f21 25 = Code.region _ _ _ from rfl, show regOf Tryd.f21 26 = Code.region _ _ _ from rfl, show regOf Tryd.f21 27 = Code.region _ _ _ from rfl, g1, g2, g0, g00, hu, k3, aresults, tupOf, Option.map_some]
          exact ⟨_, _, _, _, _, _, _, _, _, _, _, _, _, _, _, _, rfl, .inl ⟨rfl, rfl⟩, fin⟩
        · have fin2 := fin2 (by rw [key, decide_eq_true (by unfold yk; omega)]; rfl)
          simp (implicitDefEqProofs := false) (disch := omega) only [go_sem, Nat.reduceAdd, Nat.reduceSub, Nat.reduceMul, Nat.reduceLT, Nat.reduceLeDiff, Nat.reduceEqDiff, List.drop_zero, List.take_succ_cons, List.take_zero, List.drop_succ_cons, Bool.and_true, Bool.true_and, Bool.and_false, Bool.false_and, BitVec.reduceOfInt, Nat.zero_add, Nat.mul_one, Nat.add_zero, Int.zero_add, Int.reduceToNat, Nat.reducePow, ↓reduceIte, reduceCtorEq, Int.reduceLE, Int.reduceLT, Int.reduceEq, Int.reduceNe, Int.reduceAdd, Int.reduceSub, Int.reduceMul, Int.reduceNeg, Nat.reduceBEq, show regOf Tryd.f21 25 = Code.region _ _ _ from rfl, show regOf Tryd.f21 26 = Code.region _ _ _ from rfl, show regOf Tryd.f21 27 = Code.region _ _ _ from rfl, g1, g2, g0, g00, hu, k3, aresults, tupOf, Option.map_some]
          exact ⟨_, _, _, _, _, _, _, _, _, _, _, _, _, _, _, _, rfl, PB_set (hPB _ _) (g0 _ _), fin2⟩
  obtain ⟨h, v, a0, a1, a2, a3, a4, a5, a7, a8, a9, b0, b1, b2, er, acc, e, hp, hr⟩ := e
  rw [pcall_eq, e, pure_ans hp, hr]
end Go.Proofs.YtfloombnadnmaaaDoor
namespace Go.Proofs.YtfloombnadnmaaaDoor
open Go Go.Ab Go.Proofs
set_option maxRecDepth 100000
set_option linter.unusedSimpArgs false
set_option linter.unusedVariables false
theorem eq44 (a a' : Int) (s s' t t' : ByteArray) : aeqS Tryd.prog 44 (.agg [.int a, .str s, .str t]) (.agg [.int a', .str s', .str t']) = some ((a == a') && ((s.data.toList == s'.data.toList) && ((t.data.toList == t'.data.toList) && true))) := by kernel_rfl
theorem eq44s (a : Int) (s t : ByteArray) : aeqS Tryd.prog 44 (.agg [.int a, .str s, .str t]) (.agg [.int a, .str s, .str t]) = some true := by rw [eq44]; simp
theorem eq47 (a b c d a' b' c' d' : Int) : aeqS Tryd.prog 47 (.agg [.int a, .int b, .int c, .int d]) (.agg [.int a', .int b', .int c', .int d']) = some ((a == a') && ((b == b') && ((c == c') && ((d == d') && true)))) := by kernel_rfl
theorem eq47s (a b c d : Int) : aeqS Tryd.prog 47 (.agg [.int a, .int b, .int c, .int d]) (.agg [.int a, .int b, .int c, .int d]) = some true := by rw [eq47]; simp
theorem eq25s (s : ByteArray) (a b c : Int) : aeqS Tryd.prog 25 (.agg [.str s, .int a, .int b, .int c]) (.agg [.str s, .int a, .int b, .int c]) = some true := by rw [eq25]; simp
theorem same_loop (m : Ans) (hL : m.pins.length ≤ 100000) : ∀ (r : List Pn) (i : Nat), m.pins.drop i = r → i ≤ m.pins.length →
    lrun Tryd.prog md fg (fg 20) (loopOf Tryd.f20 0) (fg 20 1) ((.unk :: .unk :: (.ptr 0 0) :: (.ptr 1 0) :: (.val (.bool false)) :: (.int i) :: .unk :: .unk :: .unk :: .unk :: .unk :: .unk :: .unk :: .unk :: .unk :: .unk :: .unk :: .unk :: .unk :: .unk :: .unk :: .unk :: .unk :: .unk :: .unk :: .unk :: .unk :: .unk :: .unk :: .unk :: .unk :: .unk :: .unk :: .unk :: .unk :: .unk :: .unk :: .unk :: .unk :: .unk :: .unk :: .unk :: .unk :: .unk :: .unk :: .unk :: .unk :: .unk :: .unk :: .unk :: .unk :: .unk :: .unk :: .unk :: .unk :: .unk :: .unk :: .unk :: .unk :: .unk :: .unk :: .unk :: .unk :: .unk :: .unk :: .unk :: .unk :: .unk :: .unk :: .unk :: .unk :: .unk :: .unk :: .unk :: .unk :: .unk :: .unk :: .unk :: .unk :: .unk :: [] : List AV)) [.vars (ansCells false m), .vars (ansCells false m)] = some (.exit 0, (.unk :: .unk :: (.ptr 0 0) :: (.ptr 1 0) :: (.val (.bool false)) :: (.int m.pins.length) :: .unk :: .unk :: .unk :: .unk :: .unk :: .unk :: .unk :: .unk :: .unk :: .unk :: .unk :: .unk :: .unk :: .unk :: .unk :: .unk :: .unk :: .unk :: .unk :: .unk :: .unk :: .unk :: .unk :: .unk :: .unk :: .unk :: .unk :: .unk :: .unk :: .unk :: .unk :: .unk :: .unk :: .unk :: .unk :: .unk :: .unk :: .unk :: .unk :: .unk :: .unk :: .unk :: .unk :: .unk :: .unk :: .unk :: .unk :: .unk :: .unk :: .unk :: .unk :: .unk :: .unk :: .unk :: .unk :: .unk :: .unk :: .unk :: .unk :: .unk :: .unk :: .unk :: .unk :: .unk :: .unk :: .unk :: .unk :: .unk :: .unk :: .unk :: .unk :: .unk :: .unk :: .unk :: [] : List AV), [.vars (ansCells false m), .vars (ansCells false m)])
  | [], i, hd, hi => by
    have : i = m.pins.length := by have := congrArg List.length hd; simp at this; omega
    subst this
    unfold ansCells
    rw [lrun_atC loop20_0]
    simp (implicitDefEqProofs := false) (disch := omega) only [go_sem, Nat.reduceAdd, Nat.reduceSub, Nat.reduceMul, Nat.reduceLT, Nat.reduceLeDiff, Nat.reduceEqDiff, List.drop_zero, List.take_succ_cons, List.take_zero, List.drop_succ_cons, Bool.and_true, Bool.true_and, Bool.and_false, Bool.false_and, BitVec.reduceOfInt, Nat.zero_add, Nat.mul_one, Nat.add_zero, Int.zero_add, Int.reduceToNat, Nat.reducePow, ↓reduceIte, reduceCtorEq, Int.reduceLE, Int.reduceLT, Int.reduceEq, Int.reduceNe, Int.reduceAdd, Int.reduceSub, Int.reduceMul, Int.reduceNeg, Nat.reduceBEq, show regOf Tryd.f20 4 = Code.region _ _ _ from rfl, List.length_map]
  | ⟨p, a, b, c⟩ :: r, i, hd, hi => by
    have hx : m.pins[i]? = some ⟨p, a, b, c⟩ := by have := congrArg (·[0]?) hd; simpa using this
    have hlt : i < m.pins.length := (List.getElem?_eq_some_iff.1 hx).1
    have hd' : m.pins.drop (i + 1) = r := by rw [← List.tail_drop, hd]; rfl
    have k1 := same_loop m hL r (i + 1) hd' (by omega)
    rw [← k1]
    unfold ansCells
    rw [lrun_atC loop20_0]
    have ht : ((i : Int)).toNat = i := by omega
    simp (implicitDefEqProofs := false) (disch := omega) only [go_sem, Nat.reduceAdd, Nat.reduceSub, Nat.reduceMul, Nat.reduceLT, Nat.reduceLeDiff, Nat.reduceEqDiff, List.drop_zero, List.take_succ_cons, List.take_zero, List.drop_succ_cons, Bool.and_true, Bool.true_and, Bool.and_false, Bool.false_and, BitVec.reduceOfInt, Nat.zero_add, Nat.mul_one, Nat.add_zero, Int.zero_add, Int.reduceToNat, Nat.reducePow, ↓reduceIte, reduceCtorEq, Int.reduceLE, Int.reduceLT, Int.reduceEq, Int.reduceNe, Int.reduceAdd, Int.reduceSub, Int.reduceMul, Int.reduceNeg, Nat.reduceBEq, show regOf Tryd.f20 4 = Code.region _ _ _ from rfl, show regOf Tryd.f20 5 = Code.region _ _ _ from rfl, show regOf Tryd.f20 6 = Code.region _ _ _ from rfl, List.length_map, List.getElem?_map, ht, hx, Option.map_some, abin_agg, eq25s, bind_some, aeqb_neq, Bool.not_true]
    all_goals (congr 1 <;> simp only [List.cons.injEq, AV.val.injEq, Value.int.injEq, Value.bool.injEq, true_and, and_true] <;> omega)
theorem same_p (m : Ans) (hL : m.pins.length ≤ 100000) : pcall Tryd.prog md fg 20 [ansV false m, ansV false m] = some (.val (.bool true)) := by
  have e : ∃ h, aval Tryd.prog md fg 20 [ansV false m, ansV false m] [] = some (.val (.bool true), h) := by
    have lp := same_loop m hL m.pins 0 (by simp) (by omega)
    simp only [Int.natCast_zero] at lp
    unfold ansCells at lp
    rw [aval_of Tryd.func20 body20 Tryd.results20 Tryd.ntmps20 ok20]
    simp (implicitDefEqProofs := false) (disch := omega) only [go_sem, Nat.reduceAdd, Nat.reduceSub, Nat.reduceMul, Nat.reduceLT, Nat.reduceLeDiff, Nat.reduceEqDiff, List.drop_zero, List.take_succ_cons, List.take_zero, List.drop_succ_cons, Bool.and_true, Bool.true_and, Bool.and_false, Bool.false_and, BitVec.reduceOfInt, Nat.zero_add, Nat.mul_one, Nat.add_zero, Int.zero_add, Int.reduceToNat, Nat.reducePow, ↓reduceIte, reduceCtorEq, Int.reduceLE, Int.reduceLT, Int.reduceEq, Int.reduceNe, Int.reduceAdd, Int.reduceSub, Int.reduceMul, Int.reduceNeg, Nat.reduceBEq, show regOf Tryd.f20 0 = Code.region _ _ _ from rfl, show regOf Tryd.f20 1 = Code.region _ _ _ from rfl, show regOf Tryd.f20 3 = Code.region _ _ _ from rfl, show regOf Tryd.f20 8 = Code.region _ _ _ from rfl, List.length_map, abin_agg, eq44s, eq47s, bind_some, aeqb_neq, Bool.not_true, lp]
    exact ⟨_, rfl⟩
  obtain ⟨h, e⟩ := e
  rw [pcall_eq, e, pureRes_solid rfl]
end Go.Proofs.YtfloombnadnmaaaDoor
namespace Go.Proofs.YtfloombnadnmaaaDoor
open Go Go.Ab Go.Proofs
set_option maxRecDepth 100000
set_option linter.unusedSimpArgs false
set_option linter.unusedVariables false
theorem solid_pins : ∀ l : List Pn, solidL (l.map pnV) = true
  | [] => rfl
  | x :: r => by simp only [List.map_cons, solidL, Bool.and_eq_true]; exact ⟨rfl, solid_pins r⟩
theorem solid_ans (m : Ans) : solid (ansV false m) = true := by
  simp only [solid, solidL, solid_pins, Bool.not_false, Bool.and_true]
theorem same_c (m : Ans) (hL : m.pins.length ≤ 100000) (h : AHeap) : doCall md (aval Tryd.prog md fg) 20 [ansV false m, ansV false m] h = some (.val (.bool true), h) := doCall_pure md20 (by show (solid (ansV false m) && (solid (ansV false m) && true)) = true; rw [solid_ans]; rfl) (same_p m hL)
theorem told_c (m : Ans) (hm : m.ok) (h : AHeap) : doCall md (aval Tryd.prog md fg) 17 [ansV false m] h = some (.val (.string (txt (toldL m))), h) := doCall_pure md17 (by show (solid (ansV false m) && true) = true; rw [solid_ans]; rfl) (told_p false m hm)
theorem rtold_c (m : Ans) (hm : m.ok) (h : AHeap) : doCall md (aval Tryd.prog md fg) 19 [ansV false m] h = some (.val (.string (txt (toldL m))), h) := doCall_pure md19 (by show (solid (ansV false m) && true) = true; rw [solid_ans]; rfl) (rtoldA_p false m hm)
def zA : Ans := ⟨0, 0, 0, 0, [], [], [], [], false, 0, 0, 0, 0⟩
set_option maxHeartbeats 8000000 in
theorem commandReads (s : ByteArray) : pcall Tryd.prog md fg 6 [.str s] = some (.bool true) := by
  obtain ⟨S, rfl⟩ := txt_of s
  have hz := txt_size S
  have e : ∃ h, aval Tryd.prog md fg 6 [.str (txt S)] [] = some (.bool true, h) := by
    by_cases h1 : S.length ≤ 4000
    · have c18 : ∀ h : AHeap, doCall md (aval Tryd.prog md fg) 18 [.str (txt S)] h = some (ansR S, h) := fun h => doCall_pure md18 rfl (answer_p (by omega) fun h => ans_ok h1 h)
      have c21 : ∀ h : AHeap, doCall md (aval Tryd.prog md fg) 21 [.str (txt S)] h = some (ansR S, h) := fun h => doCall_pure md21 rfl (ranswer_p h1)
      cases hd : ansOk S with
      | false =>
        have er : ansR S = .tup [ansV false zA, .int 8] := by unfold ansR; rw [hd]; rfl
        rw [er] at c18 c21
        have cs := same_c zA (by simp [zA])
        rw [aval_of Tryd.func6 body6 Tryd.results6 Tryd.ntmps6 ok6]
        simp (implicitDefEqProofs := false) (disch := omega) only [go_sem, Nat.reduceAdd, Nat.reduceSub, Nat.reduceMul, Nat.reduceLT, Nat.reduceLeDiff, Nat.reduceEqDiff, List.drop_zero, List.take_succ_cons, List.take_zero, List.drop_succ_cons, Bool.and_true, Bool.true_and, Bool.and_false, Bool.false_and, BitVec.reduceOfInt, Nat.zero_add, Nat.mul_one, Nat.add_zero, Int.zero_add, Int.reduceToNat, Nat.reducePow, ↓reduceIte, reduceCtorEq, Int.reduceLE, Int.reduceLT, Int.reduceEq, Int.reduceNe, Int.reduceAdd, Int.reduceSub, Int.reduceMul, Int.reduceNeg, Nat.reduceBEq, show regOf Tryd.f6 0 = Code.region _ _ _ from rfl, show regOf Tryd.f6 1 = Code.region _ _ _ from rfl, show regOf Tryd.f6 2 = Code.region _ _ _ from rfl, show regOf Tryd.f6 3 = Code.region _ _ _ from rfl, show regOf Tryd.f6 4 = Code.region _ _ _ from rfl, show regOf Tryd.f6 5 = Code.region _ _ _ from rfl, c18, c21, cs, no_c, alive_c]
        exact ⟨_, rfl⟩
      | true =>
        have er : ansR S = .tup [ansV false (ansOf S), .int 0] := by unfold ansR; rw [if_pos hd]
        rw [er] at c18 c21
        have ho := ans_ok h1 hd
        have cs := same_c (ansOf S) (by have := ho.2.2.2.2.2.1; omega)
        have ct := told_c (ansOf S) ho
        rw [(ans_told hd).1] at ct
        generalize ansOf S = m at *
        obtain ⟨m1, m2, m3, m4, m5, m6, m7, m8, m9, n1, n2, n3, n4⟩ := m
        dsimp only [ansV] at c18 c21 cs ct
        rw [aval_of Tryd.func6 body6 Tryd.results6 Tryd.ntmps6 ok6]
        simp (implicitDefEqProofs := false) (disch := omega) only [go_sem, Nat.reduceAdd, Nat.reduceSub, Nat.reduceMul, Nat.reduceLT, Nat.reduceLeDiff, Nat.reduceEqDiff, List.drop_zero, List.take_succ_cons, List.take_zero, List.drop_succ_cons, Bool.and_true, Bool.true_and, Bool.and_false, Bool.false_and, BitVec.reduceOfInt, Nat.zero_add, Nat.mul_one, Nat.add_zero, Int.zero_add, Int.reduceToNat, Nat.reducePow, ↓reduceIte, reduceCtorEq, Int.reduceLE, Int.reduceLT, Int.reduceEq, Int.reduceNe, Int.reduceAdd, Int.reduceSub, Int.reduceMul, Int.reduceNeg, Nat.reduceBEq, show regOf Tryd.f6 0 = Code.region _ _ _ from rfl, show regOf Tryd.f6 1 = Code.region _ _ _ from rfl, show regOf Tryd.f6 2 = Code.region _ _ _ from rfl, show regOf Tryd.f6 3 = Code.region _ _ _ from rfl, show regOf Tryd.f6 4 = Code.region _ _ _ from rfl, show regOf Tryd.f6 5 = Code.region _ _ _ from rfl, c18, c21, cs, ct, no_c, alive_c]
        exact ⟨_, rfl⟩
    · rw [aval_of Tryd.func6 body6 Tryd.results6 Tryd.ntmps6 ok6]
      simp (implicitDefEqProofs := false) (disch := omega) only [go_sem, Nat.reduceAdd, Nat.reduceSub, Nat.reduceMul, Nat.reduceLT, Nat.reduceLeDiff, Nat.reduceEqDiff, List.drop_zero, List.take_succ_cons, List.take_zero, List.drop_succ_cons, Bool.and_true, Bool.true_and, Bool.and_false, Bool.false_and, BitVec.reduceOfInt, Nat.zero_add, Nat.mul_one, Nat.add_zero, Int.zero_add, Int.reduceToNat, Nat.reducePow, ↓reduceIte, reduceCtorEq, Int.reduceLE, Int.reduceLT, Int.reduceEq, Int.reduceNe, Int.reduceAdd, Int.reduceSub, Int.reduceMul, Int.reduceNeg, Nat.reduceBEq, show regOf Tryd.f6 0 = Code.region _ _ _ from rfl, show regOf Tryd.f6 1 = Code.region _ _ _ from rfl, show regOf Tryd.f6 2 = Code.region _ _ _ from rfl, alive_c]
      exact ⟨_, rfl⟩
  obtain ⟨h, e⟩ := e
  rw [pcall_eq, e, pureRes_solid rfl]
end Go.Proofs.YtfloombnadnmaaaDoor
namespace Go.Proofs.YtfloombnadnmaaaDoor
open Go Go.Ab Go.Proofs
set_option maxRecDepth 100000
set_option linter.unusedSimpArgs false
set_option linter.unusedVariables false
theorem i_back {n : Int} (hn : I64 n) (r : List UInt8) : iX (zg n ++ r, false) = n ∧ uN (zg n ++ r, false) = (r, false) := by
  have hz := zigN_range hn.1 hn.2
  obtain ⟨y, hy⟩ : ∃ y : BitVec 64, zigN n = (y.toNat : Int) := ⟨_, v64_of hz.1 hz.2⟩
  have e : zg n = uvarN y.toNat := by unfold zg; rw [hy]; rfl
  obtain ⟨a, b⟩ := u_back y r
  rw [e]
  refine ⟨?_, b⟩
  show zagN ((uA (uvarN y.toNat ++ r) false).toNat : Int) = n
  rw [a, ← hy, zag_zig]
theorem x_back {n : Nat} (hn : n < 2 ^ 62) (r : List UInt8) : (uX (num (n : Int) ++ r, false)).toNat = n ∧ uN (num (n : Int) ++ r, false) = (r, false) := by
  have e : num (n : Int) = uvarN (BitVec.ofNat 64 n).toNat := by unfold num; rw [BitVec.toNat_ofNat, Nat.mod_eq_of_lt (by omega)]; rfl
  obtain ⟨a, b⟩ := u_back (BitVec.ofNat 64 n) r
  rw [e]
  refine ⟨?_, b⟩
  show (uA _ false).toNat = n
  rw [a, BitVec.toNat_ofNat, Nat.mod_eq_of_lt (by omega)]
theorem t_back2 {t : List UInt8} (ht : t.length ≤ 100000) (r : List UInt8) : tX (textL t ++ r, false) = t ∧ tN (textL t ++ r, false) = (r, false) := t_back t r ht
theorem zgs4_back {a b c d : Int} (ha : I64 a) (hb : I64 b) (hc : I64 c) (hd : I64 d) (r : List UInt8) :
    iX (zgs [a, b, c, d] ++ r, false) = a ∧ iX (uN (zgs [a, b, c, d] ++ r, false)) = b ∧ iX (uN (uN (zgs [a, b, c, d] ++ r, false))) = c ∧ iX (uN (uN (uN (zgs [a, b, c, d] ++ r, false)))) = d ∧ u4 (zgs [a, b, c, d] ++ r, false) = (r, false) := by
  have e : zgs [a, b, c, d] ++ r = zg a ++ (zg b ++ (zg c ++ (zg d ++ r))) := by simp only [zgs, List.append_nil, List.append_assoc]
  rw [e]
  unfold u4
  rw [(i_back ha _).1, (i_back ha _).2, (i_back hb _).1, (i_back hb _).2, (i_back hc _).1, (i_back hc _).2, (i_back hd _).1, (i_back hd _).2]
  exact ⟨rfl, rfl, rfl, rfl, rfl⟩
theorem pn_back {x : Pn} (hx : x.ok) (r : List UInt8) : pnX ((textL x.p ++ zgs [x.a, x.b, x.c]) ++ r, false) = x ∧ pnN ((textL x.p ++ zgs [x.a, x.b, x.c]) ++ r, false) = (r, false) := by
  obtain ⟨p, a, b, c⟩ := x
  obtain ⟨h1, h2, h3, h4⟩ := hx
  dsimp only at h1 h2 h3 h4
  have e : (textL p ++ zgs [a, b, c]) ++ r = textL p ++ (zg a ++ (zg b ++ (zg c ++ r))) := by simp only [zgs, List.append_nil, List.append_assoc]
  dsimp only
  rw [e]
  unfold pnX pnN
  rw [(t_back2 (by omega) _).1, (t_back2 (by omega) _).2, (i_back h2 _).1, (i_back h2 _).2, (i_back h3 _).1, (i_back h3 _).2, (i_back h4 _).1, (i_back h4 _).2]
  exact ⟨rfl, rfl⟩
theorem pR_back : ∀ (l : List Pn), (∀ x ∈ l, x.ok) → ∀ r, pR l.length (pinsL l ++ r, false) = (l, (r, false))
  | [], _, r => rfl
  | x :: l, h, r => by
    obtain ⟨p1, p2⟩ := pn_back (h x (List.mem_cons_self ..)) (pinsL l ++ r)
    have ih := pR_back l (fun y hy => h y (List.mem_cons_of_mem _ hy)) r
    show pR (l.length + 1) _ = _
    unfold pR
    simp only [pinsL, List.append_assoc] at *
    rw [p1, p2, ih]
    rfl
/-- What was told is read back. -/
theorem ans_back {m : Ans} (hm : m.ok) : ansOk (toldL m) = true ∧ ansOf (toldL m) = m := by
  obtain ⟨err, at', gap, kind, name, con, pins, text, y, r1, r2, r3, r4⟩ := m
  obtain ⟨⟨i1, i2, i3, i4⟩, ⟨i5, i6, i7, i8⟩, q1, q2, q3, q4, q5, q6⟩ := hm
  dsimp only at i1 i2 i3 i4 i5 i6 i7 i8 q1 q2 q3 q4 q5 q6
  obtain ⟨w1, hw1⟩ : ∃ w, w = zgs [r1, r2, r3, r4] ++ [] := ⟨_, rfl⟩
  obtain ⟨w2, hw2⟩ : ∃ w, w = num ((if y then 1 else 0 : Nat) : Int) ++ w1 := ⟨_, rfl⟩
  obtain ⟨w3, hw3⟩ : ∃ w, w = textL text ++ w2 := ⟨_, rfl⟩
  obtain ⟨w4, hw4⟩ : ∃ w, w = pinsL pins ++ w3 := ⟨_, rfl⟩
  obtain ⟨w5, hw5⟩ : ∃ w, w = num (pins.length : Int) ++ w4 := ⟨_, rfl⟩
  obtain ⟨w6, hw6⟩ : ∃ w, w = textL con ++ w5 := ⟨_, rfl⟩
  obtain ⟨w7, hw7⟩ : ∃ w, w = textL name ++ w6 := ⟨_, rfl⟩
  obtain ⟨s, hs⟩ : ∃ w, w = zgs [err, at', gap, kind] ++ w7 := ⟨_, rfl⟩
  have e : toldL ⟨err, at', gap, kind, name, con, pins, text, y, r1, r2, r3, r4⟩ = s := by
    have hy : ((if y then 1 else 0 : Nat) : Int) = if y then 1 else 0 := by cases y <;> rfl
    rw [hs, hw7, hw6, hw5, hw4, hw3, hw2, hw1, hy]
    unfold toldL
    simp only [txs, List.append_nil, List.append_assoc]
  rw [e]
  obtain ⟨s1, s2, s3, s4, s5⟩ := zgs4_back i1 i2 i3 i4 w7
  obtain ⟨t1, t2⟩ := t_back2 (t := name) (by omega) w6
  obtain ⟨t3, t4⟩ := t_back2 (t := con) (by omega) w5
  obtain ⟨x1, x2⟩ := x_back (n := pins.length) (by omega) w4
  have p1 := pR_back pins q5 w3
  obtain ⟨t5, t6⟩ := t_back2 (t := text) (by omega) w2
  obtain ⟨x3, x4⟩ := x_back (n := if y then 1 else 0) (by split <;> omega) w1
  obtain ⟨v1, v2, v3, v4, v5⟩ := zgs4_back i5 i6 i7 i8 []
  rw [← hs] at s1 s2 s3 s4 s5
  rw [← hw7] at t1 t2
  rw [← hw6] at t3 t4
  rw [← hw5] at x1 x2
  rw [← hw4] at p1
  rw [← hw3] at t5 t6
  rw [← hw2] at x3 x4
  rw [← hw1] at v1 v2 v3 v4 v5
  have f4 : a4 s = (w7, false) := s5
  have f6 : a6 s = (w5, false) := by unfold a6; rw [f4, t2, t4]
  have f7 : a7 s = (w4, false) := by unfold a7; rw [f6, x2]
  have fn : nn s = pins.length := by unfold nn; rw [f6, x1]
  have f8 : a8 s = (w3, false) := by unfold a8; rw [f7, fn, p1]
  have f9 : a9 s = (w2, false) := by unfold a9; rw [f8, t6]
  have fy : (yk s).toNat = if y then 1 else 0 := by unfold yk; rw [f9, x3]
  have f10 : a10 s = (w1, false) := by unfold a10; rw [f9, x4]
  have f14 : a14 s = ([], false) := by unfold a14; rw [f10, v5]
  refine ⟨?_, ?_⟩
  · unfold ansOk
    rw [f14, fy]
    cases y <;> rfl
  · unfold ansOf
    rw [f4, f10, f7, fn, fy, s1, s2, s3, s4, t1, t2, t3, p1, f8, t5, v1, v2, v3, v4]
    cases y <;> rfl
theorem toldL_len {m : Ans} (hm : m.ok) : (toldL m).length ≤ 60000 := by
  obtain ⟨⟨i1, i2, i3, i4⟩, ⟨i5, i6, i7, i8⟩, q1, q2, q3, q4, q5, q6⟩ := hm
  have n1 := zgs_len _ (zgs4 i1 i2 i3 i4)
  have n2 := zgs_len _ (zgs4 i5 i6 i7 i8)
  have l1 := textL_len (t := m.name) (by omega)
  have l2 := textL_len (t := m.con) (by omega)
  have l3 := textL_len (t := m.text) (by omega)
  have l4 := num_len (m.pins.length : Int) (by omega)
  have l5 := num_len (if m.y then 1 else 0) (by split <;> omega)
  simp only [List.length_cons, List.length_nil] at n1 n2
  unfold toldL
  simp only [txs, List.append_nil, List.length_append]
  omega
end Go.Proofs.YtfloombnadnmaaaDoor
namespace Go.Proofs.YtfloombnadnmaaaDoor
open Go Go.Ab Go.Proofs
set_option maxRecDepth 100000
set_option linter.unusedSimpArgs false
set_option linter.unusedVariables false
def mn (n : Nat) : Int := if (100000 : Int) < (n : Int) then 100000 else (n : Int)
theorem mn_range (n : Nat) : 0 ≤ mn n ∧ mn n ≤ 100000 := by unfold mn; split <;> omega
theorem mn_small {n : Nat} (h : mn n ≤ 4000) : n ≤ 4000 := by unfold mn at h; split at h <;> omega
def sumP : List Pn → Int
  | [] => 0
  | x :: r => mn x.p.length + sumP r
theorem sumP_pos : ∀ l, 0 ≤ sumP l
  | [] => by simp [sumP]
  | x :: r => by have := sumP_pos r; have := mn_range x.p.length; simp only [sumP]; omega
theorem sumP_mem : ∀ {l : List Pn} {x : Pn}, x ∈ l → mn x.p.length ≤ sumP l
  | y :: r, x, h => by
    have := sumP_pos r
    have := mn_range y.p.length
    simp only [sumP]
    rcases List.mem_cons.1 h with rfl | h
    · omega
    · have := sumP_mem h; omega
set_option maxHeartbeats 4000000 in
theorem sum_loop (m : Ans) (hL : m.pins.length ≤ 9223372036854775807) (hp : ∀ x ∈ m.pins, x.p.length ≤ 9223372036854775807) : ∀ (r : List Pn) (i : Nat) (n : Int), (m.pins.take 101).drop i = r → i ≤ (m.pins.take 101).length → 0 ≤ n → n + 100000 * (r.length : Int) ≤ 1000000000 →
    lrun Tryd.prog md fg (fg 5) (loopOf Tryd.f5 0) (fg 5 1) ((.unk :: (.ptr 0 0) :: .unk :: (.int n) :: (.int i) :: .unk :: .unk :: .unk :: .unk :: .unk :: .unk :: .unk :: .unk :: .unk :: .unk :: .unk :: .unk :: .unk :: .unk :: .unk :: .unk :: .unk :: .unk :: .unk :: .unk :: .unk :: .unk :: .unk :: .unk :: .unk :: .unk :: .unk :: .unk :: .unk :: .unk :: .unk :: .unk :: .unk :: .unk :: .unk :: .unk :: .unk :: .unk :: .unk :: .unk :: .unk :: .unk :: .unk :: .unk :: .unk :: .unk :: .unk :: .unk :: .unk :: .unk :: .unk :: .unk :: .unk :: .unk :: .unk :: .unk :: .unk :: .unk :: .unk :: .unk :: .unk :: .unk :: .unk :: .unk :: .unk :: .unk :: .unk :: .unk :: .unk :: .unk :: .unk :: .unk :: .unk :: [] : List AV)) [.vars (ansCells false m)] = some (.exit 0, (.unk :: (.ptr 0 0) :: .unk :: (.int (n + sumP r)) :: (.int ((m.pins.take 101).length : Int)) :: .unk :: .unk :: .unk :: .unk :: .unk :: .unk :: .unk :: .unk :: .unk :: .unk :: .unk :: .unk :: .unk :: .unk :: .unk :: .unk :: .unk :: .unk :: .unk :: .unk :: .unk :: .unk :: .unk :: .unk :: .unk :: .unk :: .unk :: .unk :: .unk :: .unk :: .unk :: .unk :: .unk :: .unk :: .unk :: .unk :: .unk :: .unk :: .unk :: .unk :: .unk :: .unk :: .unk :: .unk :: .unk :: .unk :: .unk :: .unk :: .unk :: .unk :: .unk :: .unk :: .unk :: .unk :: .unk :: .unk :: .unk :: .unk :: .unk :: .unk :: .unk :: .unk :: .unk :: .unk :: .unk :: .unk :: .unk :: .unk :: .unk :: .unk :: .unk :: .unk :: .unk :: [] : List AV), [.vars (ansCells false m)])
  | [], i, n, hd, hi, hn, hb => by
    have : i = (m.pins.take 101).length := by have := congrArg List.length hd; simp only [List.length_drop, List.length_nil] at this; omega
    subst this
    rw [sumP, Int.add_zero]
    have hm : (m.pins.take 101).length = min 101 m.pins.length := List.length_take ..
    generalize hk : (m.pins.take 101).length = k at *
    unfold ansCells
    rw [lrun_atC loop5_0]
    by_cases hc : m.pins.length ≤ 100
    · simp (implicitDefEqProofs := false) (disch := omega) only [go_sem, Nat.reduceAdd, Nat.reduceSub, Nat.reduceMul, Nat.reduceLT, Nat.reduceLeDiff, Nat.reduceEqDiff, List.drop_zero, List.take_succ_cons, List.take_zero, List.drop_succ_cons, Bool.and_true, Bool.true_and, Bool.and_false, Bool.false_and, BitVec.reduceOfInt, Nat.zero_add, Nat.mul_one, Nat.add_zero, Int.zero_add, Int.reduceToNat, Nat.reducePow, ↓reduceIte, reduceCtorEq, Int.reduceLE, Int.reduceLT, Int.reduceEq, Int.reduceNe, Int.reduceAdd, Int.reduceSub, Int.reduceMul, Int.reduceNeg, Nat.reduceBEq, show regOf Tryd.f5 3 = Code.region _ _ _ from rfl, List.length_map]
    · by_cases hc2 : m.pins.length = 101
      · have h1 : ¬ (k : Int) < (m.pins.length : Int) := by omega
        simp (implicitDefEqProofs := false) (disch := omega) only [go_sem, Nat.reduceAdd, Nat.reduceSub, Nat.reduceMul, Nat.reduceLT, Nat.reduceLeDiff, Nat.reduceEqDiff, List.drop_zero, List.take_succ_cons, List.take_zero, List.drop_succ_cons, Bool.and_true, Bool.true_and, Bool.and_false, Bool.false_and, BitVec.reduceOfInt, Nat.zero_add, Nat.mul_one, Nat.add_zero, Int.zero_add, Int.reduceToNat, Nat.reducePow, ↓reduceIte, reduceCtorEq, Int.reduceLE, Int.reduceLT, Int.reduceEq, Int.reduceNe, Int.reduceAdd, Int.reduceSub, Int.reduceMul, Int.reduceNeg, Nat.reduceBEq, show regOf Tryd.f5 3 = Code.region _ _ _ from rfl, List.length_map, h1]
      · have h1 : (k : Int) < (m.pins.length : Int) := by omega
        simp (implicitDefEqProofs := false) (disch := omega) only [go_sem, Nat.reduceAdd, Nat.reduceSub, Nat.reduceMul, Nat.reduceLT, Nat.reduceLeDiff, Nat.reduceEqDiff, List.drop_zero, List.take_succ_cons, List.take_zero, List.drop_succ_cons, Bool.and_true, Bool.true_and, Bool.and_false, Bool.false_and, BitVec.reduceOfInt, Nat.zero_add, Nat.mul_one, Nat.add_zero, Int.zero_add, Int.reduceToNat, Nat.reducePow, ↓reduceIte, reduceCtorEq, Int.reduceLE, Int.reduceLT, Int.reduceEq, Int.reduceNe, Int.reduceAdd, Int.reduceSub, Int.reduceMul, Int.reduceNeg, Nat.reduceBEq, show regOf Tryd.f5 3 = Code.region _ _ _ from rfl, List.length_map, h1]
  | ⟨p, a, b, c⟩ :: r, i, n, hd, hi, hn, hb => by
    have hx0 : (m.pins.take 101)[i]? = some ⟨p, a, b, c⟩ := by have := congrArg (·[0]?) hd; simpa using this
    have hlt : i < (m.pins.take 101).length := (List.getElem?_eq_some_iff.1 hx0).1
    have hm : (m.pins.take 101).length = min 101 m.pins.length := List.length_take ..
    have hx : m.pins[i]? = some ⟨p, a, b, c⟩ := by rw [List.getElem?_take_of_lt (by omega)] at hx0; exact hx0
    have hd' : (m.pins.take 101).drop (i + 1) = r := by rw [← List.tail_drop, hd]; rfl
    have hmr := mn_range p.length
    simp only [List.length_cons] at hb
    have k1 := sum_loop m hL hp r (i + 1) (n + mn p.length) hd' (by omega) (by omega) (by omega)
    have e : n + sumP (⟨p, a, b, c⟩ :: r) = n + mn p.length + sumP r := by simp only [sumP]; omega
    have hpl : p.length ≤ 9223372036854775807 := hp _ (List.mem_of_getElem? hx)
    rw [e, ← k1]
    have hsz := txt_size p
    unfold ansCells
    generalize hk : (m.pins.take 101).length = k at *
    unfold mn at *
    rw [lrun_atC loop5_0]
    have ht : ((i : Int)).toNat = i := by omega
    simp (implicitDefEqProofs := false) (disch := omega) only [go_sem, Nat.reduceAdd, Nat.reduceSub, Nat.reduceMul, Nat.reduceLT, Nat.reduceLeDiff, Nat.reduceEqDiff, List.drop_zero, List.take_succ_cons, List.take_zero, List.drop_succ_cons, Bool.and_true, Bool.true_and, Bool.and_false, Bool.false_and, BitVec.reduceOfInt, Nat.zero_add, Nat.mul_one, Nat.add_zero, Int.zero_add, Int.reduceToNat, Nat.reducePow, ↓reduceIte, reduceCtorEq, Int.reduceLE, Int.reduceLT, Int.reduceEq, Int.reduceNe, Int.reduceAdd, Int.reduceSub, Int.reduceMul, Int.reduceNeg, Nat.reduceBEq, show regOf Tryd.f5 3 = Code.region _ _ _ from rfl, show regOf Tryd.f5 4 = Code.region _ _ _ from rfl, show regOf Tryd.f5 5 = Code.region _ _ _ from rfl, List.length_map, List.getElem?_map, ht, hx, Option.map_some, hsz]
    all_goals (congr 1 <;> simp only [List.cons.injEq, AV.val.injEq, Value.int.injEq, Value.bool.injEq, true_and, and_true] <;> omega)
theorem take_all {l : List Pn} (h : l.length ≤ 100) : l.take 101 = l := List.take_of_length_le (by omega)
set_option maxHeartbeats 8000000 in
theorem commandAnswers (m : Ans) (hi : (I64 m.err ∧ I64 m.at' ∧ I64 m.gap ∧ I64 m.kind) ∧ (I64 m.r1 ∧ I64 m.r2 ∧ I64 m.r3 ∧ I64 m.r4)) (hpi : ∀ x ∈ m.pins, I64 x.a ∧ I64 x.b ∧ I64 x.c)
    (hn : m.name.length ≤ 9223372036854775807) (hc : m.con.length ≤ 9223372036854775807) (ht : m.text.length ≤ 9223372036854775807) (hL : m.pins.length ≤ 9223372036854775807) (hp : ∀ x ∈ m.pins, x.p.length ≤ 9223372036854775807) :
    pcall Tryd.prog md fg 5 [ansV false m] = some (.bool true) := by
  have e : ∃ h, aval Tryd.prog md fg 5 [ansV false m] [] = some (.bool true, h) := by
    have z1 := txt_size m.name
    have z2 := txt_size m.con
    have z3 := txt_size m.text
    have q1 := mn_range m.name.length
    have q2 := mn_range m.con.length
    have q3 := mn_range m.text.length
    have lp := sum_loop m hL hp (m.pins.take 101) 0 (mn m.text.length + mn m.name.length + mn m.con.length) (by simp) (by omega) (by omega) (by have : (m.pins.take 101).length ≤ 101 := List.length_take_le ..; omega)
    have sp := sumP_pos (m.pins.take 101)
    simp only [Int.natCast_zero] at lp
    by_cases h1 : m.pins.length ≤ 100
    · rw [take_all h1] at lp sp
      by_cases h2 : mn m.text.length + mn m.name.length + mn m.con.length + sumP m.pins ≤ 4000
      · have o1 := mn_small (n := m.text.length) (by omega)
        have o2 := mn_small (n := m.name.length) (by omega)
        have o3 := mn_small (n := m.con.length) (by omega)
        have e1 : mn m.text.length = (m.text.length : Int) := by unfold mn; rw [if_neg (by omega)]
        have e2 : mn m.name.length = (m.name.length : Int) := by unfold mn; rw [if_neg (by omega)]
        have e3 : mn m.con.length = (m.con.length : Int) := by unfold mn; rw [if_neg (by omega)]
        have op : ∀ x ∈ m.pins, x.p.length ≤ 4000 := fun x hx => mn_small (by have := sumP_mem hx; omega)
        have ok : ∀ x ∈ m.pins, x.ok := fun x hx => ⟨op x hx, (hpi x hx).1, (hpi x hx).2.1, (hpi x hx).2.2⟩
        have lb : ∀ l : List Pn, (∀ x ∈ l, x.ok) → ((pinsL l).length : Int) ≤ 40 * (l.length : Int) + sumP l := by
          intro l
          induction l with
          | nil => intro _; simp [pinsL, sumP]
          | cons x r ih =>
            intro h
            have hx := h x (List.mem_cons_self ..)
            have := ih fun y hy => h y (List.mem_cons_of_mem _ hy)
            have t1 := textL_len (t := x.p) (by have := hx.1; omega)
            have t2 := zg_len hx.2.1
            have t3 := zg_len hx.2.2.1
            have t4 := zg_len hx.2.2.2
            have t5 : mn x.p.length = (x.p.length : Int) := by unfold mn; have := hx.1; rw [if_neg (by omega)]
            simp only [pinsL, sumP, zgs, List.append_nil, List.length_append, List.length_cons]
            omega
        have lb := lb m.pins ok
        have hok : m.ok := ⟨hi.1, hi.2, o2, o3, o1, by omega, ok, by omega⟩
        have hb := ans_back hok
        have c17 := told_c m hok
        have c19 := rtold_c m hok
        have er : ansR (toldL m) = .tup [ansV false m, .int 0] := by unfold ansR; rw [if_pos hb.1, hb.2]
        have c18 : ∀ h : AHeap, doCall md (aval Tryd.prog md fg) 18 [.val (.string (txt (toldL m)))] h = some (.tup [ansV false m, .int 0], h) := fun h => doCall_pure md18 rfl (by
          have := answer_p (s := toldL m) (toldL_len hok) (fun _ => by rw [hb.2]; exact hok)
          rw [er] at this; exact this)
        have c20 := same_c m (by omega)
        rw [e1, e2, e3] at lp h2
        clear e1 e2 e3 q1 q2 q3
        generalize txt (toldL m) = T at *
        generalize sumP m.pins = sm at *
        obtain ⟨m1, m2, m3, m4, m5, m6, m7, m8, m9, n1, n2, n3, n4⟩ := m
        dsimp only [ansV, ansCells] at c17 c18 c19 c20 lp z1 z2 z3 h1 h2 ⊢
        rw [aval_of Tryd.func5 body5 Tryd.results5 Tryd.ntmps5 ok5]
        simp (implicitDefEqProofs := false) (disch := omega) only [go_sem, Nat.reduceAdd, Nat.reduceSub, Nat.reduceMul, Nat.reduceLT, Nat.reduceLeDiff, Nat.reduceEqDiff, List.drop_zero, List.take_succ_cons, List.take_zero, List.drop_succ_cons, Bool.and_true, Bool.true_and, Bool.and_false, Bool.false_and, BitVec.reduceOfInt, Nat.zero_add, Nat.mul_one, Nat.add_zero, Int.zero_add, Int.reduceToNat, Nat.reducePow, ↓reduceIte, reduceCtorEq, Int.reduceLE, Int.reduceLT, Int.reduceEq, Int.reduceNe, Int.reduceAdd, Int.reduceSub, Int.reduceMul, Int.reduceNeg, Nat.reduceBEq, show regOf Tryd.f5 0 = Code.region _ _ _ from rfl, show regOf Tryd.f5 1 = Code.region _ _ _ from rfl, show regOf Tryd.f5 2 = Code.region _ _ _ from rfl, show regOf Tryd.f5 6 = Code.region _ _ _ from rfl, show regOf Tryd.f5 7 = Code.region _ _ _ from rfl, show regOf Tryd.f5 8 = Code.region _ _ _ from rfl, show regOf Tryd.f5 9 = Code.region _ _ _ from rfl, show regOf Tryd.f5 10 = Code.region _ _ _ from rfl, List.length_map, z1, z2, z3, lp, c17, c18, c19, c20, no_c, alive_c]
        exact ⟨_, rfl⟩
      · generalize sumP m.pins = sm at *
        obtain ⟨m1, m2, m3, m4, m5, m6, m7, m8, m9, n1, n2, n3, n4⟩ := m
        dsimp only [ansV, ansCells] at lp z1 z2 z3 h1 h2 ⊢
        unfold mn at *
        rw [aval_of Tryd.func5 body5 Tryd.results5 Tryd.ntmps5 ok5]
        simp (implicitDefEqProofs := false) (disch := omega) only [go_sem, Nat.reduceAdd, Nat.reduceSub, Nat.reduceMul, Nat.reduceLT, Nat.reduceLeDiff, Nat.reduceEqDiff, List.drop_zero, List.take_succ_cons, List.take_zero, List.drop_succ_cons, Bool.and_true, Bool.true_and, Bool.and_false, Bool.false_and, BitVec.reduceOfInt, Nat.zero_add, Nat.mul_one, Nat.add_zero, Int.zero_add, Int.reduceToNat, Nat.reducePow, ↓reduceIte, reduceCtorEq, Int.reduceLE, Int.reduceLT, Int.reduceEq, Int.reduceNe, Int.reduceAdd, Int.reduceSub, Int.reduceMul, Int.reduceNeg, Nat.reduceBEq, show regOf Tryd.f5 0 = Code.region _ _ _ from rfl, show regOf Tryd.f5 1 = Code.region _ _ _ from rfl, show regOf Tryd.f5 2 = Code.region _ _ _ from rfl, show regOf Tryd.f5 6 = Code.region _ _ _ from rfl, show regOf Tryd.f5 7 = Code.region _ _ _ from rfl, List.length_map, z1, z2, z3, lp, alive_c]
        exact ⟨_, rfl⟩
    · generalize sumP (m.pins.take 101) = sm at *
      generalize (m.pins.take 101).length = k at *
      obtain ⟨m1, m2, m3, m4, m5, m6, m7, m8, m9, n1, n2, n3, n4⟩ := m
      dsimp only [ansV, ansCells] at lp z1 z2 z3 h1 ⊢
      unfold mn at *
      rw [aval_of Tryd.func5 body5 Tryd.results5 Tryd.ntmps5 ok5]
      simp (implicitDefEqProofs := false) (disch := omega) only [go_sem, Nat.reduceAdd, Nat.reduceSub, Nat.reduceMul, Nat.reduceLT, Nat.reduceLeDiff, Nat.reduceEqDiff, List.drop_zero, List.take_succ_cons, List.take_zero, List.drop_succ_cons, Bool.and_true, Bool.true_and, Bool.and_false, Bool.false_and, BitVec.reduceOfInt, Nat.zero_add, Nat.mul_one, Nat.add_zero, Int.zero_add, Int.reduceToNat, Nat.reducePow, ↓reduceIte, reduceCtorEq, Int.reduceLE, Int.reduceLT, Int.reduceEq, Int.reduceNe, Int.reduceAdd, Int.reduceSub, Int.reduceMul, Int.reduceNeg, Nat.reduceBEq, show regOf Tryd.f5 0 = Code.region _ _ _ from rfl, show regOf Tryd.f5 1 = Code.region _ _ _ from rfl, show regOf Tryd.f5 2 = Code.region _ _ _ from rfl, show regOf Tryd.f5 6 = Code.region _ _ _ from rfl, show regOf Tryd.f5 7 = Code.region _ _ _ from rfl, List.length_map, z1, z2, z3, lp, alive_c]
      exact ⟨_, rfl⟩
  obtain ⟨h, e⟩ := e
  rw [pcall_eq, e, pureRes_solid rfl]
end Go.Proofs.YtfloombnadnmaaaDoor
namespace Go.Proofs.YtfloombnadnmaaaDoor
open Go Go.Ab Go.Proofs Go.RowKit Go.ChangeShapes Go.WideShapes
set_option maxRecDepth 100000
theorem und_29' : Tryd.prog.underlying 29 = some (.int .i64) := by kernel_rfl
theorem WT_bool {n : Nat} {a : AV} (h : WT Tryd.prog n 4 a) : ∃ b, a = .val (.bool b) := by
  cases n with
  | zero => exact h.elim
  | succ n => unfold WT at h; rw [Tryd.underlying4] at h; exact h
theorem WT_change {n : Nat} {a : AV} (h : WT Tryd.prog n 44 a) : ∃ (k : Int) (p q : List UInt8), a = .agg [.int k, .str (txt p), .str (txt q)] ∧ I64 k ∧ p.length ≤ 9223372036854775807 ∧ q.length ≤ 9223372036854775807 := by
  cases n with
  | zero => exact h.elim
  | succ n =>
    unfold WT at h
    rw [Tryd.underlying44] at h
    obtain ⟨cs, rfl, hl, hf⟩ := h
    have hl : cs.length = 3 := hl
    match cs, hl with
    | [a0, a1, a2], _ =>
      have hf := allF hf
      simp only [List.forall_mem_cons] at hf
      obtain ⟨f0, f1, f2, _⟩ := hf
      obtain ⟨x, e0, x1, x2⟩ := WT_i64 und_3 (show WT Tryd.prog n 3 a0 from f0)
      obtain ⟨s, e1, h1⟩ := WT_str (show WT Tryd.prog n 9 a1 from f1)
      obtain ⟨t, e2, h2⟩ := WT_str (show WT Tryd.prog n 9 a2 from f2)
      subst e0; subst e1; subst e2
      obtain ⟨S, rfl⟩ := txt_of s
      obtain ⟨T, rfl⟩ := txt_of t
      have := txt_size S
      have := txt_size T
      unfold maxLen at h1 h2
      exact ⟨x, S, T, rfl, ⟨x1, x2⟩, by omega, by omega⟩
theorem WT_report {n : Nat} {a : AV} (h : WT Tryd.prog n 47 a) : ∃ x y z w : Int, a = .agg [.int x, .int y, .int z, .int w] ∧ I64 x ∧ I64 y ∧ I64 z ∧ I64 w := by
  cases n with
  | zero => exact h.elim
  | succ n =>
    unfold WT at h
    rw [Tryd.underlying47] at h
    obtain ⟨cs, rfl, hl, hf⟩ := h
    have hl : cs.length = 4 := hl
    match cs, hl with
    | [a0, a1, a2, a3], _ =>
      have hf := allF hf
      simp only [List.forall_mem_cons] at hf
      obtain ⟨f0, f1, f2, f3, _⟩ := hf
      obtain ⟨x, e0, hx⟩ := WT_i64 und_3 (show WT Tryd.prog n 3 a0 from f0)
      obtain ⟨y, e1, hy⟩ := WT_i64 und_3 (show WT Tryd.prog n 3 a1 from f1)
      obtain ⟨z, e2, hz⟩ := WT_i64 und_3 (show WT Tryd.prog n 3 a2 from f2)
      obtain ⟨w, e3, hw⟩ := WT_i64 und_3 (show WT Tryd.prog n 3 a3 from f3)
      subst e0; subst e1; subst e2; subst e3
      exact ⟨x, y, z, w, rfl, hx, hy, hz, hw⟩
theorem WT_pins {n : Nat} {a : AV} (h : WT Tryd.prog n 45 a) : ∃ l : List Pn, a = .slc false (l.map pnV) ∧ l.length ≤ 9223372036854775807 ∧ (∀ x ∈ l, x.p.length ≤ 9223372036854775807) ∧ ∀ x ∈ l, I64 x.a ∧ I64 x.b ∧ I64 x.c := by
  cases n with
  | zero => exact h.elim
  | succ n =>
    unfold WT at h
    rw [Tryd.underlying45] at h
    obtain ⟨es, rfl, hl, he⟩ := h
    have key : ∀ es : List AV, (∀ x ∈ es, WT Tryd.prog n 25 x) → ∃ l : List Pn, es = l.map pnV ∧ (∀ x ∈ l, x.p.length ≤ 9223372036854775807) ∧ ∀ x ∈ l, I64 x.a ∧ I64 x.b ∧ I64 x.c := by
      intro es
      induction es with
      | nil => intro _; exact ⟨[], rfl, by simp, by simp⟩
      | cons e r ih =>
        intro h
        obtain ⟨l, e1, e2, e3⟩ := ih fun y hy => h y (List.mem_cons_of_mem _ hy)
        obtain ⟨p, x, y, z, rfl, hp, hx, hy, hz⟩ := WT_pin (h e (List.mem_cons_self ..))
        refine ⟨⟨p, x, y, z⟩ :: l, by rw [e1]; rfl, ?_, ?_⟩
        · intro u hu
          rcases List.mem_cons.1 hu with rfl | hu
          · dsimp only; omega
          · exact e2 u hu
        · intro u hu
          rcases List.mem_cons.1 hu with rfl | hu
          · exact ⟨hx, hy, hz⟩
          · exact e3 u hu
    obtain ⟨l, rfl, e2, e3⟩ := key es he
    unfold maxLen at hl
    rw [List.length_map] at hl
    exact ⟨l, rfl, by omega, e2, e3⟩
theorem WT_ans {n : Nat} {a : AV} (h : WT Tryd.prog n 49 a) : ∃ m : Ans, a = ansV false m ∧ ((I64 m.err ∧ I64 m.at' ∧ I64 m.gap ∧ I64 m.kind) ∧ (I64 m.r1 ∧ I64 m.r2 ∧ I64 m.r3 ∧ I64 m.r4)) ∧ (∀ x ∈ m.pins, I64 x.a ∧ I64 x.b ∧ I64 x.c) ∧
    m.name.length ≤ 9223372036854775807 ∧ m.con.length ≤ 9223372036854775807 ∧ m.text.length ≤ 9223372036854775807 ∧ m.pins.length ≤ 9223372036854775807 ∧ (∀ x ∈ m.pins, x.p.length ≤ 9223372036854775807) := by
  cases n with
  | zero => exact h.elim
  | succ n =>
    unfold WT at h
    rw [Tryd.underlying49] at h
    obtain ⟨cs, rfl, hl, hf⟩ := h
    have hl : cs.length = 13 := hl
    match cs, hl with
    | [a0, a1, a2, a3, a4, a5, a6, a7, a8, a9, b0, b1, b2], _ =>
      have hf := allF hf
      simp only [List.forall_mem_cons] at hf
      obtain ⟨f0, f1, f2, f3, f4, f5, f6, f7, _⟩ := hf
      obtain ⟨er, e0, h0⟩ := WT_i64 und_29' (show WT Tryd.prog n 29 a0 from f0)
      obtain ⟨at', e1, h1⟩ := WT_i64 und_3 (show WT Tryd.prog n 3 a1 from f1)
      obtain ⟨gap, e2, h2⟩ := WT_i64 und_3 (show WT Tryd.prog n 3 a2 from f2)
      obtain ⟨k, p, q, e3, h3, hp, hq⟩ := WT_change (show WT Tryd.prog n 44 (.agg [a3, a4, a5]) from f3)
      obtain ⟨l, e4, hl1, hl2, hl3⟩ := WT_pins (show WT Tryd.prog n 45 a6 from f4)
      obtain ⟨s, e5, hs⟩ := WT_str (show WT Tryd.prog n 9 a7 from f5)
      obtain ⟨b, e6⟩ := WT_bool (show WT Tryd.prog n 4 a8 from f6)
      obtain ⟨x, y, z, w, e7, hr⟩ := WT_report (show WT Tryd.prog n 47 (.agg [a9, b0, b1, b2]) from f7)
      subst e0; subst e1; subst e2; subst e4; subst e5; subst e6
      cases e3; cases e7
      obtain ⟨S, rfl⟩ := txt_of s
      have := txt_size S
      unfold maxLen at hs
      exact ⟨⟨er, at', gap, k, p, q, l, S, b, x, y, z, w⟩, rfl, ⟨⟨h0, h1, h2, h3⟩, hr⟩, hl3, hp, hq, by dsimp only; omega, hl1, hl2⟩
end Go.Proofs.YtfloombnadnmaaaDoor
