/- Parts of the proof, each with its own heading: Terms as abstract values; memories; regions. The store: its nodes; New, Full, put. put, Var, Rigid. Var, Rigid; a store that is full. there: are numbers types'? find at a root, top, same, Make. become's closures; a store that is full, or none. walk: one step; the closure that lowers levels. walk as a whole. -/
import Derived.Test.YtncjbccjpneoiaaDoorPart9
set_option linter.unusedSimpArgs false
set_option linter.unusedVariables false
namespace Go.Proofs.YtncjbccjpneoiaaDoor
open Go Go.Ab Go.Proofs
set_option maxRecDepth 100000
set_option linter.unusedSimpArgs false
set_option linter.unusedVariables false
def txt (l : List UInt8) : ByteArray := ⟨l.toArray⟩
theorem txt_of (s : ByteArray) : ∃ l, s = txt l := ⟨s.data.toList, by apply ByteArray.ext; simp [txt]⟩
theorem txt_list (l : List UInt8) : (txt l).data.toList = l := by simp [txt]
theorem txt_size (l : List UInt8) : (txt l).size = l.length := by show l.toArray.size = _; simp
theorem txt_inj {a b : List UInt8} : txt a = txt b ↔ a = b := ⟨fun h => by have := congrArg (fun x => x.data.toList) h; simpa [txt] using this, fun h => by rw [h]⟩
theorem txt_nil_iff (s : List UInt8) : txt s = ⟨#[]⟩ ↔ s = [] := txt_inj (b := [])
theorem txt_eq_nil (s : List UInt8) : (txt s = ⟨#[]⟩) = (s = []) := propext (txt_nil_iff s)
theorem hget_set_eq {h : AHeap} {i : Nat} {o : AObj} (hi : i < h.length) : hget (h.set i o) i = o := by
  unfold hget; rw [List.getD_eq_getElem?_getD, List.getElem?_set_self hi]; rfl
theorem hget_set_ne {h : AHeap} {i j : Nat} {o : AObj} (hij : ¬ i = j) : hget (h.set i o) j = hget h j := by
  unfold hget; rw [List.getD_eq_getElem?_getD, List.getElem?_set_ne hij, ← List.getD_eq_getElem?_getD]
theorem hget_push {h : AHeap} {o : AObj} {i : Nat} (hi : i < h.length) : hget (h ++ [o]) i = hget h i := by
  unfold hget; rw [List.getD_eq_getElem?_getD, List.getElem?_append_left hi, ← List.getD_eq_getElem?_getD]
theorem hget_last {h : AHeap} {o : AObj} : hget (h ++ [o]) h.length = o := by
  unfold hget; rw [List.getD_eq_getElem?_getD, List.getElem?_append_right (Nat.le_refl _), Nat.sub_self]; rfl
theorem hget_out {h : AHeap} {i : Nat} (hi : h.length ≤ i) : hget h i = .dead := by
  unfold hget; rw [List.getD_eq_getElem?_getD, List.getElem?_eq_none hi]; rfl
theorem hget_app {h : AHeap} (l : AHeap) {i : Nat} (hi : i < h.length) : hget (h ++ l) i = hget h i := by
  unfold hget; rw [List.getD_eq_getElem?_getD, List.getElem?_append_left hi, ← List.getD_eq_getElem?_getD]
theorem hlt_of {h : AHeap} {i : Nat} {o : AObj} (e : hget h i = o) (ho : o ≠ .dead) : i < h.length := Nat.lt_of_not_le fun hle => ho (by rw [← e, hget_out hle])
section
variable {h : AHeap} {n : Nat}
theorem sb_get0 (A : AObj) (l : AHeap) (hn : h.length = n) : hget (h ++ A :: l) n = A := by
  subst hn; unfold hget; rw [List.getD_eq_getElem?_getD, List.getElem?_append_right (Nat.le_refl _), Nat.sub_self]; rfl
theorem sb_get1 (A B : AObj) (l : AHeap) (hn : h.length = n) : hget (h ++ A :: B :: l) (n + 1) = B := by
  subst hn; unfold hget; rw [List.getD_eq_getElem?_getD, List.getElem?_append_right (by omega), show h.length + 1 - h.length = 1 by omega]; rfl
theorem sb_get2 (A B C : AObj) (l : AHeap) (hn : h.length = n) : hget (h ++ A :: B :: C :: l) (n + 2) = C := by
  subst hn; unfold hget; rw [List.getD_eq_getElem?_getD, List.getElem?_append_right (by omega), show h.length + 2 - h.length = 2 by omega]; rfl
theorem sb_set0 (A D : AObj) (l : AHeap) (hn : h.length = n) : (h ++ A :: l).set n D = h ++ D :: l := by
  subst hn; rw [List.set_append_right _ _ (Nat.le_refl _), Nat.sub_self]; rfl
theorem sb_set1 (A B D : AObj) (l : AHeap) (hn : h.length = n) : (h ++ A :: B :: l).set (n + 1) D = h ++ A :: D :: l := by
  subst hn; rw [List.set_append_right _ _ (by omega), show h.length + 1 - h.length = 1 by omega]; rfl
theorem sb_set2 (A B C D : AObj) (l : AHeap) (hn : h.length = n) : (h ++ A :: B :: C :: l).set (n + 2) D = h ++ A :: B :: D :: l := by
  subst hn; rw [List.set_append_right _ _ (by omega), show h.length + 2 - h.length = 2 by omega]; rfl
theorem set_last (o o' : AObj) : (h ++ [o]).set h.length o' = h ++ [o'] := sb_set0 o o' [] rfl
end
theorem tail_nil (p : List Nat → Prop) : (∀ T ∈ (subs []).tail, p T) ↔ True := by simp [subs]
theorem subs_nil_all (p : List Nat → Prop) : (∀ T ∈ subs [], p T) ↔ p [] := by simp [subs]
/-- A type, a pattern or an expression. -/
inductive Tm where
  | mk (kind : Int) (pkg name : List UInt8) (n : Int) (kids : List Tm)
def Tm.kind : Tm → Int | .mk k _ _ _ _ => k
def Tm.pkg : Tm → List UInt8 | .mk _ p _ _ _ => p
def Tm.name : Tm → List UInt8 | .mk _ _ m _ _ => m
def Tm.n : Tm → Int | .mk _ _ _ n _ => n
def Tm.kids : Tm → List Tm | .mk _ _ _ _ l => l
mutual
def tmV : Tm → AV | .mk k p m n l => .agg [.int k, .str (txt p), .str (txt m), .int n, .slc false (tmsV l)]
def tmsV : List Tm → List AV | [] => [] | t :: r => tmV t :: tmsV r
end
theorem tmsV_eq : ∀ l, tmsV l = l.map tmV
  | [] => by simp [tmsV]
  | t :: r => by rw [tmsV, tmsV_eq r]; rfl
mutual
/-- How many terms. -/
def tsz : Tm → Nat | .mk _ _ _ _ l => 1 + tszs l
def tszs : List Tm → Nat | [] => 0 | t :: r => tsz t + tszs r
end
mutual
theorem solid_tm : ∀ t : Tm, solid (tmV t) = true
  | .mk k p m n l => by rw [tmV]; simp only [solid, solidL, Bool.not_false, Bool.true_and, Bool.and_true]; exact solid_tms l
theorem solid_tms : ∀ l : List Tm, solidL (tmsV l) = true
  | [] => by simp [tmsV, solidL]
  | t :: r => by rw [tmsV]; simp only [solidL, solid_tm t, solid_tms r, Bool.and_self]
end
mutual
/-- As long as Go's slices and texts may be. -/
def Tm.fit : Tm → Prop | .mk k p m n l => p.length ≤ 9223372036854775807 ∧ m.length ≤ 9223372036854775807 ∧ l.length ≤ 9223372036854775807 ∧ Tm.fits l
def Tm.fits : List Tm → Prop | [] => True | t :: r => t.fit ∧ Tm.fits r
end
theorem fits_mem : ∀ {l : List Tm}, Tm.fits l → ∀ t ∈ l, t.fit
  | [], _, t, h => by cases h
  | a :: r, h, t, ht => by
    rw [Tm.fits] at h
    rcases List.mem_cons.1 ht with rfl | ht
    · exact h.1
    · exact fits_mem h.2 t ht
theorem tmV_mk (k : Int) (p m : List UInt8) (n : Int) (l : List Tm) : tmV ⟨k, p, m, n, l⟩ = .agg [.int k, .str (txt p), .str (txt m), .int n, .slc false (l.map tmV)] := by rw [tmV, tmsV_eq]
theorem str_eq (a b : List UInt8) : (txt a = txt b) = (a = b) := propext txt_inj
theorem arr_exp {h : AHeap} {id g k : Nat} {es : List AV} (ho : hget h id = .arr k es g) (hs : solidL es = true) (d : Nat) : exp1 h (d + 1) (.arr id 0 es.length g k) = some (.slc false es, [id]) := by
  have hv : sview h (.arr id 0 es.length g k) = some es := sview_arr _ _ _ _ _ ho rfl
  simp only [exp1, hv, expL_solid hs]
  rfl
/-- A call by value, of what is told as values. -/
theorem doCall_exp {f : FuncId} {xs ys : List AV} {h : AHeap} {r : AV} (hm : md f = 0) (hs : expL (exp1 h expDepth) xs = some (ys, [])) (e : pcall Tryd.prog md fg f ys = some r) : doCall md (aval Tryd.prog md fg) f xs h = some (r, h) := by
  rw [doCall_0 (by omega)]; unfold doCall0
  rw [if_pos (.inl hm), hs]
  simp only [canFrz_nil, if_true]
  rw [← pcall_eq, e]
  simp [frzAll]
theorem mid_get {α : Type} (A : List α) (z : α) (B : List α) {i : Nat} (h : A.length = i) : (A ++ z :: B)[i]? = some z := by
  subst h; rw [List.getElem?_append_right (Nat.le_refl _), Nat.sub_self]; rfl
theorem mid_set {α : Type} (A : List α) (z x : α) (B : List α) {i : Nat} (h : A.length = i) : (A ++ z :: B).set i x = A ++ x :: B := by
  subst h; rw [List.set_append_right _ _ (Nat.le_refl _), Nat.sub_self]; rfl
theorem aop_makeMap0 {P : Program} {env : Env} {h : AHeap} {d : Option Tmp} {ty : TypeId} {pos : String} {aft : Array Edge} {g : Option (Nat × Bool)} (t : TypeId) : aop P env h ⟨d, .makeMap t none, ty, pos, aft, g⟩ = if isMapT P t then some (.value (.mp h.length) (h ++ [.map [] 0])) else none := rfl
theorem aop_lookup {P : Program} {env : Env} {h : AHeap} {d : Option Tmp} {ty : TypeId} {pos : String} {aft : Array Edge} {g : Option (Nat × Bool)} (t : TypeId) (x k : Operand) (ok : Bool) : aop P env h ⟨d, .lookup t x k ok, ty, pos, aft, g⟩ = ato (alookup P t h (oval env x) (oval env k) ok) h := rfl
theorem aop_mapUpdate {P : Program} {env : Env} {h : AHeap} {d : Option Tmp} {ty : TypeId} {pos : String} {aft : Array Edge} {g : Option (Nat × Bool)} (t : TypeId) (x k v : Operand) : aop P env h ⟨d, .mapUpdate t x k v, ty, pos, aft, g⟩ = (amapPut P t h (oval env x) (oval env k) (oval env v)).map (.value .und ·) := rfl
section
variable {P : Program} {md : FuncId → Nat} {d : Option Tmp} {ty : TypeId} {pos : String} {aft : Array Edge} {g : Option (Nat × Bool)}
theorem eff_lookup (t : TypeId) (x k : Operand) (ok : Bool) : effOp P md ⟨d, .lookup t x k ok, ty, pos, aft, g⟩ = false := rfl
theorem rd_lookup (t : TypeId) (x k : Operand) (ok : Bool) : readOp P ⟨d, .lookup t x k ok, ty, pos, aft, g⟩ = true := rfl
theorem isLoad_lookup (t : TypeId) (x k : Operand) (ok : Bool) : isLoad ⟨d, .lookup t x k ok, ty, pos, aft, g⟩ = true := rfl
theorem eff_mapUpdate (t : TypeId) (x k v : Operand) : effOp P md ⟨d, .mapUpdate t x k v, ty, pos, aft, g⟩ = true := rfl
theorem isLoad_mapUpdate (t : TypeId) (x k v : Operand) : isLoad ⟨d, .mapUpdate t x k v, ty, pos, aft, g⟩ = false := rfl
theorem rd_mapUpdate (t : TypeId) (x k v : Operand) : readOp P ⟨d, .mapUpdate t x k v, ty, pos, aft, g⟩ = false := rfl
theorem eff_makeFunc (x : Fn) (a b : Array Operand) : effOp P md ⟨d, .makeFunc x a b, ty, pos, aft, g⟩ = false := rfl
theorem rd_makeFunc (x : Fn) (a b : Array Operand) : readOp P ⟨d, .makeFunc x a b, ty, pos, aft, g⟩ = false := rfl
theorem isLoad_makeFunc (x : Fn) (a b : Array Operand) : isLoad ⟨d, .makeFunc x a b, ty, pos, aft, g⟩ = false := rfl
end
attribute [go_sem] eff_lookup rd_lookup isLoad_lookup eff_mapUpdate isLoad_mapUpdate rd_mapUpdate eff_makeFunc rd_makeFunc isLoad_makeFunc
section
variable {d : Option Tmp} {ty : TypeId} {pos : String} {aft : Array Edge} {g : Option (Nat × Bool)} {env : Env} {md : FuncId → Nat} {P : Program} {h : AHeap}
theorem thenDraw_append (cs : Array Operand) (ts : Array TypeId) (h0 : AHeap) (v : AV) (h' : AHeap) (call : CallF) (k : Env → AHeap → Option (Env × AHeap)) : thenDraw P ⟨d, .call ⟨.builtin .append, cs, ts⟩, ty, pos, aft, g⟩ h0 (some (.value v h')) md call d k env = k (aput env d v) h' := thenDraw_eff _ _ _ _ _ _ rfl
theorem thenDraw_store (t : TypeId) (a x : Operand) (h0 : AHeap) (v : AV) (h' : AHeap) (call : CallF) (k : Env → AHeap → Option (Env × AHeap)) : thenDraw P ⟨d, .store t a x, ty, pos, aft, g⟩ h0 (some (.value v h')) md call d k env = k (aput env d v) h' := thenDraw_eff _ _ _ _ _ _ rfl
theorem thenDraw_mapUpdate (t : TypeId) (a k x : Operand) (h0 : AHeap) (v : AV) (h' : AHeap) (call : CallF) (kk : Env → AHeap → Option (Env × AHeap)) : thenDraw P ⟨d, .mapUpdate t a k x, ty, pos, aft, g⟩ h0 (some (.value v h')) md call d kk env = kk (aput env d v) h' := thenDraw_eff _ _ _ _ _ _ rfl
end
theorem take_set_ge {α : Type} {l : List α} {n k : Nat} (x : α) (h : n ≤ k) : (l.set k x).take n = l.take n := by
  apply List.ext_getElem?
  intro i
  by_cases hi : i < n
  · rw [List.getElem?_take_of_lt hi, List.getElem?_take_of_lt hi, List.getElem?_set_ne (by omega)]
  · rw [List.getElem?_eq_none (by rw [List.length_take]; omega), List.getElem?_eq_none (by rw [List.length_take]; omega)]
/-- A call by reference that makes nothing. -/
theorem doCall_same {f : FuncId} {vs : List AV} {h h' : AHeap} {r : AV} (hm : md f = 1) (e : aval Tryd.prog md fg f vs h = some (r, h')) (hl : h'.length = h.length) : doCall md (aval Tryd.prog md fg) f vs h = some (r, h') := by
  rw [doCall_0 (by omega)]
  unfold doCall0
  rw [if_neg (by omega), rated_id (by omega), e]
  dsimp only
  split
  · rw [← hl, List.take_length]
  · rfl
end Go.Proofs.YtncjbccjpneoiaaDoor
namespace Go.Proofs.YtncjbccjpneoiaaDoor
open Go Go.Ab Go.Proofs
set_option maxRecDepth 100000
set_option linter.unusedSimpArgs false
set_option linter.unusedVariables false
/-- A node. -/
structure Nd where
  kind : Int
  pkg : List UInt8
  name : List UInt8
  kids : AV
  level : Int
  to : Int
  mark : Int
def ndV (n : Nd) : AV := .agg [.int n.kind, .str (txt n.pkg), .str (txt n.name), n.kids, .int n.level, .int n.to, .int n.mark]
theorem ndV_mk (k : Int) (p m : List UInt8) (ks : AV) (l t w : Int) : ndV ⟨k, p, m, ks, l, t, w⟩ = .agg [.int k, .str (txt p), .str (txt m), ks, .int l, .int t, .int w] := rfl
/-- What a node's kids may be. -/
def kidsOk (v : AV) : Prop := v.cells = [v] ∧ okVal v = true
/-- The nodes of a store. -/
def NN (h : AHeap) (nv : AV) (ns : List Nd) : Prop := (ns = [] ∧ nv = .slc true []) ∨ ∃ A g, nv = .arr A 0 ns.length g 7 ∧ hget h A = .arr 7 (ns.map ndV) g
def SP (h : AHeap) (S : Nat) (ns : List Nd) (budget : Int) (full : Bool) (walks : Int) : Prop := ∃ nv, hget h S = .vars [nv, .int budget, .val (.bool full), .int walks] ∧ NN h nv ns
/-- All but the store and arrays of nodes stays. -/
def Kf (S : Nat) (h H : AHeap) : Prop := h.length ≤ H.length ∧ ∀ j o, hget h j = o → o ≠ .dead → j ≠ S → (∀ b c, o ≠ .arr 7 b c) → hget H j = o
theorem Kf.refl (S : Nat) (h : AHeap) : Kf S h h := ⟨Nat.le_refl _, fun _ _ e _ _ _ => e⟩
theorem Kf.trans {S : Nat} {a b c : AHeap} (x : Kf S a b) (y : Kf S b c) : Kf S a c := ⟨Nat.le_trans x.1 y.1, fun j o e h1 h2 h3 => y.2 j o (x.2 j o e h1 h2 h3) h1 h2 h3⟩
theorem kf_app (S : Nat) (h l : AHeap) : Kf S h (h ++ l) := ⟨by simp, fun j o e h1 _ _ => by rw [hget_app l (hlt_of e h1)]; exact e⟩
theorem sp_app {h : AHeap} {S : Nat} {ns : List Nd} {b : Int} {f : Bool} {w : Int} (hs : SP h S ns b f w) (l : AHeap) : SP (h ++ l) S ns b f w := by
  obtain ⟨nv, h1, h2⟩ := hs
  refine ⟨nv, by rw [hget_app l (hlt_of h1 (by simp))]; exact h1, ?_⟩
  rcases h2 with h2 | ⟨A, g, e1, e2⟩
  · exact .inl h2
  · exact .inr ⟨A, g, e1, by rw [hget_app l (hlt_of e2 (by simp))]; exact e2⟩
theorem new_c (b : Int) (h0 : 0 ≤ b) (h1 : b ≤ 200000) (h : AHeap) : ∃ H, doCall md (aval Tryd.prog md fg) 25 [.int b] h = some (.ptr h.length 0, H) ∧ SP H h.length [] b false 0 ∧ H = h ++ [.vars [.slc true [], .int b, .val (.bool false), .int 0]] := by
  refine ⟨_, doCall_keep (by decide) (by decide) (by decide) (h' := h ++ [.vars [.slc true [], .int b, .val (.bool false), .int 0]]) ?_ (by simp [below]), ⟨.slc true [], hget_last, .inl ⟨rfl, rfl⟩⟩, rfl⟩
  have m1 : (if b < 0 then (0 : Int) else b) = b := by split <;> omega
  have m2 : (if (200000 : Int) < b then (200000 : Int) else b) = b := by split <;> omega
  rw [aval_of Tryd.func25 body25 Tryd.results25 Tryd.ntmps25 ok25]
  simp (implicitDefEqProofs := false) (disch := omega) only [go_sem, Nat.reduceAdd, Nat.reduceSub, Nat.reduceMul, Nat.reduceLT, Nat.reduceLeDiff, Nat.reduceEqDiff, List.drop_zero, List.take_succ_cons, List.take_zero, List.drop_succ_cons, Bool.and_true, Bool.true_and, Bool.and_false, Bool.false_and, BitVec.reduceOfInt, Nat.zero_add, Nat.mul_one, Nat.add_zero, Int.zero_add, Int.reduceToNat, Nat.reducePow, ↓reduceIte, reduceCtorEq, Int.reduceLE, Int.reduceLT, Int.reduceEq, Int.reduceNe, Int.reduceAdd, Int.reduceSub, Int.reduceMul, Int.reduceNeg, Nat.reduceBEq, show regOf Tryd.f25 0 = Code.region _ _ _ from rfl, show regOf Tryd.f25 1 = Code.region _ _ _ from rfl, m1, m2]
theorem full_c {h : AHeap} {S : Nat} {ns : List Nd} {b : Int} {f : Bool} {w : Int} (hs : SP h S ns b f w) : doCall md (aval Tryd.prog md fg) 30 [.ptr S 0] h = some (.val (.bool f), h) := by
  obtain ⟨nv, h1, h2⟩ := hs
  refine doCall_same md30 ?_ rfl
  rw [aval_of Tryd.func30 body30 Tryd.results30 Tryd.ntmps30 ok30]
  simp (implicitDefEqProofs := false) (disch := omega) only [go_sem, Nat.reduceAdd, Nat.reduceSub, Nat.reduceMul, Nat.reduceLT, Nat.reduceLeDiff, Nat.reduceEqDiff, List.drop_zero, List.take_succ_cons, List.take_zero, List.drop_succ_cons, Bool.and_true, Bool.true_and, Bool.and_false, Bool.false_and, BitVec.reduceOfInt, Nat.zero_add, Nat.mul_one, Nat.add_zero, Int.zero_add, Int.reduceToNat, Nat.reducePow, ↓reduceIte, reduceCtorEq, Int.reduceLE, Int.reduceLT, Int.reduceEq, Int.reduceNe, Int.reduceAdd, Int.reduceSub, Int.reduceMul, Int.reduceNeg, Nat.reduceBEq, show regOf Tryd.f30 0 = Code.region _ _ _ from rfl, show regOf Tryd.f30 1 = Code.region _ _ _ from rfl, h1]
theorem full_nil (h : AHeap) : doCall md (aval Tryd.prog md fg) 30 [.val (.pointer none)] h = some (.val (.bool true), h) := by
  refine doCall_same md30 ?_ rfl
  rw [aval_of Tryd.func30 body30 Tryd.results30 Tryd.ntmps30 ok30]
  simp (implicitDefEqProofs := false) (disch := omega) only [go_sem, Nat.reduceAdd, Nat.reduceSub, Nat.reduceMul, Nat.reduceLT, Nat.reduceLeDiff, Nat.reduceEqDiff, List.drop_zero, List.take_succ_cons, List.take_zero, List.drop_succ_cons, Bool.and_true, Bool.true_and, Bool.and_false, Bool.false_and, BitVec.reduceOfInt, Nat.zero_add, Nat.mul_one, Nat.add_zero, Int.zero_add, Int.reduceToNat, Nat.reducePow, ↓reduceIte, reduceCtorEq, Int.reduceLE, Int.reduceLT, Int.reduceEq, Int.reduceNe, Int.reduceAdd, Int.reduceSub, Int.reduceMul, Int.reduceNeg, Nat.reduceBEq, show regOf Tryd.f30 0 = Code.region _ _ _ from rfl, show regOf Tryd.f30 1 = Code.region _ _ _ from rfl]
end Go.Proofs.YtncjbccjpneoiaaDoor
namespace Go.Proofs.YtncjbccjpneoiaaDoor
open Go Go.Ab Go.Proofs
set_option maxRecDepth 100000
set_option linter.unusedSimpArgs false
set_option linter.unusedVariables false
theorem hget_take {H : AHeap} {n i : Nat} (h : i < n) : hget (H.take n) i = hget H i := by
  unfold hget; rw [List.getD_eq_getElem?_getD, List.getElem?_take_of_lt h, ← List.getD_eq_getElem?_getD]
/-- A call by reference: the store after it. -/
theorem doCall_sp4 {f : FuncId} {vs : List AV} {h H : AHeap} {r : AV} {S : Nat} {ns0 ns : List Nd} {b0 b : Int} {f0 f1 : Bool} {w0 w : Int} (hm : md f = 1) (e : aval Tryd.prog md fg f vs h = some (r, H)) (h0 : SP h S ns0 b0 f0 w0) (h1 : SP H S ns b f1 w) (hk : Kf S h H) :
    ∃ H', doCall md (aval Tryd.prog md fg) f vs h = some (r, H') ∧ SP H' S ns b f1 w ∧ Kf S h H' ∧ hget H' S = hget H S := by
  obtain ⟨nv0, a1, a2⟩ := h0
  have hS := hlt_of a1 (by simp)
  rw [doCall_0 (by omega)]
  unfold doCall0
  rw [if_neg (by omega), rated_id (by omega), e]
  dsimp only
  split
  · rename_i hg
    obtain ⟨nv, c1, c2⟩ := h1
    refine ⟨_, rfl, ⟨nv, by rw [hget_take hS]; exact c1, ?_⟩, ⟨by rw [List.length_take]; have := hk.1; omega, fun j o ej h1 h2 h3 => by rw [hget_take (hlt_of ej h1)]; exact hk.2 j o ej h1 h2 h3⟩, hget_take hS⟩
    rcases c2 with c2 | ⟨A, g, rfl, c2⟩
    · exact .inl c2
    · refine .inr ⟨A, g, rfl, ?_⟩
      have hA : A < h.length := by
        rcases hg.2 S hS with e1 | e1
        · have : hget H S = hget h S := by unfold hget; rw [List.getD_eq_getElem?_getD, e1, ← List.getD_eq_getElem?_getD]
          rw [c1, a1] at this
          simp only [AObj.vars.injEq, List.cons.injEq] at this
          rcases a2 with ⟨_, a2⟩ | ⟨A', g', a2, a3⟩
          · rw [a2] at this; cases this.1
          · rw [a2] at this
            have h5 := this.1
            simp only [AV.arr.injEq] at h5
            rw [h5.1]; exact hlt_of a3 (by simp)
        · rw [c1] at e1
          simp only [belowO, belowL, below, Bool.and_eq_true, decide_eq_true_eq] at e1
          exact e1.1
      rw [hget_take hA]; exact c2
  · exact ⟨_, rfl, h1, hk, rfl⟩
theorem doCall_sp {f : FuncId} {vs : List AV} {h H : AHeap} {r : AV} {S : Nat} {ns0 ns : List Nd} {b0 b : Int} {f0 f1 : Bool} {w0 w : Int} (hm : md f = 1) (e : aval Tryd.prog md fg f vs h = some (r, H)) (h0 : SP h S ns0 b0 f0 w0) (h1 : SP H S ns b f1 w) (hk : Kf S h H) :
    ∃ H', doCall md (aval Tryd.prog md fg) f vs h = some (r, H') ∧ SP H' S ns b f1 w ∧ Kf S h H' := by
  obtain ⟨H', a, b, c, _⟩ := doCall_sp4 hm e h0 h1 hk
  exact ⟨H', a, b, c⟩
theorem nn_add {h : AHeap} {nv : AV} {ns : List Nd} (hn : NN h nv ns) (hl : ns.length ≤ 200000) (n : Nd) : ∃ v H, (∀ z, appT (some (7, 88, z)) h nv (some [ndV n]) = some (v, H)) ∧ NN H v (ns ++ [n]) ∧ (h.length ≤ H.length ∧ ∀ j o, hget h j = o → o ≠ .dead → (∀ b c, o ≠ .arr 7 b c) → hget H j = o) ∧ fits 1 v = true ∧ v.cells = [v] ∧ ∃ A g, v = .arr A 0 (ns.length + 1) g 7 ∧ (h.length ≤ A ∨ ∃ g0, hget h A = .arr 7 (ns.map ndV) g0) := by
  rcases hn with ⟨rfl, rfl⟩ | ⟨A, g, rfl, h2⟩
  · refine ⟨_, _, fun z => appT_slc _ _ _ _ _ rfl rfl (by simp) (by simp), .inr ⟨h.length, 0, by simp, by rw [hget_last]; rfl⟩, ⟨by simp, fun j o e h1 _ => by rw [hget_app _ (hlt_of e h1)]; exact e⟩, rfl, rfl, _, _, rfl, .inl (Nat.le_refl _)⟩
  · refine ⟨_, _, fun z => appT_arr _ _ _ _ _ _ _ _ h2 (by simp) rfl (by simp; omega), .inr ⟨A, g + 1, by simp, by rw [hget_set_eq (hlt_of h2 (by simp))]; simp⟩, ⟨by simp, fun j o e h1 h3 => ?_⟩, rfl, rfl, _, _, rfl, .inr ⟨g, h2⟩⟩
    rw [hget_set_ne (by rintro rfl; rw [h2] at e; exact h3 _ _ e.symm)]; exact e
theorem nn_set {h : AHeap} {nv : AV} {ns : List Nd} (hn : NN h nv ns) {i : Nat} {cs : List AV} {o : AObj} (hi : hget h i = .vars cs) : NN (h.set i o) nv ns := by
  rcases hn with hn | ⟨A, g, h1, h2⟩
  · exact .inl hn
  · exact .inr ⟨A, g, h1, by rw [hget_set_ne (by rintro rfl; rw [hi] at h2; cases h2)]; exact h2⟩
theorem nn_len {h : AHeap} {nv : AV} {ns : List Nd} (hn : NN h nv ns) : ∀ h2, abuiltin Tryd.prog .len #[81] h2 [nv] = some (.int ns.length, h2) := fun h2 => by
  rcases hn with ⟨rfl, rfl⟩ | ⟨A, g, rfl, _⟩
  · simp only [abuiltin_len_slc, alen_slc, tarr_81, tslice_81, lenT_slc, Option.map_some, List.length_nil]
  · simp only [abuiltin_len_arr, alen_arr, tarr_81, tslice_81, lenT_arr, Option.map_some]
set_option maxHeartbeats 4000000 in
theorem put_c5 {h : AHeap} {S : Nat} {ns : List Nd} {b w : Int} (hs : SP h S ns b false w) (hlt : (ns.length : Int) < b) (hb : b ≤ 200000) (k : Int) (p m : List UInt8) (ks : AV) (hks : ks.cells = [ks] ∧ okVal ks = true) (l t mk : Int) :
    ∃ H, doCall md (aval Tryd.prog md fg) 43 [.ptr S 0, ndV ⟨k, p, m, ks, l, t, mk⟩] h = some (.int ns.length, H) ∧ SP H S (ns ++ [⟨k, p, m, ks, l, ns.length, mk⟩]) b false w ∧ Kf S h H ∧ ∃ A g, hget H S = .vars [.arr A 0 (ns.length + 1) g 7, .int b, .val (.bool false), .int w] ∧ (h.length ≤ A ∨ ∃ g0, hget h A = .arr 7 (ns.map ndV) g0) := by
  have hs0 := hs
  have cf := full_c (sp_app hs [.vars [.int k, .str (txt p), .str (txt m), ks, .int l, .int t, .int mk]])
  obtain ⟨nv, h1, h2⟩ := hs
  have hS := hlt_of h1 (by simp)
  have g1 : ∀ l, hget (h ++ l) S = .vars [nv, .int b, .val (.bool false), .int w] := fun l => by rw [hget_app l hS]; exact h1
  have hlen := nn_len h2
  have hge : ¬ (b ≤ (ns.length : Int)) := by omega
  have hn2 : NN (h ++ [.vars [.int k, .str (txt p), .str (txt m), ks, .int l, .int (ns.length : Int), .int mk]]) nv ns := by
    rcases h2 with h2 | ⟨A, g, e1, e2⟩
    · exact .inl h2
    · exact .inr ⟨A, g, e1, by rw [hget_app _ (hlt_of e2 (by simp))]; exact e2⟩
  obtain ⟨v, H1, x1, x2, x3, x4, x5, A, g, hv, hA⟩ := nn_add hn2 (by omega) ⟨k, p, m, ks, l, ns.length, mk⟩
  have y1 : hget H1 S = .vars [nv, .int b, .val (.bool false), .int w] := x3.2 S _ (g1 _) (by simp) (by simp)
  have yb : hget H1 h.length = .vars [.int k, .str (txt p), .str (txt m), ks, .int l, .int (ns.length : Int), .int mk] := x3.2 _ _ hget_last (by simp) (by simp)
  have yb2 : hget (H1.set S (.vars [v, .int b, .val (.bool false), .int w])) h.length = .vars [.int k, .str (txt p), .str (txt m), ks, .int l, .int (ns.length : Int), .int mk] := by rw [hget_set_ne (by omega)]; exact yb
  have hS1 := hlt_of y1 (by simp)
  rw [ndV_mk] at x1
  have e : aval Tryd.prog md fg 43 [.ptr S 0, ndV ⟨k, p, m, ks, l, t, mk⟩] h = some (.int ns.length, H1.set S (.vars [v, .int b, .val (.bool false), .int w])) := by
    rw [ndV_mk]
    rw [aval_of Tryd.func43 body43 Tryd.results43 Tryd.ntmps43 ok43]
    simp (implicitDefEqProofs := false) (disch := first | omega | exact List.length_set) only [go_sem, Nat.reduceAdd, Nat.reduceSub, Nat.reduceMul, Nat.reduceLT, Nat.reduceLeDiff, Nat.reduceEqDiff, List.drop_zero, List.take_succ_cons, List.take_zero, List.drop_succ_cons, Bool.and_true, Bool.true_and, Bool.and_false, Bool.false_and, BitVec.reduceOfInt, Nat.zero_add, Nat.mul_one, Nat.add_zero, Int.zero_add, Int.reduceToNat, Nat.reducePow, ↓reduceIte, reduceCtorEq, Int.reduceLE, Int.reduceLT, Int.reduceEq, Int.reduceNe, Int.reduceAdd, Int.reduceSub, Int.reduceMul, Int.reduceNeg, Nat.reduceBEq, show regOf Tryd.f43 0 = Code.region _ _ _ from rfl, show regOf Tryd.f43 1 = Code.region _ _ _ from rfl, show regOf Tryd.f43 3 = Code.region _ _ _ from rfl, show regOf Tryd.f43 6 = Code.region _ _ _ from rfl, show regOf Tryd.f43 7 = Code.region _ _ _ from rfl, show regOf Tryd.f43 8 = Code.region _ _ _ from rfl, cf, g1, hlen, hge, hget_last, set_last, hks.1, hks.2, x1, x4, x5, y1, yb2, thenDraw_append, thenDraw_store]
  obtain ⟨H', z1, z2, z3, z4⟩ := doCall_sp4 md43 e hs0 ⟨v, hget_set_eq hS1, nn_set x2 y1⟩ ⟨by have := x3.1; simp at this ⊢; omega, fun j o ej h1 h2 h3 => by
    rw [hget_set_ne (by omega)]
    exact x3.2 j o (by rw [hget_app _ (hlt_of ej h1)]; exact ej) h1 h3⟩
  refine ⟨H', z1, z2, z3, A, g, by rw [z4, hget_set_eq hS1, hv], ?_⟩
  rcases hA with hA | ⟨g0, hA⟩
  · simp at hA; exact .inl (by omega)
  · by_cases hlt2 : A < h.length
    · rw [hget_app _ hlt2] at hA; exact .inr ⟨g0, hA⟩
    · exact .inl (by omega)
theorem put_c {h : AHeap} {S : Nat} {ns : List Nd} {b w : Int} (hs : SP h S ns b false w) (hlt : (ns.length : Int) < b) (hb : b ≤ 200000) (k : Int) (p m : List UInt8) (ks : AV) (hks : ks.cells = [ks] ∧ okVal ks = true) (l t mk : Int) :
    ∃ H, doCall md (aval Tryd.prog md fg) 43 [.ptr S 0, ndV ⟨k, p, m, ks, l, t, mk⟩] h = some (.int ns.length, H) ∧ SP H S (ns ++ [⟨k, p, m, ks, l, ns.length, mk⟩]) b false w ∧ Kf S h H := by
  obtain ⟨H, a, b, c, _⟩ := put_c5 hs hlt hb k p m ks hks l t mk
  exact ⟨H, a, b, c⟩
end Go.Proofs.YtncjbccjpneoiaaDoor
namespace Go.Proofs.YtncjbccjpneoiaaDoor
open Go Go.Ab Go.Proofs
set_option maxRecDepth 100000
set_option linter.unusedSimpArgs false
set_option linter.unusedVariables false
set_option maxHeartbeats 4000000 in
theorem put_over {h : AHeap} {S : Nat} {ns : List Nd} {b w : Int} (hs : SP h S ns b false w) (hge : b ≤ (ns.length : Int)) (k : Int) (p m : List UInt8) (ks : AV) (hks : ks.cells = [ks] ∧ okVal ks = true) (l t mk : Int) :
    ∃ H, doCall md (aval Tryd.prog md fg) 43 [.ptr S 0, ndV ⟨k, p, m, ks, l, t, mk⟩] h = some (.int (-1), H) ∧ SP H S ns b true w ∧ Kf S h H := by
  have hs0 := hs
  have cf := full_c (sp_app hs [.vars [.int k, .str (txt p), .str (txt m), ks, .int l, .int t, .int mk]])
  obtain ⟨nv, h1, h2⟩ := hs
  have hS := hlt_of h1 (by simp)
  have g1 : ∀ l, hget (h ++ l) S = .vars [nv, .int b, .val (.bool false), .int w] := fun l => by rw [hget_app l hS]; exact h1
  have hlen := nn_len h2
  have e : aval Tryd.prog md fg 43 [.ptr S 0, ndV ⟨k, p, m, ks, l, t, mk⟩] h = some (.int (-1), (h ++ [AObj.vars [.int k, .str (txt p), .str (txt m), ks, .int l, .int t, .int mk]]).set S (.vars [nv, .int b, .val (.bool true), .int w])) := by
    rw [ndV_mk]
    rw [aval_of Tryd.func43 body43 Tryd.results43 Tryd.ntmps43 ok43]
    simp (implicitDefEqProofs := false) (disch := first | omega | exact List.length_set) only [go_sem, Nat.reduceAdd, Nat.reduceSub, Nat.reduceMul, Nat.reduceLT, Nat.reduceLeDiff, Nat.reduceEqDiff, List.drop_zero, List.take_succ_cons, List.take_zero, List.drop_succ_cons, Bool.and_true, Bool.true_and, Bool.and_false, Bool.false_and, BitVec.reduceOfInt, Nat.zero_add, Nat.mul_one, Nat.add_zero, Int.zero_add, Int.reduceToNat, Nat.reducePow, ↓reduceIte, reduceCtorEq, Int.reduceLE, Int.reduceLT, Int.reduceEq, Int.reduceNe, Int.reduceAdd, Int.reduceSub, Int.reduceMul, Int.reduceNeg, Nat.reduceBEq, show regOf Tryd.f43 0 = Code.region _ _ _ from rfl, show regOf Tryd.f43 1 = Code.region _ _ _ from rfl, show regOf Tryd.f43 3 = Code.region _ _ _ from rfl, show regOf Tryd.f43 4 = Code.region _ _ _ from rfl, show regOf Tryd.f43 5 = Code.region _ _ _ from rfl, cf, g1, hlen, hge, hget_last, set_last, hks.1, hks.2]
  refine doCall_sp md43 e hs0 ⟨nv, hget_set_eq (by simp; omega), nn_set ?_ (g1 _)⟩ ⟨by simp, fun j o ej h1 h2 h3 => ?_⟩
  · rcases h2 with h2 | ⟨A, g, e1, e2⟩
    · exact .inl h2
    · exact .inr ⟨A, g, e1, by rw [hget_app _ (hlt_of e2 (by simp))]; exact e2⟩
  · rw [hget_set_ne (by omega), hget_app _ (hlt_of ej h1)]; exact ej
theorem put_full {h : AHeap} {S : Nat} {ns : List Nd} {b w : Int} (hs : SP h S ns b true w) (k : Int) (p m : List UInt8) (ks : AV) (hks : ks.cells = [ks] ∧ okVal ks = true) (l t mk : Int) :
    doCall md (aval Tryd.prog md fg) 43 [.ptr S 0, ndV ⟨k, p, m, ks, l, t, mk⟩] h = some (.int (-1), h) := by
  have cf := full_c (sp_app hs [.vars [.int k, .str (txt p), .str (txt m), ks, .int l, .int t, .int mk]])
  have e : aval Tryd.prog md fg 43 [.ptr S 0, ndV ⟨k, p, m, ks, l, t, mk⟩] h = some (.int (-1), h ++ [AObj.vars [.int k, .str (txt p), .str (txt m), ks, .int l, .int t, .int mk]]) := by
    rw [ndV_mk]
    rw [aval_of Tryd.func43 body43 Tryd.results43 Tryd.ntmps43 ok43]
    simp (implicitDefEqProofs := false) (disch := first | omega | exact List.length_set) only [go_sem, Nat.reduceAdd, Nat.reduceSub, Nat.reduceMul, Nat.reduceLT, Nat.reduceLeDiff, Nat.reduceEqDiff, List.drop_zero, List.take_succ_cons, List.take_zero, List.drop_succ_cons, Bool.and_true, Bool.true_and, Bool.and_false, Bool.false_and, BitVec.reduceOfInt, Nat.zero_add, Nat.mul_one, Nat.add_zero, Int.zero_add, Int.reduceToNat, Nat.reducePow, ↓reduceIte, reduceCtorEq, Int.reduceLE, Int.reduceLT, Int.reduceEq, Int.reduceNe, Int.reduceAdd, Int.reduceSub, Int.reduceMul, Int.reduceNeg, Nat.reduceBEq, show regOf Tryd.f43 0 = Code.region _ _ _ from rfl, show regOf Tryd.f43 1 = Code.region _ _ _ from rfl, show regOf Tryd.f43 2 = Code.region _ _ _ from rfl, cf, hks.1, hks.2]
  have := doCall_ref (by decide) (by decide) (by decide) e rfl (gcOk_append h _)
  rw [List.take_left' rfl] at this
  exact this
theorem put_none (h : AHeap) (k : Int) (p m : List UInt8) (ks : AV) (hks : ks.cells = [ks] ∧ okVal ks = true) (l t mk : Int) :
    doCall md (aval Tryd.prog md fg) 43 [.val (.pointer none), ndV ⟨k, p, m, ks, l, t, mk⟩] h = some (.int (-1), h) := by
  have cf := full_nil (h ++ [AObj.vars [.int k, .str (txt p), .str (txt m), ks, .int l, .int t, .int mk]])
  have e : aval Tryd.prog md fg 43 [.val (.pointer none), ndV ⟨k, p, m, ks, l, t, mk⟩] h = some (.int (-1), h ++ [AObj.vars [.int k, .str (txt p), .str (txt m), ks, .int l, .int t, .int mk]]) := by
    rw [ndV_mk]
    rw [aval_of Tryd.func43 body43 Tryd.results43 Tryd.ntmps43 ok43]
    simp (implicitDefEqProofs := false) (disch := first | omega | exact List.length_set) only [go_sem, Nat.reduceAdd, Nat.reduceSub, Nat.reduceMul, Nat.reduceLT, Nat.reduceLeDiff, Nat.reduceEqDiff, List.drop_zero, List.take_succ_cons, List.take_zero, List.drop_succ_cons, Bool.and_true, Bool.true_and, Bool.and_false, Bool.false_and, BitVec.reduceOfInt, Nat.zero_add, Nat.mul_one, Nat.add_zero, Int.zero_add, Int.reduceToNat, Nat.reducePow, ↓reduceIte, reduceCtorEq, Int.reduceLE, Int.reduceLT, Int.reduceEq, Int.reduceNe, Int.reduceAdd, Int.reduceSub, Int.reduceMul, Int.reduceNeg, Nat.reduceBEq, show regOf Tryd.f43 0 = Code.region _ _ _ from rfl, show regOf Tryd.f43 1 = Code.region _ _ _ from rfl, show regOf Tryd.f43 2 = Code.region _ _ _ from rfl, cf, hks.1, hks.2]
  have := doCall_ref (by decide) (by decide) (by decide) e rfl (gcOk_append h _)
  rw [List.take_left' rfl] at this
  exact this
theorem slcOk : (AV.slc true []).cells = [.slc true []] ∧ okVal (.slc true []) = true := ⟨rfl, rfl⟩
theorem nd0 (k l : Int) : ndV ⟨k, [], [], .slc true [], l, 0, 0⟩ = .agg [.int k, .val (.string ⟨#[]⟩), .val (.string ⟨#[]⟩), .slc true [], .int l, .val (.int .i64 0), .val (.int .i64 0)] := rfl
/-- A variable. -/
abbrev vNd (l : Int) (i : Nat) : Nd := ⟨1, [], [], .slc true [], l, i, 0⟩
abbrev rNd (l : Int) (i : Nat) : Nd := ⟨5, [], [], .slc true [], l, i, 0⟩
theorem var_c {h : AHeap} {S : Nat} {ns : List Nd} {b w : Int} (hs : SP h S ns b false w) (hlt : (ns.length : Int) < b) (hb : b ≤ 200000) (l : Int) : ∃ H, doCall md (aval Tryd.prog md fg) 27 [.ptr S 0, .int l] h = some (.int ns.length, H) ∧ SP H S (ns ++ [vNd l ns.length]) b false w ∧ Kf S h H := by
  obtain ⟨H, c, h1, h2⟩ := put_c hs hlt hb 1 [] [] (.slc true []) slcOk l 0 0
  rw [nd0] at c
  have e : aval Tryd.prog md fg 27 [.ptr S 0, .int l] h = some (.int ns.length, H) := by
    rw [aval_of Tryd.func27 body27 Tryd.results27 Tryd.ntmps27 ok27]
    simp (implicitDefEqProofs := false) (disch := omega) only [go_sem, Nat.reduceAdd, Nat.reduceSub, Nat.reduceMul, Nat.reduceLT, Nat.reduceLeDiff, Nat.reduceEqDiff, List.drop_zero, List.take_succ_cons, List.take_zero, List.drop_succ_cons, Bool.and_true, Bool.true_and, Bool.and_false, Bool.false_and, BitVec.reduceOfInt, Nat.zero_add, Nat.mul_one, Nat.add_zero, Int.zero_add, Int.reduceToNat, Nat.reducePow, ↓reduceIte, reduceCtorEq, Int.reduceLE, Int.reduceLT, Int.reduceEq, Int.reduceNe, Int.reduceAdd, Int.reduceSub, Int.reduceMul, Int.reduceNeg, Nat.reduceBEq, show regOf Tryd.f27 0 = Code.region _ _ _ from rfl, show regOf Tryd.f27 1 = Code.region _ _ _ from rfl, c]
  exact doCall_sp md27 e hs h1 h2
theorem var_over {h : AHeap} {S : Nat} {ns : List Nd} {b w : Int} (hs : SP h S ns b false w) (hge : b ≤ (ns.length : Int)) (l : Int) : ∃ H, doCall md (aval Tryd.prog md fg) 27 [.ptr S 0, .int l] h = some (.int (-1), H) ∧ SP H S ns b true w ∧ Kf S h H := by
  obtain ⟨H, c, h1, h2⟩ := put_over hs hge 1 [] [] (.slc true []) slcOk l 0 0
  rw [nd0] at c
  have e : aval Tryd.prog md fg 27 [.ptr S 0, .int l] h = some (.int (-1), H) := by
    rw [aval_of Tryd.func27 body27 Tryd.results27 Tryd.ntmps27 ok27]
    simp (implicitDefEqProofs := false) (disch := omega) only [go_sem, Nat.reduceAdd, Nat.reduceSub, Nat.reduceMul, Nat.reduceLT, Nat.reduceLeDiff, Nat.reduceEqDiff, List.drop_zero, List.take_succ_cons, List.take_zero, List.drop_succ_cons, Bool.and_true, Bool.true_and, Bool.and_false, Bool.false_and, BitVec.reduceOfInt, Nat.zero_add, Nat.mul_one, Nat.add_zero, Int.zero_add, Int.reduceToNat, Nat.reducePow, ↓reduceIte, reduceCtorEq, Int.reduceLE, Int.reduceLT, Int.reduceEq, Int.reduceNe, Int.reduceAdd, Int.reduceSub, Int.reduceMul, Int.reduceNeg, Nat.reduceBEq, show regOf Tryd.f27 0 = Code.region _ _ _ from rfl, show regOf Tryd.f27 1 = Code.region _ _ _ from rfl, c]
  exact doCall_sp md27 e hs h1 h2
theorem var_full {h : AHeap} {S : Nat} {ns : List Nd} {b w : Int} (hs : SP h S ns b true w) (l : Int) : doCall md (aval Tryd.prog md fg) 27 [.ptr S 0, .int l] h = some (.int (-1), h) := by
  have c := put_full hs 1 [] [] (.slc true []) slcOk l 0 0
  rw [nd0] at c
  refine doCall_same md27 ?_ rfl
  rw [aval_of Tryd.func27 body27 Tryd.results27 Tryd.ntmps27 ok27]
  simp (implicitDefEqProofs := false) (disch := omega) only [go_sem, Nat.reduceAdd, Nat.reduceSub, Nat.reduceMul, Nat.reduceLT, Nat.reduceLeDiff, Nat.reduceEqDiff, List.drop_zero, List.take_succ_cons, List.take_zero, List.drop_succ_cons, Bool.and_true, Bool.true_and, Bool.and_false, Bool.false_and, BitVec.reduceOfInt, Nat.zero_add, Nat.mul_one, Nat.add_zero, Int.zero_add, Int.reduceToNat, Nat.reducePow, ↓reduceIte, reduceCtorEq, Int.reduceLE, Int.reduceLT, Int.reduceEq, Int.reduceNe, Int.reduceAdd, Int.reduceSub, Int.reduceMul, Int.reduceNeg, Nat.reduceBEq, show regOf Tryd.f27 0 = Code.region _ _ _ from rfl, show regOf Tryd.f27 1 = Code.region _ _ _ from rfl, c]
theorem var_none (h : AHeap) (l : Int) : doCall md (aval Tryd.prog md fg) 27 [.val (.pointer none), .int l] h = some (.int (-1), h) := by
  have c := put_none h 1 [] [] (.slc true []) slcOk l 0 0
  rw [nd0] at c
  refine doCall_same md27 ?_ rfl
  rw [aval_of Tryd.func27 body27 Tryd.results27 Tryd.ntmps27 ok27]
  simp (implicitDefEqProofs := false) (disch := omega) only [go_sem, Nat.reduceAdd, Nat.reduceSub, Nat.reduceMul, Nat.reduceLT, Nat.reduceLeDiff, Nat.reduceEqDiff, List.drop_zero, List.take_succ_cons, List.take_zero, List.drop_succ_cons, Bool.and_true, Bool.true_and, Bool.and_false, Bool.false_and, BitVec.reduceOfInt, Nat.zero_add, Nat.mul_one, Nat.add_zero, Int.zero_add, Int.reduceToNat, Nat.reducePow, ↓reduceIte, reduceCtorEq, Int.reduceLE, Int.reduceLT, Int.reduceEq, Int.reduceNe, Int.reduceAdd, Int.reduceSub, Int.reduceMul, Int.reduceNeg, Nat.reduceBEq, show regOf Tryd.f27 0 = Code.region _ _ _ from rfl, show regOf Tryd.f27 1 = Code.region _ _ _ from rfl, c]
theorem rigid_c {h : AHeap} {S : Nat} {ns : List Nd} {b w : Int} (hs : SP h S ns b false w) (hlt : (ns.length : Int) < b) (hb : b ≤ 200000) (l : Int) : ∃ H, doCall md (aval Tryd.prog md fg) 26 [.ptr S 0, .int l] h = some (.int ns.length, H) ∧ SP H S (ns ++ [rNd l ns.length]) b false w ∧ Kf S h H := by
  obtain ⟨H, c, h1, h2⟩ := put_c hs hlt hb 5 [] [] (.slc true []) slcOk l 0 0
  rw [nd0] at c
  have e : aval Tryd.prog md fg 26 [.ptr S 0, .int l] h = some (.int ns.length, H) := by
    rw [aval_of Tryd.func26 body26 Tryd.results26 Tryd.ntmps26 ok26]
    simp (implicitDefEqProofs := false) (disch := omega) only [go_sem, Nat.reduceAdd, Nat.reduceSub, Nat.reduceMul, Nat.reduceLT, Nat.reduceLeDiff, Nat.reduceEqDiff, List.drop_zero, List.take_succ_cons, List.take_zero, List.drop_succ_cons, Bool.and_true, Bool.true_and, Bool.and_false, Bool.false_and, BitVec.reduceOfInt, Nat.zero_add, Nat.mul_one, Nat.add_zero, Int.zero_add, Int.reduceToNat, Nat.reducePow, ↓reduceIte, reduceCtorEq, Int.reduceLE, Int.reduceLT, Int.reduceEq, Int.reduceNe, Int.reduceAdd, Int.reduceSub, Int.reduceMul, Int.reduceNeg, Nat.reduceBEq, show regOf Tryd.f26 0 = Code.region _ _ _ from rfl, show regOf Tryd.f26 1 = Code.region _ _ _ from rfl, c]
  exact doCall_sp md26 e hs h1 h2
end Go.Proofs.YtncjbccjpneoiaaDoor
namespace Go.Proofs.YtncjbccjpneoiaaDoor
open Go Go.Ab Go.Proofs
set_option maxRecDepth 100000
set_option linter.unusedSimpArgs false
set_option linter.unusedVariables false
def pixI (p : Int → Bool) : List Int → Nat → Option Nat
  | [], _ => none
  | n :: r, i => if p n then some i else pixI p r (i + 1)
theorem pixI_any (p : Int → Bool) : ∀ (l : List Int) (i : Nat), (pixI p l i).isSome = l.any p
  | [], i => rfl
  | n :: r, i => by
    unfold pixI
    by_cases h : p n = true
    · rw [if_pos h]; simp [h]
    · rw [if_neg h, pixI_any p r (i + 1)]; simp [h]
theorem idxI_loop (f : FuncId) (caps : List AV) (hc : callable Tryd.prog f = true) (p : Int → Bool) (k g : Nat) (l : List Int) (h : AHeap) (hk : hget h k = .arr 1 (l.map AV.int) g) (hp : ∀ x ∈ l, doCall md (aval Tryd.prog md fg) f (.int x :: caps) h = some (.val (.bool (p x)), h)) (hl : l.length ≤ 1000000) : ∀ (r : List Int) (i : Nat) (a4 : AV), l.drop i = r → i ≤ l.length → ∃ (i' : Int) (a' : AV),
    lrun Tryd.prog md fg (fg 74) (loopOf Tryd.f74 0) (fg 74 1) ([.arr k 0 l.length g 1, .clo f [] caps, .unk, .unk, a4, .unk, .unk, .int l.length, .int i, .unk, .unk, .unk, .unk, .unk, .unk, .unk, .unk, .unk, .unk]) h = some (match pixI p r i with | some j => (.ret, [.arr k 0 l.length g 1, .clo f [] caps, .unk, .unk, .int j, .unk, .unk, .int l.length, .int i', .unk, .unk, .unk, .unk, .unk, .unk, .unk, .unk, .unk, .unk], h) | none => (.exit 0, [.arr k 0 l.length g 1, .clo f [] caps, .unk, .unk, a', .unk, .unk, .int l.length, .int i', .unk, .unk, .unk, .unk, .unk, .unk, .unk, .unk, .unk, .unk], h))
  | [], i, a4, hdr, hi => by
    have : i = l.length := by have := congrArg List.length hdr; simp at this; omega
    subst this
    refine ⟨(l.length : Int), a4, ?_⟩
    simp only [pixI]
    rw [lrun_atC loop74_0]
    simp (implicitDefEqProofs := false) (disch := omega) only [go_sem, Nat.reduceAdd, Nat.reduceSub, Nat.reduceMul, Nat.reduceLT, Nat.reduceLeDiff, Nat.reduceEqDiff, List.drop_zero, List.take_succ_cons, List.take_zero, List.drop_succ_cons, Bool.and_true, Bool.true_and, Bool.and_false, Bool.false_and, BitVec.reduceOfInt, Nat.zero_add, Nat.mul_one, Nat.add_zero, Int.zero_add, Int.reduceToNat, Nat.reducePow, ↓reduceIte, reduceCtorEq, Int.reduceLE, Int.reduceLT, Int.reduceEq, Int.reduceNe, Int.reduceAdd, Int.reduceSub, Int.reduceMul, Int.reduceNeg, Nat.reduceBEq, show regOf Tryd.f74 2 = Code.region _ _ _ from rfl]
  | s :: r, i, a4, hdr, hi => by
    have hx : l[i]? = some s := by have := congrArg (·[0]?) hdr; simpa using this
    have hlt : i < l.length := (List.getElem?_eq_some_iff.1 hx).1
    have hd' : l.drop (i + 1) = r := by rw [← List.tail_drop, hdr]; rfl
    have ht : ((i : Int)).toNat = i := by omega
    have e := hp s (List.mem_of_getElem? hx)
    cases hps : p s with
    | true =>
      rw [hps] at e
      refine ⟨(i : Int), .unk, ?_⟩
      simp only [pixI, hps, if_true]
      rw [lrun_atC loop74_0]
      simp (implicitDefEqProofs := false) (disch := omega) only [go_sem, Nat.reduceAdd, Nat.reduceSub, Nat.reduceMul, Nat.reduceLT, Nat.reduceLeDiff, Nat.reduceEqDiff, List.drop_zero, List.take_succ_cons, List.take_zero, List.drop_succ_cons, Bool.and_true, Bool.true_and, Bool.and_false, Bool.false_and, BitVec.reduceOfInt, Nat.zero_add, Nat.mul_one, Nat.add_zero, Int.zero_add, Int.reduceToNat, Nat.reducePow, ↓reduceIte, reduceCtorEq, Int.reduceLE, Int.reduceLT, Int.reduceEq, Int.reduceNe, Int.reduceAdd, Int.reduceSub, Int.reduceMul, Int.reduceNeg, Nat.reduceBEq, show regOf Tryd.f74 2 = Code.region _ _ _ from rfl, show regOf Tryd.f74 3 = Code.region _ _ _ from rfl, show regOf Tryd.f74 4 = Code.region _ _ _ from rfl, show regOf Tryd.f74 5 = Code.region _ _ _ from rfl, List.getElem?_map, ht, hx, hk, Option.map_some, hc, List.nil_append, List.cons_append, e]
    | false =>
      rw [hps] at e
      obtain ⟨i', a', e2⟩ := idxI_loop f caps hc p k g l h hk hp hl r (i + 1) a4 hd' (by omega)
      refine ⟨i', a', ?_⟩
      simp only [pixI, hps, Bool.false_eq_true, if_false]
      rw [← e2]
      rw [lrun_atC loop74_0]
      simp (implicitDefEqProofs := false) (disch := omega) only [go_sem, Nat.reduceAdd, Nat.reduceSub, Nat.reduceMul, Nat.reduceLT, Nat.reduceLeDiff, Nat.reduceEqDiff, List.drop_zero, List.take_succ_cons, List.take_zero, List.drop_succ_cons, Bool.and_true, Bool.true_and, Bool.and_false, Bool.false_and, BitVec.reduceOfInt, Nat.zero_add, Nat.mul_one, Nat.add_zero, Int.zero_add, Int.reduceToNat, Nat.reducePow, ↓reduceIte, reduceCtorEq, Int.reduceLE, Int.reduceLT, Int.reduceEq, Int.reduceNe, Int.reduceAdd, Int.reduceSub, Int.reduceMul, Int.reduceNeg, Nat.reduceBEq, show regOf Tryd.f74 2 = Code.region _ _ _ from rfl, show regOf Tryd.f74 3 = Code.region _ _ _ from rfl, show regOf Tryd.f74 4 = Code.region _ _ _ from rfl, show regOf Tryd.f74 6 = Code.region _ _ _ from rfl, List.getElem?_map, ht, hx, hk, Option.map_some, hc, List.nil_append, List.cons_append, e]
      all_goals (congr 1 <;> simp only [List.cons.injEq, AV.val.injEq, Value.int.injEq, Value.bool.injEq, true_and, and_true] <;> omega)
theorem confI_c (f : FuncId) (caps : List AV) (hc : callable Tryd.prog f = true) (p : Int → Bool) (k g : Nat) (l : List Int) (h : AHeap) (hk : hget h k = .arr 1 (l.map AV.int) g) (hp : ∀ x ∈ l, doCall md (aval Tryd.prog md fg) f (.int x :: caps) h = some (.val (.bool (p x)), h)) (hl : l.length ≤ 1000000) : doCall md (aval Tryd.prog md fg) 62 [.arr k 0 l.length g 1, .clo f [] caps] h = some (.val (.bool (l.any p)), h) := by
  obtain ⟨i', a', e⟩ := idxI_loop f caps hc p k g l h hk hp hl l 0 (.int 0) (by simp) (by omega)
  simp only [Int.natCast_zero] at e
  have c74 : doCall md (aval Tryd.prog md fg) 74 [.arr k 0 l.length g 1, .clo f [] caps] h = some (.int (match pixI p l 0 with | some j => (j : Int) | none => -1), h) := by
    refine doCall_same md74 ?_ rfl
    rw [aval_of Tryd.func74 body74 Tryd.results74 Tryd.ntmps74 ok74]
    cases ho : pixI p l 0 with
    | none =>
      rw [ho] at e
      dsimp only at e
      simp (implicitDefEqProofs := false) (disch := omega) only [go_sem, Nat.reduceAdd, Nat.reduceSub, Nat.reduceMul, Nat.reduceLT, Nat.reduceLeDiff, Nat.reduceEqDiff, List.drop_zero, List.take_succ_cons, List.take_zero, List.drop_succ_cons, Bool.and_true, Bool.true_and, Bool.and_false, Bool.false_and, BitVec.reduceOfInt, Nat.zero_add, Nat.mul_one, Nat.add_zero, Int.zero_add, Int.reduceToNat, Nat.reducePow, ↓reduceIte, reduceCtorEq, Int.reduceLE, Int.reduceLT, Int.reduceEq, Int.reduceNe, Int.reduceAdd, Int.reduceSub, Int.reduceMul, Int.reduceNeg, Nat.reduceBEq, show regOf Tryd.f74 0 = Code.region _ _ _ from rfl, show regOf Tryd.f74 1 = Code.region _ _ _ from rfl, show regOf Tryd.f74 7 = Code.region _ _ _ from rfl, e]
    | some j =>
      rw [ho] at e
      dsimp only at e
      simp (implicitDefEqProofs := false) (disch := omega) only [go_sem, Nat.reduceAdd, Nat.reduceSub, Nat.reduceMul, Nat.reduceLT, Nat.reduceLeDiff, Nat.reduceEqDiff, List.drop_zero, List.take_succ_cons, List.take_zero, List.drop_succ_cons, Bool.and_true, Bool.true_and, Bool.and_false, Bool.false_and, BitVec.reduceOfInt, Nat.zero_add, Nat.mul_one, Nat.add_zero, Int.zero_add, Int.reduceToNat, Nat.reducePow, ↓reduceIte, reduceCtorEq, Int.reduceLE, Int.reduceLT, Int.reduceEq, Int.reduceNe, Int.reduceAdd, Int.reduceSub, Int.reduceMul, Int.reduceNeg, Nat.reduceBEq, show regOf Tryd.f74 0 = Code.region _ _ _ from rfl, show regOf Tryd.f74 1 = Code.region _ _ _ from rfl, e]
  rw [← pixI_any p l 0]
  refine doCall_same md62 ?_ rfl
  rw [aval_of Tryd.func62 body62 Tryd.results62 Tryd.ntmps62 ok62]
  cases ho : pixI p l 0 with
  | none =>
    rw [ho] at c74
    dsimp only at c74
    simp (implicitDefEqProofs := false) (disch := omega) only [go_sem, Nat.reduceAdd, Nat.reduceSub, Nat.reduceMul, Nat.reduceLT, Nat.reduceLeDiff, Nat.reduceEqDiff, List.drop_zero, List.take_succ_cons, List.take_zero, List.drop_succ_cons, Bool.and_true, Bool.true_and, Bool.and_false, Bool.false_and, BitVec.reduceOfInt, Nat.zero_add, Nat.mul_one, Nat.add_zero, Int.zero_add, Int.reduceToNat, Nat.reducePow, ↓reduceIte, reduceCtorEq, Int.reduceLE, Int.reduceLT, Int.reduceEq, Int.reduceNe, Int.reduceAdd, Int.reduceSub, Int.reduceMul, Int.reduceNeg, Nat.reduceBEq, show regOf Tryd.f62 0 = Code.region _ _ _ from rfl, show regOf Tryd.f62 1 = Code.region _ _ _ from rfl, c74, Option.isSome_none]
  | some j =>
    rw [ho] at c74
    dsimp only at c74
    simp (implicitDefEqProofs := false) (disch := omega) only [go_sem, Nat.reduceAdd, Nat.reduceSub, Nat.reduceMul, Nat.reduceLT, Nat.reduceLeDiff, Nat.reduceEqDiff, List.drop_zero, List.take_succ_cons, List.take_zero, List.drop_succ_cons, Bool.and_true, Bool.true_and, Bool.and_false, Bool.false_and, BitVec.reduceOfInt, Nat.zero_add, Nat.mul_one, Nat.add_zero, Int.zero_add, Int.reduceToNat, Nat.reducePow, ↓reduceIte, reduceCtorEq, Int.reduceLE, Int.reduceLT, Int.reduceEq, Int.reduceNe, Int.reduceAdd, Int.reduceSub, Int.reduceMul, Int.reduceNeg, Nat.reduceBEq, show regOf Tryd.f62 0 = Code.region _ _ _ from rfl, show regOf Tryd.f62 1 = Code.region _ _ _ from rfl, c74, Option.isSome_some]
theorem callable_63 : callable Tryd.prog 63 = true := by kernel_rfl
/-- Is a number none of a node? -/
def out (n : Nat) (x : Int) : Bool := decide (x < 0) || decide ((n : Int) ≤ x)
theorem there1_c {h : AHeap} {S q : Nat} {ns : List Nd} {b : Int} {f : Bool} {w : Int} (hs : SP h S ns b f w) (hq : hget h q = .vars [.ptr S 0]) (x : Int) : doCall md (aval Tryd.prog md fg) 63 [.int x, .ptr q 0] h = some (.val (.bool (out ns.length x)), h) := by
  obtain ⟨nv, h1, h2⟩ := hs
  have hlen := nn_len h2
  refine doCall_same md63 ?_ rfl
  unfold out
  by_cases hx : x < 0
  · rw [decide_eq_true hx, Bool.true_or]
    rw [aval_of Tryd.func63 body63 Tryd.results63 Tryd.ntmps63 ok63]
    simp (implicitDefEqProofs := false) (disch := omega) only [go_sem, Nat.reduceAdd, Nat.reduceSub, Nat.reduceMul, Nat.reduceLT, Nat.reduceLeDiff, Nat.reduceEqDiff, List.drop_zero, List.take_succ_cons, List.take_zero, List.drop_succ_cons, Bool.and_true, Bool.true_and, Bool.and_false, Bool.false_and, BitVec.reduceOfInt, Nat.zero_add, Nat.mul_one, Nat.add_zero, Int.zero_add, Int.reduceToNat, Nat.reducePow, ↓reduceIte, reduceCtorEq, Int.reduceLE, Int.reduceLT, Int.reduceEq, Int.reduceNe, Int.reduceAdd, Int.reduceSub, Int.reduceMul, Int.reduceNeg, Nat.reduceBEq, show regOf Tryd.f63 0 = Code.region _ _ _ from rfl, show regOf Tryd.f63 1 = Code.region _ _ _ from rfl, hx]
  · rw [decide_eq_false hx, Bool.false_or]
    by_cases hy : (ns.length : Int) ≤ x
    · rw [decide_eq_true hy]
      rw [aval_of Tryd.func63 body63 Tryd.results63 Tryd.ntmps63 ok63]
      simp (implicitDefEqProofs := false) (disch := omega) only [go_sem, Nat.reduceAdd, Nat.reduceSub, Nat.reduceMul, Nat.reduceLT, Nat.reduceLeDiff, Nat.reduceEqDiff, List.drop_zero, List.take_succ_cons, List.take_zero, List.drop_succ_cons, Bool.and_true, Bool.true_and, Bool.and_false, Bool.false_and, BitVec.reduceOfInt, Nat.zero_add, Nat.mul_one, Nat.add_zero, Int.zero_add, Int.reduceToNat, Nat.reducePow, ↓reduceIte, reduceCtorEq, Int.reduceLE, Int.reduceLT, Int.reduceEq, Int.reduceNe, Int.reduceAdd, Int.reduceSub, Int.reduceMul, Int.reduceNeg, Nat.reduceBEq, show regOf Tryd.f63 0 = Code.region _ _ _ from rfl, show regOf Tryd.f63 1 = Code.region _ _ _ from rfl, hx, hy, hq, h1, hlen]
    · rw [decide_eq_false hy]
      rw [aval_of Tryd.func63 body63 Tryd.results63 Tryd.ntmps63 ok63]
      simp (implicitDefEqProofs := false) (disch := omega) only [go_sem, Nat.reduceAdd, Nat.reduceSub, Nat.reduceMul, Nat.reduceLT, Nat.reduceLeDiff, Nat.reduceEqDiff, List.drop_zero, List.take_succ_cons, List.take_zero, List.drop_succ_cons, Bool.and_true, Bool.true_and, Bool.and_false, Bool.false_and, BitVec.reduceOfInt, Nat.zero_add, Nat.mul_one, Nat.add_zero, Int.zero_add, Int.reduceToNat, Nat.reducePow, ↓reduceIte, reduceCtorEq, Int.reduceLE, Int.reduceLT, Int.reduceEq, Int.reduceNe, Int.reduceAdd, Int.reduceSub, Int.reduceMul, Int.reduceNeg, Nat.reduceBEq, show regOf Tryd.f63 0 = Code.region _ _ _ from rfl, show regOf Tryd.f63 1 = Code.region _ _ _ from rfl, hx, hy, hq, h1, hlen]
theorem there_c {h : AHeap} {S : Nat} {ns : List Nd} {b w : Int} (hs : SP h S ns b false w) (k g : Nat) (l : List Int) (hk : hget h k = .arr 1 (l.map AV.int) g) (hl : l.length ≤ 1000000) : doCall md (aval Tryd.prog md fg) 44 [.ptr S 0, .arr k 0 l.length g 1] h = some (.val (.bool (!(l.any (out ns.length)))), h) := by
  have hs1 := sp_app hs [.vars [.ptr S 0]]
  have cf := full_c hs1
  have cc := confI_c 63 [.ptr h.length 0] callable_63 (out ns.length) k g l (h ++ [.vars [.ptr S 0]]) (by rw [hget_app _ (hlt_of hk (by simp))]; exact hk) (fun x _ => there1_c hs1 hget_last x) hl
  have e : aval Tryd.prog md fg 44 [.ptr S 0, .arr k 0 l.length g 1] h = some (.val (.bool (!(l.any (out ns.length)))), h ++ [.vars [.ptr S 0]]) := by
    generalize l.any (out ns.length) = z at *
    cases z <;>
    · rw [aval_of Tryd.func44 body44 Tryd.results44 Tryd.ntmps44 ok44]
      simp (implicitDefEqProofs := false) (disch := omega) only [go_sem, Nat.reduceAdd, Nat.reduceSub, Nat.reduceMul, Nat.reduceLT, Nat.reduceLeDiff, Nat.reduceEqDiff, List.drop_zero, List.take_succ_cons, List.take_zero, List.drop_succ_cons, Bool.and_true, Bool.true_and, Bool.and_false, Bool.false_and, BitVec.reduceOfInt, Nat.zero_add, Nat.mul_one, Nat.add_zero, Int.zero_add, Int.reduceToNat, Nat.reducePow, ↓reduceIte, reduceCtorEq, Int.reduceLE, Int.reduceLT, Int.reduceEq, Int.reduceNe, Int.reduceAdd, Int.reduceSub, Int.reduceMul, Int.reduceNeg, Nat.reduceBEq, show regOf Tryd.f44 0 = Code.region _ _ _ from rfl, show regOf Tryd.f44 1 = Code.region _ _ _ from rfl, hget_last, cf, cc]
  have := doCall_ref (by decide) (by decide) (by decide) e rfl (gcOk_append h _)
  rw [List.take_left' rfl] at this
  exact this
theorem there_full {h : AHeap} {S : Nat} {ns : List Nd} {b w : Int} (hs : SP h S ns b true w) (v : AV) : doCall md (aval Tryd.prog md fg) 44 [.ptr S 0, v] h = some (.val (.bool false), h) := by
  have cf := full_c (sp_app hs [.vars [.ptr S 0]])
  have e : aval Tryd.prog md fg 44 [.ptr S 0, v] h = some (.val (.bool false), h ++ [.vars [.ptr S 0]]) := by
    rw [aval_of Tryd.func44 body44 Tryd.results44 Tryd.ntmps44 ok44]
    simp (implicitDefEqProofs := false) (disch := omega) only [go_sem, Nat.reduceAdd, Nat.reduceSub, Nat.reduceMul, Nat.reduceLT, Nat.reduceLeDiff, Nat.reduceEqDiff, List.drop_zero, List.take_succ_cons, List.take_zero, List.drop_succ_cons, Bool.and_true, Bool.true_and, Bool.and_false, Bool.false_and, BitVec.reduceOfInt, Nat.zero_add, Nat.mul_one, Nat.add_zero, Int.zero_add, Int.reduceToNat, Nat.reducePow, ↓reduceIte, reduceCtorEq, Int.reduceLE, Int.reduceLT, Int.reduceEq, Int.reduceNe, Int.reduceAdd, Int.reduceSub, Int.reduceMul, Int.reduceNeg, Nat.reduceBEq, show regOf Tryd.f44 0 = Code.region _ _ _ from rfl, show regOf Tryd.f44 1 = Code.region _ _ _ from rfl, hget_last, cf]
  have := doCall_ref (by decide) (by decide) (by decide) e rfl (gcOk_append h _)
  rw [List.take_left' rfl] at this
  exact this
theorem okVal_nilp : okVal (.val (.pointer none)) = true := rfl
theorem there_none (h : AHeap) (v : AV) : doCall md (aval Tryd.prog md fg) 44 [.val (.pointer none), v] h = some (.val (.bool false), h) := by
  have cf := full_nil (h ++ [.vars [.val (.pointer none)]])
  have e : aval Tryd.prog md fg 44 [.val (.pointer none), v] h = some (.val (.bool false), h ++ [.vars [.val (.pointer none)]]) := by
    rw [aval_of Tryd.func44 body44 Tryd.results44 Tryd.ntmps44 ok44]
    simp (implicitDefEqProofs := false) (disch := omega) only [go_sem, Nat.reduceAdd, Nat.reduceSub, Nat.reduceMul, Nat.reduceLT, Nat.reduceLeDiff, Nat.reduceEqDiff, List.drop_zero, List.take_succ_cons, List.take_zero, List.drop_succ_cons, Bool.and_true, Bool.true_and, Bool.and_false, Bool.false_and, BitVec.reduceOfInt, Nat.zero_add, Nat.mul_one, Nat.add_zero, Int.zero_add, Int.reduceToNat, Nat.reducePow, ↓reduceIte, reduceCtorEq, Int.reduceLE, Int.reduceLT, Int.reduceEq, Int.reduceNe, Int.reduceAdd, Int.reduceSub, Int.reduceMul, Int.reduceNeg, Nat.reduceBEq, show regOf Tryd.f44 0 = Code.region _ _ _ from rfl, show regOf Tryd.f44 1 = Code.region _ _ _ from rfl, hget_last, cf, okVal_nilp]
  have := doCall_ref (by decide) (by decide) (by decide) e rfl (gcOk_append h _)
  rw [List.take_left' rfl] at this
  exact this
end Go.Proofs.YtncjbccjpneoiaaDoor
namespace Go.Proofs.YtncjbccjpneoiaaDoor
open Go Go.Ab Go.Proofs
set_option maxRecDepth 100000
set_option linter.unusedSimpArgs false
set_option linter.unusedVariables false
theorem sp_arr {h : AHeap} {S : Nat} {ns : List Nd} {b : Int} {f : Bool} {w : Int} (hs : SP h S ns b f w) (hn : ns ≠ []) : ∃ A g, hget h S = .vars [.arr A 0 ns.length g 7, .int b, .val (.bool f), .int w] ∧ hget h A = .arr 7 (ns.map ndV) g := by
  obtain ⟨nv, h1, ⟨h2, _⟩ | ⟨A, g, rfl, h2⟩⟩ := hs
  · exact absurd h2 hn
  · exact ⟨A, g, h1, h2⟩
theorem ne_of_at {ns : List Nd} {i : Nat} {n : Nd} (h : ns[i]? = some n) : ns ≠ [] := by rintro rfl; simp at h
theorem find_root {h : AHeap} {S : Nat} {ns : List Nd} {b : Int} {f : Bool} {w : Int} (hs : SP h S ns b f w) {i : Nat} {n : Nd} (hx : ns[i]? = some n) (hto : n.to = (i : Int)) : doCall md (aval Tryd.prog md fg) 64 [.ptr S 0, .int i] h = some (.int i, h) := by
  obtain ⟨A, g, h1, h2⟩ := sp_arr hs (ne_of_at hx)
  have hlt := (List.getElem?_eq_some_iff.1 hx).1
  have ht : ((i : Int)).toNat = i := by omega
  obtain ⟨k, p, m, ks, l, t, mk⟩ := n
  dsimp only at hto
  subst hto
  have lo : lrun Tryd.prog md fg (fg 64) (loopOf Tryd.f64 0) (fg 64 1) (((.ptr S 0) :: (.int i) :: .unk :: .unk :: .unk :: .unk :: .unk :: .unk :: .unk :: .unk :: .unk :: .unk :: .unk :: .unk :: .unk :: .unk :: .unk :: .unk :: .unk :: .unk :: .unk :: .unk :: .unk :: .unk :: .unk :: .unk :: .unk :: .unk :: .unk :: .unk :: .unk :: .unk :: .unk :: .unk :: .unk :: .unk :: .unk :: .unk :: .unk :: .unk :: .unk :: .unk :: .unk :: .unk :: .unk :: .unk :: [] : List AV)) h = some (.exit 0, ((.ptr S 0) :: (.int i) :: .unk :: .unk :: .unk :: .unk :: .unk :: .unk :: .unk :: .unk :: .unk :: .unk :: .unk :: .unk :: .unk :: .unk :: .unk :: .unk :: .unk :: .unk :: .unk :: .unk :: .unk :: .unk :: .unk :: .unk :: .unk :: .unk :: .unk :: .unk :: .unk :: .unk :: .unk :: .unk :: .unk :: .unk :: .unk :: .unk :: .unk :: .unk :: .unk :: .unk :: .unk :: .unk :: .unk :: .unk :: [] : List AV), h) := by
    rw [lrun_atC loop64_0]
    simp (implicitDefEqProofs := false) (disch := omega) only [go_sem, Nat.reduceAdd, Nat.reduceSub, Nat.reduceMul, Nat.reduceLT, Nat.reduceLeDiff, Nat.reduceEqDiff, List.drop_zero, List.take_succ_cons, List.take_zero, List.drop_succ_cons, Bool.and_true, Bool.true_and, Bool.and_false, Bool.false_and, BitVec.reduceOfInt, Nat.zero_add, Nat.mul_one, Nat.add_zero, Int.zero_add, Int.reduceToNat, Nat.reducePow, ↓reduceIte, reduceCtorEq, Int.reduceLE, Int.reduceLT, Int.reduceEq, Int.reduceNe, Int.reduceAdd, Int.reduceSub, Int.reduceMul, Int.reduceNeg, Nat.reduceBEq, show regOf Tryd.f64 1 = Code.region _ _ _ from rfl, h1, h2, List.getElem?_map, ht, hx, Option.map_some, ndV_mk]
  refine doCall_same md64 ?_ rfl
  rw [aval_of Tryd.func64 body64 Tryd.results64 Tryd.ntmps64 ok64]
  simp (implicitDefEqProofs := false) (disch := omega) only [go_sem, Nat.reduceAdd, Nat.reduceSub, Nat.reduceMul, Nat.reduceLT, Nat.reduceLeDiff, Nat.reduceEqDiff, List.drop_zero, List.take_succ_cons, List.take_zero, List.drop_succ_cons, Bool.and_true, Bool.true_and, Bool.and_false, Bool.false_and, BitVec.reduceOfInt, Nat.zero_add, Nat.mul_one, Nat.add_zero, Int.zero_add, Int.reduceToNat, Nat.reducePow, ↓reduceIte, reduceCtorEq, Int.reduceLE, Int.reduceLT, Int.reduceEq, Int.reduceNe, Int.reduceAdd, Int.reduceSub, Int.reduceMul, Int.reduceNeg, Nat.reduceBEq, show regOf Tryd.f64 0 = Code.region _ _ _ from rfl, show regOf Tryd.f64 4 = Code.region _ _ _ from rfl, lo]
theorem tmap_90 : tmap Tryd.prog 90 = some (3, 3) := by kernel_rfl
theorem tzero_3u : tzero Tryd.prog 3 = some (.int 0) := by kernel_rfl
theorem eqT3 (a b : Int) : aeqT Tryd.prog eqDepth 3 (.int a) (.int b) = some (a == b) := by kernel_rfl
theorem look_e {h : AHeap} {M c : Nat} (hm : hget h M = .map [] c) (i : Int) : alookup Tryd.prog 90 h (.mp M) (.int i) true = some (.tup [.int 0, .val (.bool false)]) := by
  unfold alookup
  rw [tmap_90]
  dsimp only
  rw [tzero_3u]
  dsimp only
  rw [eqT3, hm]
  rfl
theorem top_root {h : AHeap} {S : Nat} {ns : List Nd} {b : Int} {f : Bool} {w : Int} (hs : SP h S ns b f w) {i : Nat} {n : Nd} (hx : ns[i]? = some n) (hto : n.to = (i : Int)) {M c : Nat} (hm : hget h M = .map [] c) : doCall md (aval Tryd.prog md fg) 46 [.ptr S 0, .int i, .mp M] h = some (.int i, h) := by
  have cf := find_root hs hx hto
  have lk := look_e hm i
  have lo : ∀ a6, lrun Tryd.prog md fg (fg 46) (loopOf Tryd.f46 0) (fg 46 1) ([.ptr S 0, .int i, .mp M, .unk, .unk, .unk, a6, .unk, .unk, .unk, .unk, .unk, .unk, .unk, .unk, .unk, .unk, .unk, .unk, .unk, .unk, .unk, .unk, .unk]) h = some (.ret, [.ptr S 0, .int i, .mp M, .unk, .unk, .unk, .int i, .unk, .unk, .unk, .unk, .unk, .unk, .unk, .unk, .unk, .unk, .unk, .unk, .unk, .unk, .unk, .unk, .unk], h) := fun a6 => by
    rw [lrun_atC loop46_0]
    simp (implicitDefEqProofs := false) (disch := omega) only [go_sem, Nat.reduceAdd, Nat.reduceSub, Nat.reduceMul, Nat.reduceLT, Nat.reduceLeDiff, Nat.reduceEqDiff, List.drop_zero, List.take_succ_cons, List.take_zero, List.drop_succ_cons, Bool.and_true, Bool.true_and, Bool.and_false, Bool.false_and, BitVec.reduceOfInt, Nat.zero_add, Nat.mul_one, Nat.add_zero, Int.zero_add, Int.reduceToNat, Nat.reducePow, ↓reduceIte, reduceCtorEq, Int.reduceLE, Int.reduceLT, Int.reduceEq, Int.reduceNe, Int.reduceAdd, Int.reduceSub, Int.reduceMul, Int.reduceNeg, Nat.reduceBEq, show regOf Tryd.f46 2 = Code.region _ _ _ from rfl, show regOf Tryd.f46 3 = Code.region _ _ _ from rfl, show regOf Tryd.f46 4 = Code.region _ _ _ from rfl, aop_lookup, lk]
  refine doCall_same md46 ?_ rfl
  rw [aval_of Tryd.func46 body46 Tryd.results46 Tryd.ntmps46 ok46]
  simp (implicitDefEqProofs := false) (disch := omega) only [go_sem, Nat.reduceAdd, Nat.reduceSub, Nat.reduceMul, Nat.reduceLT, Nat.reduceLeDiff, Nat.reduceEqDiff, List.drop_zero, List.take_succ_cons, List.take_zero, List.drop_succ_cons, Bool.and_true, Bool.true_and, Bool.and_false, Bool.false_and, BitVec.reduceOfInt, Nat.zero_add, Nat.mul_one, Nat.add_zero, Int.zero_add, Int.reduceToNat, Nat.reducePow, ↓reduceIte, reduceCtorEq, Int.reduceLE, Int.reduceLT, Int.reduceEq, Int.reduceNe, Int.reduceAdd, Int.reduceSub, Int.reduceMul, Int.reduceNeg, Nat.reduceBEq, show regOf Tryd.f46 0 = Code.region _ _ _ from rfl, show regOf Tryd.f46 1 = Code.region _ _ _ from rfl, cf, lo]
theorem same_rigid {h : AHeap} {S : Nat} {ns : List Nd} {b : Int} {f : Bool} {w : Int} (hs : SP h S ns b f w) {i j : Nat} {n m : Nd} (hx : ns[i]? = some n) (hy : ns[j]? = some m) (hn : n.kind = 5) (hm : m.kind = 5) : doCall md (aval Tryd.prog md fg) 48 [.ptr S 0, .int i, .int j] h = some (.val (.bool false), h) := by
  obtain ⟨A, g, h1, h2⟩ := sp_arr hs (ne_of_at hx)
  have hlt := (List.getElem?_eq_some_iff.1 hx).1
  have hlt2 := (List.getElem?_eq_some_iff.1 hy).1
  have ht : ((i : Int)).toNat = i := by omega
  have ht2 : ((j : Int)).toNat = j := by omega
  obtain ⟨k, p, m1, ks, l, t, mk⟩ := n
  obtain ⟨k2, p2, m2, ks2, l2, t2, mk2⟩ := m
  dsimp only at hn hm
  subst hn; subst hm
  refine doCall_same md48 ?_ rfl
  rw [aval_of Tryd.func48 body48 Tryd.results48 Tryd.ntmps48 ok48]
  simp (implicitDefEqProofs := false) (disch := omega) only [go_sem, Nat.reduceAdd, Nat.reduceSub, Nat.reduceMul, Nat.reduceLT, Nat.reduceLeDiff, Nat.reduceEqDiff, List.drop_zero, List.take_succ_cons, List.take_zero, List.drop_succ_cons, Bool.and_true, Bool.true_and, Bool.and_false, Bool.false_and, BitVec.reduceOfInt, Nat.zero_add, Nat.mul_one, Nat.add_zero, Int.zero_add, Int.reduceToNat, Nat.reducePow, ↓reduceIte, reduceCtorEq, Int.reduceLE, Int.reduceLT, Int.reduceEq, Int.reduceNe, Int.reduceAdd, Int.reduceSub, Int.reduceMul, Int.reduceNeg, Nat.reduceBEq, show regOf Tryd.f48 0 = Code.region _ _ _ from rfl, show regOf Tryd.f48 1 = Code.region _ _ _ from rfl, show regOf Tryd.f48 2 = Code.region _ _ _ from rfl, h1, h2, List.getElem?_map, ht, ht2, hx, hy, Option.map_some, ndV_mk]
theorem isSliceT_85 : isSliceT Tryd.prog 85 = true := by kernel_rfl
theorem nilA85 (id off len g k : Nat) : anilS Tryd.prog .eql 85 (.arr id off len g k) = some (.val (.bool false)) := by unfold anilS; rw [if_pos isSliceT_85]; rfl
theorem headOk_ints (l : List Int) : headOk 1 (l.map AV.int) = true := by cases l <;> rfl
theorem cloneI_c {h : AHeap} {k g : Nat} {l : List Int} (hk : hget h k = .arr 1 (l.map AV.int) g) (hl : l.length ≤ 100000) (hn : l ≠ []) : doCall md (aval Tryd.prog md fg) 45 [.arr k 0 l.length g 1] h = some (.arr h.length 0 l.length 0 1, h ++ [.arr 1 (l.map AV.int) 0]) := by
  have hv : sview h (.arr k 0 l.length g 1) = some (l.map AV.int) := sview_arr _ _ _ _ _ hk (by simp)
  have ha : ∀ z, appT (some (1, 8, z)) h (.slc true []) (some (l.map AV.int)) = some (.arr h.length 0 l.length 0 1, h ++ [.arr 1 (l.map AV.int) 0]) := fun z => by
    rw [appT_slc _ _ _ _ _ (headOk_ints l) rfl (by simpa using hn) (by simp; omega)]
    simp
  have e : aval Tryd.prog md fg 45 [.arr k 0 l.length g 1] h = some (.arr h.length 0 l.length 0 1, h ++ [.arr 1 (l.map AV.int) 0]) := by
    rw [aval_of Tryd.func45 body45 Tryd.results45 Tryd.ntmps45 ok45]
    simp (implicitDefEqProofs := false) (disch := omega) only [go_sem, Nat.reduceAdd, Nat.reduceSub, Nat.reduceMul, Nat.reduceLT, Nat.reduceLeDiff, Nat.reduceEqDiff, List.drop_zero, List.take_succ_cons, List.take_zero, List.drop_succ_cons, Bool.and_true, Bool.true_and, Bool.and_false, Bool.false_and, BitVec.reduceOfInt, Nat.zero_add, Nat.mul_one, Nat.add_zero, Int.zero_add, Int.reduceToNat, Nat.reducePow, ↓reduceIte, reduceCtorEq, Int.reduceLE, Int.reduceLT, Int.reduceEq, Int.reduceNe, Int.reduceAdd, Int.reduceSub, Int.reduceMul, Int.reduceNeg, Nat.reduceBEq, show regOf Tryd.f45 0 = Code.region _ _ _ from rfl, show regOf Tryd.f45 1 = Code.region _ _ _ from rfl, show regOf Tryd.f45 3 = Code.region _ _ _ from rfl, nilA85, hv, ha]
  have hs : splitNil md 45 [.arr k 0 l.length g 1] = none := rfl
  unfold doCall
  rw [hs]
  dsimp only
  unfold doCall0
  rw [if_neg (by decide)]
  have : rated (md 45) (aval Tryd.prog md fg 45 [.arr k 0 l.length g 1] h) = aval Tryd.prog md fg 45 [.arr k 0 l.length g 1] h := rfl
  rw [this, e]
  dsimp only
  rw [if_neg]
  simp [below]
theorem make_c {h : AHeap} {S : Nat} {ns : List Nd} {b w : Int} (hs : SP h S ns b false w) (hlt : (ns.length : Int) < b) (hb : b ≤ 200000) (kd : Int) (p m : List UInt8) {k g : Nat} {l : List Int} (hk : hget h k = .arr 1 (l.map AV.int) g) (hl : l.length ≤ 100000) (hn : l ≠ []) (hin : l.any (out ns.length) = false) :
    ∃ H K, doCall md (aval Tryd.prog md fg) 28 [.ptr S 0, .int kd, .str (txt p), .str (txt m), .arr k 0 l.length g 1] h = some (.int ns.length, H) ∧ SP H S (ns ++ [⟨kd, p, m, .arr K 0 l.length 0 1, 0, ns.length, 0⟩]) b false w ∧ hget H K = .arr 1 (l.map AV.int) 0 ∧ K ≠ S ∧ Kf S h H := by
  have ct := there_c hs k g l hk (by omega)
  rw [hin] at ct
  have cc := cloneI_c hk hl hn
  have hS : S < h.length := by obtain ⟨nv, h1, _⟩ := hs; exact hlt_of h1 (by simp)
  obtain ⟨H, cp, p1, p2, A, gA, hA1, hA2⟩ := put_c5 (sp_app hs [.arr 1 (l.map AV.int) 0]) hlt hb kd p m (.arr h.length 0 l.length 0 1) ⟨rfl, rfl⟩ 0 0 0
  rw [ndV_mk] at cp
  have e : aval Tryd.prog md fg 28 [.ptr S 0, .int kd, .str (txt p), .str (txt m), .arr k 0 l.length g 1] h = some (.int ns.length, H) := by
    rw [aval_of Tryd.func28 body28 Tryd.results28 Tryd.ntmps28 ok28]
    simp (implicitDefEqProofs := false) (disch := omega) only [go_sem, Nat.reduceAdd, Nat.reduceSub, Nat.reduceMul, Nat.reduceLT, Nat.reduceLeDiff, Nat.reduceEqDiff, List.drop_zero, List.take_succ_cons, List.take_zero, List.drop_succ_cons, Bool.and_true, Bool.true_and, Bool.and_false, Bool.false_and, BitVec.reduceOfInt, Nat.zero_add, Nat.mul_one, Nat.add_zero, Int.zero_add, Int.reduceToNat, Nat.reducePow, ↓reduceIte, reduceCtorEq, Int.reduceLE, Int.reduceLT, Int.reduceEq, Int.reduceNe, Int.reduceAdd, Int.reduceSub, Int.reduceMul, Int.reduceNeg, Nat.reduceBEq, show regOf Tryd.f28 0 = Code.region _ _ _ from rfl, show regOf Tryd.f28 1 = Code.region _ _ _ from rfl, show regOf Tryd.f28 3 = Code.region _ _ _ from rfl, ct, cc, cp]
  have hK : hget H h.length = .arr 1 (l.map AV.int) 0 := p2.2 _ _ hget_last (by simp) (by omega) (by simp)
  have kf := (kf_app S h [.arr 1 (l.map AV.int) 0]).trans p2
  have hg : below h.length (.int (ns.length : Int)) = true := rfl
  rw [doCall_0 (by decide)]
  unfold doCall0
  rw [if_neg (by decide), rated_id (by decide), e]
  dsimp only
  rw [if_neg]
  · exact ⟨H, h.length, rfl, p1, hK, by omega, kf⟩
  · rintro ⟨_, hgc⟩
    obtain ⟨nv, c1, c2⟩ := p1
    rw [hA1] at c1
    have hnv : nv = .arr A 0 (ns.length + 1) gA 7 := by
      simp only [AObj.vars.injEq, List.cons.injEq] at c1; exact c1.1.symm
    subst hnv
    obtain ⟨A2, g2, e1, e2⟩ : ∃ A2 g2, (AV.arr A 0 (ns.length + 1) gA 7) = .arr A2 0 (ns.length + 1) g2 7 ∧ hget H A2 = .arr 7 ((ns ++ [Nd.mk kd p m (.arr h.length 0 l.length 0 1) 0 ns.length 0]).map ndV) g2 := by
      rcases c2 with ⟨c2, _⟩ | ⟨A2, g2, c2, c3⟩
      · simp at c2
      · exact ⟨A2, g2, by simpa using c2, c3⟩
    simp only [AV.arr.injEq, true_and, and_true] at e1
    obtain ⟨rfl, rfl⟩ := e1
    have hAl : A < h.length := by
      rcases hgc S hS with q | q
      · exfalso
        have hq : hget H S = hget h S := by unfold hget; rw [List.getD_eq_getElem?_getD, q, ← List.getD_eq_getElem?_getD]
        obtain ⟨nv0, d1, d2⟩ := hs
        rw [hA1, d1] at hq
        simp only [AObj.vars.injEq, List.cons.injEq] at hq
        rcases d2 with ⟨_, d2⟩ | ⟨A', g', d2, _⟩
        · rw [d2] at hq; cases hq.1
        · rw [d2] at hq
          have h5 := hq.1
          simp only [AV.arr.injEq] at h5
          omega
      · rw [hA1] at q
        simp only [belowO, belowL, below, Bool.and_eq_true, decide_eq_true_eq] at q
        exact q.1
    rcases hgc A hAl with q | q
    · have hq : hget H A = hget h A := by unfold hget; rw [List.getD_eq_getElem?_getD, q, ← List.getD_eq_getElem?_getD]
      rcases hA2 with hA2 | ⟨g0, hA2⟩
      · simp at hA2; omega
      · rw [hget_app _ hAl] at hA2
        rw [e2, hA2] at hq
        simp only [AObj.arr.injEq] at hq
        have := congrArg List.length hq.2.1
        simp at this
    · rw [e2] at q
      simp only [belowO, List.map_append, List.map_cons, List.map_nil] at q
      have : ∀ (a : List AV) (x : AV), belowL h.length (a ++ [x]) = true → below h.length x = true := by
        intro a x
        induction a with
        | nil => intro hh; simpa [belowL] using hh
        | cons y r ih => intro hh; rw [List.cons_append] at hh; simp only [belowL, Bool.and_eq_true] at hh; exact ih hh.2
      have := this _ _ q
      simp [ndV, below, belowL] at this
end Go.Proofs.YtncjbccjpneoiaaDoor
namespace Go.Proofs.YtncjbccjpneoiaaDoor
open Go Go.Ab Go.Proofs
set_option maxRecDepth 100000
set_option linter.unusedSimpArgs false
set_option linter.unusedVariables false
theorem unify_full {h : AHeap} {S : Nat} {ns : List Nd} {b w : Int} (hs : SP h S ns b true w) (x y : Int) : doCall md (aval Tryd.prog md fg) 29 [.ptr S 0, .int x, .int y] h = some (.val (.bool false), h) := by
  have ct := there_full (sp_app hs [AObj.arr 1 [.int x, .int y] 0]) (.arr h.length 0 2 0 1)
  have e : aval Tryd.prog md fg 29 [.ptr S 0, .int x, .int y] h = some (.val (.bool false), h ++ [AObj.arr 1 [.int x, .int y] 0]) := by
    rw [aval_of Tryd.func29 body29 Tryd.results29 Tryd.ntmps29 ok29]
    simp (implicitDefEqProofs := false) (disch := omega) only [go_sem, Nat.reduceAdd, Nat.reduceSub, Nat.reduceMul, Nat.reduceLT, Nat.reduceLeDiff, Nat.reduceEqDiff, List.drop_zero, List.take_succ_cons, List.take_zero, List.drop_succ_cons, Bool.and_true, Bool.true_and, Bool.and_false, Bool.false_and, BitVec.reduceOfInt, Nat.zero_add, Nat.mul_one, Nat.add_zero, Int.zero_add, Int.reduceToNat, Nat.reducePow, ↓reduceIte, reduceCtorEq, Int.reduceLE, Int.reduceLT, Int.reduceEq, Int.reduceNe, Int.reduceAdd, Int.reduceSub, Int.reduceMul, Int.reduceNeg, Nat.reduceBEq, show regOf Tryd.f29 0 = Code.region _ _ _ from rfl, show regOf Tryd.f29 1 = Code.region _ _ _ from rfl, show regOf Tryd.f29 2 = Code.region _ _ _ from rfl, ct]
  have := doCall_ref (by decide) (by decide) (by decide) e rfl (gcOk_append h _)
  rw [List.take_left' rfl] at this
  exact this
theorem unify_none (h : AHeap) (x y : Int) : doCall md (aval Tryd.prog md fg) 29 [.val (.pointer none), .int x, .int y] h = some (.val (.bool false), h) := by
  have ct := there_none (h ++ [AObj.arr 1 [.int x, .int y] 0]) (.arr h.length 0 2 0 1)
  have e : aval Tryd.prog md fg 29 [.val (.pointer none), .int x, .int y] h = some (.val (.bool false), h ++ [AObj.arr 1 [.int x, .int y] 0]) := by
    rw [aval_of Tryd.func29 body29 Tryd.results29 Tryd.ntmps29 ok29]
    simp (implicitDefEqProofs := false) (disch := omega) only [go_sem, Nat.reduceAdd, Nat.reduceSub, Nat.reduceMul, Nat.reduceLT, Nat.reduceLeDiff, Nat.reduceEqDiff, List.drop_zero, List.take_succ_cons, List.take_zero, List.drop_succ_cons, Bool.and_true, Bool.true_and, Bool.and_false, Bool.false_and, BitVec.reduceOfInt, Nat.zero_add, Nat.mul_one, Nat.add_zero, Int.zero_add, Int.reduceToNat, Nat.reducePow, ↓reduceIte, reduceCtorEq, Int.reduceLE, Int.reduceLT, Int.reduceEq, Int.reduceNe, Int.reduceAdd, Int.reduceSub, Int.reduceMul, Int.reduceNeg, Nat.reduceBEq, show regOf Tryd.f29 0 = Code.region _ _ _ from rfl, show regOf Tryd.f29 1 = Code.region _ _ _ from rfl, show regOf Tryd.f29 2 = Code.region _ _ _ from rfl, ct]
  have := doCall_ref (by decide) (by decide) (by decide) e rfl (gcOk_append h _)
  rw [List.take_left' rfl] at this
  exact this
theorem term_full {h : AHeap} {S : Nat} {ns : List Nd} {b w : Int} (hs : SP h S ns b true w) (x : Int) : doCall md (aval Tryd.prog md fg) 31 [.ptr S 0, .int x] h = some (.tup [.agg [.val (.int .i64 0), .val (.string ⟨#[]⟩), .val (.string ⟨#[]⟩), .val (.int .i64 0), .slc true []], .val (.bool false)], h) := by
  have ct := there_full (sp_app hs [AObj.vars [.val (.int .i64 0), .val (.string ⟨#[]⟩), .val (.string ⟨#[]⟩), .val (.int .i64 0), .slc true []], AObj.arr 1 [.int x] 0]) (.arr (h.length + 1) 0 1 0 1)
  have e : aval Tryd.prog md fg 31 [.ptr S 0, .int x] h = some (.tup [.agg [.val (.int .i64 0), .val (.string ⟨#[]⟩), .val (.string ⟨#[]⟩), .val (.int .i64 0), .slc true []], .val (.bool false)], h ++ [AObj.vars [.val (.int .i64 0), .val (.string ⟨#[]⟩), .val (.string ⟨#[]⟩), .val (.int .i64 0), .slc true []], AObj.arr 1 [.int x] 0]) := by
    rw [aval_of Tryd.func31 body31 Tryd.results31 Tryd.ntmps31 ok31]
    simp (implicitDefEqProofs := false) (disch := first | omega | exact List.length_set) only [go_sem, Nat.reduceAdd, Nat.reduceSub, Nat.reduceMul, Nat.reduceLT, Nat.reduceLeDiff, Nat.reduceEqDiff, List.drop_zero, List.take_succ_cons, List.take_zero, List.drop_succ_cons, Bool.and_true, Bool.true_and, Bool.and_false, Bool.false_and, BitVec.reduceOfInt, Nat.zero_add, Nat.mul_one, Nat.add_zero, Int.zero_add, Int.reduceToNat, Nat.reducePow, ↓reduceIte, reduceCtorEq, Int.reduceLE, Int.reduceLT, Int.reduceEq, Int.reduceNe, Int.reduceAdd, Int.reduceSub, Int.reduceMul, Int.reduceNeg, Nat.reduceBEq, show regOf Tryd.f31 0 = Code.region _ _ _ from rfl, show regOf Tryd.f31 1 = Code.region _ _ _ from rfl, show regOf Tryd.f31 2 = Code.region _ _ _ from rfl, ct, List.append_assoc, List.cons_append, List.nil_append, List.length_append, List.length_cons, List.length_nil, sb_get0, sb_get1, sb_set0, sb_set1, aresults, tupOf, Option.map_some]
  have := doCall_ref (by decide) (by decide) (by decide) e rfl (gcOk_append h _)
  rw [List.take_left' rfl] at this
  exact this
/-- May a type lie in a variable's? -/
def mayIn (v L : Int) (i : Int) (n : Nd) : Bool := decide (i ≠ v) && (decide (n.kind ≠ 5) || decide (n.level ≤ L))
set_option maxHeartbeats 4000000 in
theorem may_c {h : AHeap} {S q r s : Nat} {ns : List Nd} {b : Int} {f : Bool} {w v L : Int} (hs : SP h S ns b f w) (hq : hget h q = .vars [.ptr S 0]) (hr : hget h r = .vars [.int v]) (hl : hget h s = .vars [.int L]) {i : Nat} {n : Nd} (hx : ns[i]? = some n) : doCall md (aval Tryd.prog md fg) 66 [.int i, .ptr q 0, .ptr r 0, .ptr s 0] h = some (.val (.bool (mayIn v L i n)), h) := by
  obtain ⟨A, g, h1, h2⟩ := sp_arr hs (ne_of_at hx)
  have hlt := (List.getElem?_eq_some_iff.1 hx).1
  have ht : ((i : Int)).toNat = i := by omega
  obtain ⟨k, p, m, ks, l, t, mk⟩ := n
  unfold mayIn
  dsimp only
  refine doCall_same md66 ?_ rfl
  by_cases c1 : (i : Int) = v
  · have : (decide ((i : Int) ≠ v) && (decide (k ≠ 5) || decide (l ≤ L))) = false := by simp [c1]
    rw [this]
    rw [aval_of Tryd.func66 body66 Tryd.results66 Tryd.ntmps66 ok66]
    simp (implicitDefEqProofs := false) (disch := omega) only [go_sem, Nat.reduceAdd, Nat.reduceSub, Nat.reduceMul, Nat.reduceLT, Nat.reduceLeDiff, Nat.reduceEqDiff, List.drop_zero, List.take_succ_cons, List.take_zero, List.drop_succ_cons, Bool.and_true, Bool.true_and, Bool.and_false, Bool.false_and, BitVec.reduceOfInt, Nat.zero_add, Nat.mul_one, Nat.add_zero, Int.zero_add, Int.reduceToNat, Nat.reducePow, ↓reduceIte, reduceCtorEq, Int.reduceLE, Int.reduceLT, Int.reduceEq, Int.reduceNe, Int.reduceAdd, Int.reduceSub, Int.reduceMul, Int.reduceNeg, Nat.reduceBEq, show regOf Tryd.f66 0 = Code.region _ _ _ from rfl, show regOf Tryd.f66 1 = Code.region _ _ _ from rfl, show regOf Tryd.f66 2 = Code.region _ _ _ from rfl, hq, hr, hl, h1, h2, List.getElem?_map, ht, hx, Option.map_some, ndV_mk, c1]
  · by_cases c2 : k = 5
    · have : (decide ((i : Int) ≠ v) && (decide (k ≠ 5) || decide (l ≤ L))) = decide (l ≤ L) := by simp [c1, c2]
      rw [this]
      by_cases c3 : l ≤ L
      · rw [decide_eq_true c3]
        rw [aval_of Tryd.func66 body66 Tryd.results66 Tryd.ntmps66 ok66]
        simp (implicitDefEqProofs := false) (disch := omega) only [go_sem, Nat.reduceAdd, Nat.reduceSub, Nat.reduceMul, Nat.reduceLT, Nat.reduceLeDiff, Nat.reduceEqDiff, List.drop_zero, List.take_succ_cons, List.take_zero, List.drop_succ_cons, Bool.and_true, Bool.true_and, Bool.and_false, Bool.false_and, BitVec.reduceOfInt, Nat.zero_add, Nat.mul_one, Nat.add_zero, Int.zero_add, Int.reduceToNat, Nat.reducePow, ↓reduceIte, reduceCtorEq, Int.reduceLE, Int.reduceLT, Int.reduceEq, Int.reduceNe, Int.reduceAdd, Int.reduceSub, Int.reduceMul, Int.reduceNeg, Nat.reduceBEq, show regOf Tryd.f66 0 = Code.region _ _ _ from rfl, show regOf Tryd.f66 1 = Code.region _ _ _ from rfl, show regOf Tryd.f66 2 = Code.region _ _ _ from rfl, hq, hr, hl, h1, h2, List.getElem?_map, ht, hx, Option.map_some, ndV_mk, c1, c2, c3]
      · rw [decide_eq_false c3]
        rw [aval_of Tryd.func66 body66 Tryd.results66 Tryd.ntmps66 ok66]
        simp (implicitDefEqProofs := false) (disch := omega) only [go_sem, Nat.reduceAdd, Nat.reduceSub, Nat.reduceMul, Nat.reduceLT, Nat.reduceLeDiff, Nat.reduceEqDiff, List.drop_zero, List.take_succ_cons, List.take_zero, List.drop_succ_cons, Bool.and_true, Bool.true_and, Bool.and_false, Bool.false_and, BitVec.reduceOfInt, Nat.zero_add, Nat.mul_one, Nat.add_zero, Int.zero_add, Int.reduceToNat, Nat.reducePow, ↓reduceIte, reduceCtorEq, Int.reduceLE, Int.reduceLT, Int.reduceEq, Int.reduceNe, Int.reduceAdd, Int.reduceSub, Int.reduceMul, Int.reduceNeg, Nat.reduceBEq, show regOf Tryd.f66 0 = Code.region _ _ _ from rfl, show regOf Tryd.f66 1 = Code.region _ _ _ from rfl, show regOf Tryd.f66 2 = Code.region _ _ _ from rfl, hq, hr, hl, h1, h2, List.getElem?_map, ht, hx, Option.map_some, ndV_mk, c1, c2, c3]
    · have : (decide ((i : Int) ≠ v) && (decide (k ≠ 5) || decide (l ≤ L))) = true := by simp [c1, c2]
      rw [this]
      rw [aval_of Tryd.func66 body66 Tryd.results66 Tryd.ntmps66 ok66]
      simp (implicitDefEqProofs := false) (disch := omega) only [go_sem, Nat.reduceAdd, Nat.reduceSub, Nat.reduceMul, Nat.reduceLT, Nat.reduceLeDiff, Nat.reduceEqDiff, List.drop_zero, List.take_succ_cons, List.take_zero, List.drop_succ_cons, Bool.and_true, Bool.true_and, Bool.and_false, Bool.false_and, BitVec.reduceOfInt, Nat.zero_add, Nat.mul_one, Nat.add_zero, Int.zero_add, Int.reduceToNat, Nat.reducePow, ↓reduceIte, reduceCtorEq, Int.reduceLE, Int.reduceLT, Int.reduceEq, Int.reduceNe, Int.reduceAdd, Int.reduceSub, Int.reduceMul, Int.reduceNeg, Nat.reduceBEq, show regOf Tryd.f66 0 = Code.region _ _ _ from rfl, show regOf Tryd.f66 1 = Code.region _ _ _ from rfl, show regOf Tryd.f66 2 = Code.region _ _ _ from rfl, hq, hr, hl, h1, h2, List.getElem?_map, ht, hx, Option.map_some, ndV_mk, c1, c2]
end Go.Proofs.YtncjbccjpneoiaaDoor
namespace Go.Proofs.YtncjbccjpneoiaaDoor
open Go Go.Ab Go.Proofs
set_option maxRecDepth 100000
set_option linter.unusedSimpArgs false
set_option linter.unusedVariables false
theorem map_set' (ns : List Nd) (i : Nat) (n : Nd) : (ns.map ndV).set i (ndV n) = (ns.set i n).map ndV := by rw [List.map_set]
theorem sp_set {h : AHeap} {S A g : Nat} {ns : List Nd} {b : Int} {f : Bool} {w : Int} (h1 : hget h S = .vars [.arr A 0 ns.length g 7, .int b, .val (.bool f), .int w]) (h2 : hget h A = .arr 7 (ns.map ndV) g) (i : Nat) (n : Nd) :
    SP (h.set A (.arr 7 ((ns.set i n).map ndV) g)) S (ns.set i n) b f w ∧ Kf S h (h.set A (.arr 7 ((ns.set i n).map ndV) g)) := by
  have hA := hlt_of h2 (by simp)
  have hne : ¬ A = S := by rintro rfl; rw [h2] at h1; cases h1
  refine ⟨⟨_, by rw [hget_set_ne hne]; exact h1, .inr ⟨A, g, by rw [List.length_set], hget_set_eq hA⟩⟩, by simp, fun j o e h3 _ h4 => ?_⟩
  rw [hget_set_ne (by rintro rfl; rw [h2] at e; exact h4 _ _ e.symm)]; exact e
def lowN (L : Int) (n : Nd) : Nd := if n.kind = 1 then { n with level := if L < n.level then L else n.level } else n
set_option maxHeartbeats 4000000 in
theorem low_c {h : AHeap} {S q s : Nat} {ns : List Nd} {b : Int} {f : Bool} {w L : Int} (hs : SP h S ns b f w) (hq : hget h q = .vars [.ptr S 0]) (hl : hget h s = .vars [.int L]) {i : Nat} {n : Nd} (hx : ns[i]? = some n) : ∃ H, doCall md (aval Tryd.prog md fg) 67 [.int i, .ptr q 0, .ptr s 0] h = some (.val (.bool true), H) ∧ SP H S (ns.set i (lowN L n)) b f w ∧ Kf S h H := by
  have hs0 := hs
  obtain ⟨A, g, h1, h2⟩ := sp_arr hs (ne_of_at hx)
  have hlt := (List.getElem?_eq_some_iff.1 hx).1
  have ht : ((i : Int)).toNat = i := by omega
  obtain ⟨k, p, m, ks, l, t, mk⟩ := n
  unfold lowN
  dsimp only
  by_cases c1 : k = 1
  · subst c1
    rw [if_pos rfl]
    obtain ⟨s1, s2⟩ := sp_set h1 h2 i ⟨1, p, m, ks, if L < l then L else l, t, mk⟩
    have hgt : (ns.map ndV)[i]? = some (.agg [.int 1, .str (txt p), .str (txt m), ks, .int l, .int t, .int mk]) := by rw [List.getElem?_map, hx]; rfl
    have hst : septr true 1 (.int (if L < l then L else l)) g 7 i 4 h A (.arr 7 (ns.map ndV) g) = some (h.set A (.arr 7 ((ns.set i ⟨1, p, m, ks, if L < l then L else l, t, mk⟩).map ndV) g)) := by
      rw [← map_set']
      simp [septr, hgt, AV.cells, patch, putAt, ndV]
    refine doCall_sp md67 ?_ hs0 s1 s2
    rw [aval_of Tryd.func67 body67 Tryd.results67 Tryd.ntmps67 ok67]
    simp (implicitDefEqProofs := false) (disch := omega) only [go_sem, Nat.reduceAdd, Nat.reduceSub, Nat.reduceMul, Nat.reduceLT, Nat.reduceLeDiff, Nat.reduceEqDiff, List.drop_zero, List.take_succ_cons, List.take_zero, List.drop_succ_cons, Bool.and_true, Bool.true_and, Bool.and_false, Bool.false_and, BitVec.reduceOfInt, Nat.zero_add, Nat.mul_one, Nat.add_zero, Int.zero_add, Int.reduceToNat, Nat.reducePow, ↓reduceIte, reduceCtorEq, Int.reduceLE, Int.reduceLT, Int.reduceEq, Int.reduceNe, Int.reduceAdd, Int.reduceSub, Int.reduceMul, Int.reduceNeg, Nat.reduceBEq, show regOf Tryd.f67 0 = Code.region _ _ _ from rfl, show regOf Tryd.f67 1 = Code.region _ _ _ from rfl, show regOf Tryd.f67 2 = Code.region _ _ _ from rfl, show regOf Tryd.f67 3 = Code.region _ _ _ from rfl, show regOf Tryd.f67 4 = Code.region _ _ _ from rfl, hq, hl, h1, h2, List.getElem?_map, ht, hx, Option.map_some, ndV_mk, hst, thenDraw_store]
  · rw [if_neg c1]
    have : ns.set i ⟨k, p, m, ks, l, t, mk⟩ = ns := by
      apply List.ext_getElem?
      intro j
      by_cases hij : i = j
      · subst hij; rw [List.getElem?_set_self hlt, hx]
      · rw [List.getElem?_set_ne hij]
    rw [this]
    refine ⟨h, doCall_same md67 ?_ rfl, hs0, Kf.refl S h⟩
    rw [aval_of Tryd.func67 body67 Tryd.results67 Tryd.ntmps67 ok67]
    simp (implicitDefEqProofs := false) (disch := omega) only [go_sem, Nat.reduceAdd, Nat.reduceSub, Nat.reduceMul, Nat.reduceLT, Nat.reduceLeDiff, Nat.reduceEqDiff, List.drop_zero, List.take_succ_cons, List.take_zero, List.drop_succ_cons, Bool.and_true, Bool.true_and, Bool.and_false, Bool.false_and, BitVec.reduceOfInt, Nat.zero_add, Nat.mul_one, Nat.add_zero, Int.zero_add, Int.reduceToNat, Nat.reducePow, ↓reduceIte, reduceCtorEq, Int.reduceLE, Int.reduceLT, Int.reduceEq, Int.reduceNe, Int.reduceAdd, Int.reduceSub, Int.reduceMul, Int.reduceNeg, Nat.reduceBEq, show regOf Tryd.f67 0 = Code.region _ _ _ from rfl, show regOf Tryd.f67 1 = Code.region _ _ _ from rfl, show regOf Tryd.f67 2 = Code.region _ _ _ from rfl, show regOf Tryd.f67 4 = Code.region _ _ _ from rfl, hq, hl, h1, h2, List.getElem?_map, ht, hx, Option.map_some, ndV_mk, c1]
/-- A node's kids, as numbers. -/
def KD (h : AHeap) (v : AV) (kl : List Int) : Prop := (v = .slc true [] ∧ kl = []) ∨ ∃ K g, v = .arr K 0 kl.length g 1 ∧ hget h K = .arr 1 (kl.map AV.int) g
def TI (h : AHeap) (T g : Nat) (st : List Int) : Prop := hget h T = .arr 1 (st.map AV.int) g
def mkN (w : Int) (n : Nd) : Nd := { n with mark := w }
/-- All but the store, arrays of nodes and the list of what is to do stays. -/
def Kw (S T : Nat) (h H : AHeap) : Prop := h.length ≤ H.length ∧ ∀ j o, hget h j = o → o ≠ .dead → j ≠ S → j ≠ T → (∀ b c, o ≠ .arr 7 b c) → hget H j = o
theorem appT_arr2 {h : AHeap} (ks b : Nat) (z : AV) (id len g : Nat) (es xs : List AV) (ho : hget h id = .arr ks es g) (hl : len ≤ es.length) (hk : headOk ks xs = true) (hb : (len + xs.length) * b ≤ 140737488355328) :
    appT (some (ks, b, z)) h (.arr id 0 len g ks) (some xs) = some (.arr id 0 (len + xs.length) (g + 1) ks, h.set id (.arr ks (es.take len ++ xs) (g + 1))) := by
  have : (len + xs.length) * b ≤ 2 ^ 47 := hb
  simp [appT, hk, ho, this, hl]
set_option maxHeartbeats 8000000 in
theorem w_false {h : AHeap} {S T gT : Nat} {ns : List Nd} {b w : Int} {fl : Bool} (hs : SP h S ns b fl w) (f : FuncId) (caps : List AV) (hc : callable Tryd.prog f = true) {st : List Int} {i : Nat} (hT : TI h T gT (st ++ [(i : Int)])) (hst : st.length ≤ 100000) (hTS : T ≠ S) {n : Nd} (hx : ns[i]? = some n) (hto : n.to = (i : Int)) (hmk : n.mark ≠ w)
    (ns2 : List Nd) (hcl : ∀ h1, SP h1 S (ns.set i (mkN w n)) b fl w → Kf S h h1 → ∃ h2, doCall md (aval Tryd.prog md fg) f (.int i :: caps) h1 = some (.val (.bool false), h2) ∧ SP h2 S ns2 b fl w ∧ Kf S h1 h2) :
    (∃ h2 a7, lrun Tryd.prog md fg (fg 65) (loopOf Tryd.f65 0) (fg 65 1) (((.ptr S 0) :: .unk :: (.clo f [] caps) :: .unk :: .unk :: .unk :: (.val (.bool false)) :: (.arr T 0 (st ++ [(i : Int)]).length gT 1) :: .unk :: .unk :: .unk :: .unk :: .unk :: .unk :: .unk :: .unk :: .unk :: .unk :: .unk :: .unk :: .unk :: .unk :: .unk :: .unk :: .unk :: .unk :: .unk :: .unk :: .unk :: .unk :: .unk :: .unk :: .unk :: .unk :: .unk :: .unk :: .unk :: .unk :: .unk :: .unk :: .unk :: .unk :: .unk :: .unk :: .unk :: .unk :: .unk :: .unk :: .unk :: .unk :: .unk :: .unk :: .unk :: .unk :: .unk :: .unk :: .unk :: .unk :: .unk :: .unk :: .unk :: .unk :: .unk :: .unk :: .unk :: .unk :: .unk :: .unk :: .unk :: .unk :: .unk :: .unk :: [] : List AV)) h = some (.ret, ((.ptr S 0) :: .unk :: (.clo f [] caps) :: .unk :: .unk :: .unk :: (.val (.bool false)) :: (a7) :: .unk :: .unk :: .unk :: .unk :: .unk :: .unk :: .unk :: .unk :: .unk :: .unk :: .unk :: .unk :: .unk :: .unk :: .unk :: .unk :: .unk :: .unk :: .unk :: .unk :: .unk :: .unk :: .unk :: .unk :: .unk :: .unk :: .unk :: .unk :: .unk :: .unk :: .unk :: .unk :: .unk :: .unk :: .unk :: .unk :: .unk :: .unk :: .unk :: .unk :: .unk :: .unk :: .unk :: .unk :: .unk :: .unk :: .unk :: .unk :: .unk :: .unk :: .unk :: .unk :: .unk :: .unk :: .unk :: .unk :: .unk :: .unk :: .unk :: .unk :: .unk :: .unk :: .unk :: .unk :: [] : List AV), h2) ∧ SP h2 S ns2 b fl w ∧ Kf S h h2) := by
  have cf := find_root hs hx hto
  obtain ⟨A, g, h1, h2'⟩ := sp_arr hs (ne_of_at hx)
  have hlt := (List.getElem?_eq_some_iff.1 hx).1
  have ht : ((i : Int)).toNat = i := by omega
  obtain ⟨s1, s2⟩ := sp_set h1 h2' i (mkN w n)
  obtain ⟨h3, c1, c2, c3⟩ := hcl _ s1 s2
  unfold TI at hT
  have hlen : (st ++ [(i : Int)]).length = st.length + 1 := by simp
  have hlast : ((st ++ [(i : Int)]).map AV.int)[st.length]? = some (.int i) := by simp
  obtain ⟨k, p, m, ks, l, t, mk⟩ := n
  dsimp only at hmk
  have hgt : (ns.map ndV)[i]? = some (.agg [.int k, .str (txt p), .str (txt m), ks, .int l, .int t, .int mk]) := by rw [List.getElem?_map, hx]; rfl
  have hstp : septr true 1 (.int w) g 7 i 6 h A (.arr 7 (ns.map ndV) g) = some (h.set A (.arr 7 ((ns.set i (mkN w ⟨k, p, m, ks, l, t, mk⟩)).map ndV) g)) := by
    rw [← map_set']
    simp [septr, hgt, AV.cells, patch, putAt, ndV, mkN]
  have hl1 : (((st.length + 1 : Nat) : Int) - 1).toNat = st.length := by omega
  have hl2 : (((st.length : Nat) : Int) + 1 - 1).toNat = st.length := by omega
  refine ⟨h3, .arr T 0 st.length gT 1, ?_, c2, s2.trans c3⟩
  rw [hlen]
  rw [lrun_atC loop65_0]
  simp (implicitDefEqProofs := false) (disch := omega) only [go_sem, Nat.reduceAdd, Nat.reduceSub, Nat.reduceMul, Nat.reduceLT, Nat.reduceLeDiff, Nat.reduceEqDiff, List.drop_zero, List.take_succ_cons, List.take_zero, List.drop_succ_cons, Bool.and_true, Bool.true_and, Bool.and_false, Bool.false_and, BitVec.reduceOfInt, Nat.zero_add, Nat.mul_one, Nat.add_zero, Int.zero_add, Int.reduceToNat, Nat.reducePow, ↓reduceIte, reduceCtorEq, Int.reduceLE, Int.reduceLT, Int.reduceEq, Int.reduceNe, Int.reduceAdd, Int.reduceSub, Int.reduceMul, Int.reduceNeg, Nat.reduceBEq, show regOf Tryd.f65 3 = Code.region _ _ _ from rfl, show regOf Tryd.f65 4 = Code.region _ _ _ from rfl, show regOf Tryd.f65 5 = Code.region _ _ _ from rfl, show regOf Tryd.f65 6 = Code.region _ _ _ from rfl, show regOf Tryd.f65 7 = Code.region _ _ _ from rfl, show regOf Tryd.f65 8 = Code.region _ _ _ from rfl, show regOf Tryd.f65 9 = Code.region _ _ _ from rfl, hT, hlast, hl1, hl2, cf, h1, h2', List.getElem?_map, ht, hx, Option.map_some, ndV_mk, hmk, hstp, hc, List.nil_append, List.cons_append, c1, thenDraw_store, Nat.sub_zero]
set_option maxHeartbeats 8000000 in
theorem w_true {h : AHeap} {S T gT : Nat} {ns : List Nd} {b w : Int} {fl : Bool} (hs : SP h S ns b fl w) (f : FuncId) (caps : List AV) (hc : callable Tryd.prog f = true) {st : List Int} {i : Nat} (hT : TI h T gT (st ++ [(i : Int)])) (hst : st.length ≤ 100000) (hTS : T ≠ S) {n : Nd} (hx : ns[i]? = some n) (hto : n.to = (i : Int)) (hmk : n.mark ≠ w)
    (ns2 : List Nd) (hcl : ∀ h1, SP h1 S (ns.set i (mkN w n)) b fl w → Kf S h h1 → ∃ h2, doCall md (aval Tryd.prog md fg) f (.int i :: caps) h1 = some (.val (.bool true), h2) ∧ SP h2 S ns2 b fl w ∧ Kf S h1 h2) {n2 : Nd} (hx2 : ns2[i]? = some n2) {kl : List Int} (hkl : kl.length ≤ 100000) (hkd : ∀ h1 h2, Kf S h h1 → Kf S h1 h2 → KD h2 n2.kids kl) (hkT : ∀ K g' l, n2.kids = .arr K 0 l g' 1 → K ≠ T) :
    ∃ h4, lrun Tryd.prog md fg (fg 65) (loopOf Tryd.f65 0) (fg 65 1) (((.ptr S 0) :: .unk :: (.clo f [] caps) :: .unk :: .unk :: .unk :: (.val (.bool false)) :: (.arr T 0 (st ++ [(i : Int)]).length gT 1) :: .unk :: .unk :: .unk :: .unk :: .unk :: .unk :: .unk :: .unk :: .unk :: .unk :: .unk :: .unk :: .unk :: .unk :: .unk :: .unk :: .unk :: .unk :: .unk :: .unk :: .unk :: .unk :: .unk :: .unk :: .unk :: .unk :: .unk :: .unk :: .unk :: .unk :: .unk :: .unk :: .unk :: .unk :: .unk :: .unk :: .unk :: .unk :: .unk :: .unk :: .unk :: .unk :: .unk :: .unk :: .unk :: .unk :: .unk :: .unk :: .unk :: .unk :: .unk :: .unk :: .unk :: .unk :: .unk :: .unk :: .unk :: .unk :: .unk :: .unk :: .unk :: .unk :: .unk :: .unk :: [] : List AV)) h = lrun Tryd.prog md fg (fg 65) (loopOf Tryd.f65 0) (fg 65 1) (((.ptr S 0) :: .unk :: (.clo f [] caps) :: .unk :: .unk :: .unk :: (.val (.bool false)) :: (.arr T 0 (st ++ kl).length (gT + 1) 1) :: .unk :: .unk :: .unk :: .unk :: .unk :: .unk :: .unk :: .unk :: .unk :: .unk :: .unk :: .unk :: .unk :: .unk :: .unk :: .unk :: .unk :: .unk :: .unk :: .unk :: .unk :: .unk :: .unk :: .unk :: .unk :: .unk :: .unk :: .unk :: .unk :: .unk :: .unk :: .unk :: .unk :: .unk :: .unk :: .unk :: .unk :: .unk :: .unk :: .unk :: .unk :: .unk :: .unk :: .unk :: .unk :: .unk :: .unk :: .unk :: .unk :: .unk :: .unk :: .unk :: .unk :: .unk :: .unk :: .unk :: .unk :: .unk :: .unk :: .unk :: .unk :: .unk :: .unk :: .unk :: [] : List AV)) h4 ∧ TI h4 T (gT + 1) (st ++ kl) ∧ SP h4 S ns2 b fl w ∧ Kw S T h h4 := by
  have cf := find_root hs hx hto
  obtain ⟨A, g, h1, h2'⟩ := sp_arr hs (ne_of_at hx)
  have hlt := (List.getElem?_eq_some_iff.1 hx).1
  have ht : ((i : Int)).toNat = i := by omega
  obtain ⟨s1, s2⟩ := sp_set h1 h2' i (mkN w n)
  obtain ⟨h3, c1, c2, c3⟩ := hcl _ s1 s2
  unfold TI at hT
  have hlen : (st ++ [(i : Int)]).length = st.length + 1 := by simp
  have hlast : ((st ++ [(i : Int)]).map AV.int)[st.length]? = some (.int i) := by simp
  obtain ⟨k, p, m, ks, l, t, mk⟩ := n
  dsimp only at hmk
  have hgt : (ns.map ndV)[i]? = some (.agg [.int k, .str (txt p), .str (txt m), ks, .int l, .int t, .int mk]) := by rw [List.getElem?_map, hx]; rfl
  have hstp : septr true 1 (.int w) g 7 i 6 h A (.arr 7 (ns.map ndV) g) = some (h.set A (.arr 7 ((ns.set i (mkN w ⟨k, p, m, ks, l, t, mk⟩)).map ndV) g)) := by
    rw [← map_set']
    simp [septr, hgt, AV.cells, patch, putAt, ndV, mkN]
  have hl1 : (((st.length + 1 : Nat) : Int) - 1).toNat = st.length := by omega
  have hl2 : (((st.length : Nat) : Int) + 1 - 1).toNat = st.length := by omega
  have hT3 : hget h3 T = .arr 1 ((st ++ [(i : Int)]).map AV.int) gT := (s2.trans c3).2 T _ hT (by simp) hTS (by simp)
  have hTl := hlt_of hT3 (by simp)
  have hkd := hkd _ _ s2 c3
  obtain ⟨A2, g2, d1, d2⟩ := sp_arr c2 (ne_of_at hx2)
  have happ : ∀ z, appT (some (1, 8, z)) h3 (.arr T 0 st.length gT 1) (some (kl.map AV.int)) = some (.arr T 0 (st ++ kl).length (gT + 1) 1, h3.set T (.arr 1 ((st ++ kl).map AV.int) (gT + 1))) := fun z => by
    rw [appT_arr2 _ _ _ _ _ _ _ _ hT3 (by simp) (headOk_ints kl) (by simp; omega)]
    congr 2
    · simp
    · have : ((st ++ [(i : Int)]).map AV.int).take st.length = st.map AV.int := by simp
      rw [this, List.map_append]
  have hkv : aelems h3 n2.kids = some (kl.map AV.int) := by
    rcases hkd with ⟨e1, rfl⟩ | ⟨K, g', e1, e2⟩
    · rw [e1]; rfl
    · rw [e1, aelems_arr]; exact sview_arr _ _ _ _ _ e2 (by simp)
  refine ⟨_, ?_, hget_set_eq hTl, ?_, ?_⟩
  · rw [hlen]
    obtain ⟨k5, p5, m5, ks5, l5, t5, mk5⟩ := n2
    dsimp only at hkv
    have hks5 : (∃ K g' l, ks5 = .arr K 0 l g' 1) ∨ ks5 = .slc true [] := by
      rcases hkd with ⟨e1, _⟩ | ⟨K, g', e1, _⟩
      · exact .inr e1
      · exact .inl ⟨K, g', _, e1⟩
    have hlt2 := (List.getElem?_eq_some_iff.1 hx2).1
    rcases hks5 with ⟨K, g', l, rfl⟩ | rfl
    · rw [aelems_arr] at hkv
      rw [lrun_atC loop65_0]
      simp (implicitDefEqProofs := false) (disch := omega) only [go_sem, Nat.reduceAdd, Nat.reduceSub, Nat.reduceMul, Nat.reduceLT, Nat.reduceLeDiff, Nat.reduceEqDiff, List.drop_zero, List.take_succ_cons, List.take_zero, List.drop_succ_cons, Bool.and_true, Bool.true_and, Bool.and_false, Bool.false_and, BitVec.reduceOfInt, Nat.zero_add, Nat.mul_one, Nat.add_zero, Int.zero_add, Int.reduceToNat, Nat.reducePow, ↓reduceIte, reduceCtorEq, Int.reduceLE, Int.reduceLT, Int.reduceEq, Int.reduceNe, Int.reduceAdd, Int.reduceSub, Int.reduceMul, Int.reduceNeg, Nat.reduceBEq, show regOf Tryd.f65 3 = Code.region _ _ _ from rfl, show regOf Tryd.f65 4 = Code.region _ _ _ from rfl, show regOf Tryd.f65 5 = Code.region _ _ _ from rfl, show regOf Tryd.f65 6 = Code.region _ _ _ from rfl, show regOf Tryd.f65 7 = Code.region _ _ _ from rfl, show regOf Tryd.f65 8 = Code.region _ _ _ from rfl, show regOf Tryd.f65 10 = Code.region _ _ _ from rfl, hT, hlast, hl1, hl2, cf, h1, h2', List.getElem?_map, ht, hx, hx2, d1, d2, Option.map_some, ndV_mk, hmk, hstp, hc, List.nil_append, List.cons_append, c1, thenDraw_store, Nat.sub_zero, hkv, happ]
    · have hkn : kl = [] := by
        rw [aelems_slc] at hkv
        simpa using hkv.symm
      subst hkn
      rw [List.map_nil] at happ
      rw [lrun_atC loop65_0]
      simp (implicitDefEqProofs := false) (disch := omega) only [go_sem, Nat.reduceAdd, Nat.reduceSub, Nat.reduceMul, Nat.reduceLT, Nat.reduceLeDiff, Nat.reduceEqDiff, List.drop_zero, List.take_succ_cons, List.take_zero, List.drop_succ_cons, Bool.and_true, Bool.true_and, Bool.and_false, Bool.false_and, BitVec.reduceOfInt, Nat.zero_add, Nat.mul_one, Nat.add_zero, Int.zero_add, Int.reduceToNat, Nat.reducePow, ↓reduceIte, reduceCtorEq, Int.reduceLE, Int.reduceLT, Int.reduceEq, Int.reduceNe, Int.reduceAdd, Int.reduceSub, Int.reduceMul, Int.reduceNeg, Nat.reduceBEq, show regOf Tryd.f65 3 = Code.region _ _ _ from rfl, show regOf Tryd.f65 4 = Code.region _ _ _ from rfl, show regOf Tryd.f65 5 = Code.region _ _ _ from rfl, show regOf Tryd.f65 6 = Code.region _ _ _ from rfl, show regOf Tryd.f65 7 = Code.region _ _ _ from rfl, show regOf Tryd.f65 8 = Code.region _ _ _ from rfl, show regOf Tryd.f65 10 = Code.region _ _ _ from rfl, hT, hlast, hl1, hl2, cf, h1, h2', List.getElem?_map, ht, hx, hx2, d1, d2, Option.map_some, ndV_mk, hmk, hstp, hc, List.nil_append, List.cons_append, c1, thenDraw_store, Nat.sub_zero, happ]
  · obtain ⟨nv, z1, z2⟩ := c2
    refine ⟨nv, by rw [hget_set_ne hTS]; exact z1, ?_⟩
    rcases z2 with z2 | ⟨A', g', z2, z3⟩
    · exact .inl z2
    · exact .inr ⟨A', g', z2, by rw [hget_set_ne (by rintro rfl; rw [hT3] at z3; simp at z3)]; exact z3⟩
  · have kf := s2.trans c3
    refine ⟨by rw [List.length_set]; exact kf.1, fun j o e q1 q2 q3 q4 => ?_⟩
    rw [hget_set_ne (by omega)]
    exact kf.2 j o e q1 q2 q4
end Go.Proofs.YtncjbccjpneoiaaDoor
namespace Go.Proofs.YtncjbccjpneoiaaDoor
open Go Go.Ab Go.Proofs
set_option maxRecDepth 100000
set_option linter.unusedSimpArgs false
set_option linter.unusedVariables false
theorem Kw.refl (S T : Nat) (h : AHeap) : Kw S T h h := ⟨Nat.le_refl _, fun _ _ e _ _ _ _ => e⟩
theorem Kw.trans {S T : Nat} {a b c : AHeap} (x : Kw S T a b) (y : Kw S T b c) : Kw S T a c := ⟨Nat.le_trans x.1 y.1, fun j o e h1 h2 h3 h4 => y.2 j o (x.2 j o e h1 h2 h3 h4) h1 h2 h3 h4⟩
theorem Kf.kw {S : Nat} {a b : AHeap} (T : Nat) (x : Kf S a b) : Kw S T a b := ⟨x.1, fun j o e h1 h2 _ h4 => x.2 j o e h1 h2 h4⟩
/-- A node's kids, as numbers, in a memory that the walk leaves. -/
def KX (h : AHeap) (S T : Nat) (v : AV) (kl : List Int) : Prop := (v = .slc true [] ∧ kl = []) ∨ ∃ K g, v = .arr K 0 kl.length g 1 ∧ hget h K = .arr 1 (kl.map AV.int) g ∧ K ≠ S ∧ K ≠ T
theorem KX.kd {h H : AHeap} {S T : Nat} {v : AV} {kl : List Int} (x : KX h S T v kl) (k : Kw S T h H) : KD H v kl := by
  rcases x with x | ⟨K, g, e1, e2, e3, e4⟩
  · exact .inl x
  · exact .inr ⟨K, g, e1, k.2 K _ e2 (by simp) e3 e4 (by simp)⟩
theorem KX.ne {h : AHeap} {S T : Nat} {v : AV} {kl : List Int} (x : KX h S T v kl) : ∀ K g l, v = .arr K 0 l g 1 → K ≠ T := by
  rintro K g l rfl
  rcases x with ⟨x, _⟩ | ⟨K', g', e1, _, _, e4⟩
  · cases x
  · simp only [AV.arr.injEq] at e1; rw [e1.1]; exact e4
/-- What a walk does, if all it meets are roots. -/
inductive WK (Q : AV → List Int → Prop) (F : Nat → Nd → Bool) (G : Nat → Nd → Nd) (w : Int) : List Nd → List Int → Bool → List Nd → Prop
  | done {ns : List Nd} : WK Q F G w ns [] true ns
  | no {ns : List Nd} {st : List Int} {i : Nat} {n : Nd} : st.length ≤ 100000 → ns[i]? = some n → n.to = (i : Int) → n.mark ≠ w → F i (mkN w n) = false → WK Q F G w ns (st ++ [(i : Int)]) false (ns.set i (mkN w n))
  | yes {ns ns' : List Nd} {st kl : List Int} {i : Nat} {n : Nd} {r : Bool} : st.length ≤ 100000 → kl.length ≤ 100000 → ns[i]? = some n → n.to = (i : Int) → n.mark ≠ w → F i (mkN w n) = true → Q n.kids kl → WK Q F G w (ns.set i (G i (mkN w n))) (st ++ kl) r ns' → WK Q F G w ns (st ++ [(i : Int)]) r ns'
theorem wk_loop {h0 : AHeap} {S T : Nat} {b w : Int} {fl : Bool} (f : FuncId) (caps : List AV) (hc : callable Tryd.prog f = true) (hTS : T ≠ S) (F : Nat → Nd → Bool) (G : Nat → Nd → Nd) (hG : ∀ i n, (G i n).kids = n.kids)
    (hcl : ∀ (h1 : AHeap) (ns1 : List Nd) (i : Nat) (n : Nd), Kw S T h0 h1 → SP h1 S ns1 b fl w → ns1[i]? = some n → ∃ h2, doCall md (aval Tryd.prog md fg) f (.int i :: caps) h1 = some (.val (.bool (F i n)), h2) ∧ SP h2 S (if F i n then ns1.set i (G i n) else ns1) b fl w ∧ Kf S h1 h2)
    {ns ns' : List Nd} {st : List Int} {r : Bool} (hw : WK (KX h0 S T) F G w ns st r ns') : ∀ {h : AHeap} {gT : Nat}, SP h S ns b fl w → TI h T gT st → Kw S T h0 h →
    ∃ h' a7 c, lrun Tryd.prog md fg (fg 65) (loopOf Tryd.f65 0) (fg 65 1) (((.ptr S 0) :: .unk :: (.clo f [] caps) :: .unk :: .unk :: .unk :: (.val (.bool false)) :: (.arr T 0 st.length gT 1) :: .unk :: .unk :: .unk :: .unk :: .unk :: .unk :: .unk :: .unk :: .unk :: .unk :: .unk :: .unk :: .unk :: .unk :: .unk :: .unk :: .unk :: .unk :: .unk :: .unk :: .unk :: .unk :: .unk :: .unk :: .unk :: .unk :: .unk :: .unk :: .unk :: .unk :: .unk :: .unk :: .unk :: .unk :: .unk :: .unk :: .unk :: .unk :: .unk :: .unk :: .unk :: .unk :: .unk :: .unk :: .unk :: .unk :: .unk :: .unk :: .unk :: .unk :: .unk :: .unk :: .unk :: .unk :: .unk :: .unk :: .unk :: .unk :: .unk :: .unk :: .unk :: .unk :: .unk :: .unk :: [] : List AV)) h = some (c, ((.ptr S 0) :: .unk :: (.clo f [] caps) :: .unk :: .unk :: .unk :: (.val (.bool false)) :: (a7) :: .unk :: .unk :: .unk :: .unk :: .unk :: .unk :: .unk :: .unk :: .unk :: .unk :: .unk :: .unk :: .unk :: .unk :: .unk :: .unk :: .unk :: .unk :: .unk :: .unk :: .unk :: .unk :: .unk :: .unk :: .unk :: .unk :: .unk :: .unk :: .unk :: .unk :: .unk :: .unk :: .unk :: .unk :: .unk :: .unk :: .unk :: .unk :: .unk :: .unk :: .unk :: .unk :: .unk :: .unk :: .unk :: .unk :: .unk :: .unk :: .unk :: .unk :: .unk :: .unk :: .unk :: .unk :: .unk :: .unk :: .unk :: .unk :: .unk :: .unk :: .unk :: .unk :: .unk :: .unk :: [] : List AV), h') ∧ (if r then c = .exit 0 else c = .ret) ∧ SP h' S ns' b fl w ∧ Kw S T h h' := by
  induction hw with
  | done =>
    intro h gT hs hT hk
    refine ⟨h, .arr T 0 0 gT 1, .exit 0, ?_, rfl, hs, Kw.refl _ _ _⟩
    rw [List.length_nil]
    rw [lrun_atC loop65_0]
    simp (implicitDefEqProofs := false) (disch := omega) only [go_sem, Nat.reduceAdd, Nat.reduceSub, Nat.reduceMul, Nat.reduceLT, Nat.reduceLeDiff, Nat.reduceEqDiff, List.drop_zero, List.take_succ_cons, List.take_zero, List.drop_succ_cons, Bool.and_true, Bool.true_and, Bool.and_false, Bool.false_and, BitVec.reduceOfInt, Nat.zero_add, Nat.mul_one, Nat.add_zero, Int.zero_add, Int.reduceToNat, Nat.reducePow, ↓reduceIte, reduceCtorEq, Int.reduceLE, Int.reduceLT, Int.reduceEq, Int.reduceNe, Int.reduceAdd, Int.reduceSub, Int.reduceMul, Int.reduceNeg, Nat.reduceBEq, show regOf Tryd.f65 3 = Code.region _ _ _ from rfl]
  | @no ns st i n q1 q2 q3 q4 q5 =>
    intro h gT hs hT hk
    have hlt := (List.getElem?_eq_some_iff.1 q2).1
    obtain ⟨h2, a7, e1, e2, e3⟩ := w_false hs f caps hc hT q1 hTS q2 q3 q4 (ns.set i (mkN w n)) (fun h1 s1 k1 => by
      have := hcl h1 _ i (mkN w n) (hk.trans (k1.kw T)) s1 (by rw [List.getElem?_set_self hlt])
      rw [q5] at this
      exact this)
    exact ⟨h2, a7, .ret, e1, rfl, e2, e3.kw T⟩
  | @yes ns ns' st kl i n r q1 q2 q3 q4 q5 q6 q7 _ ih =>
    intro h gT hs hT hk
    have hlt := (List.getElem?_eq_some_iff.1 q3).1
    obtain ⟨h4, e1, e2, e3, e4⟩ := w_true hs f caps hc hT q1 hTS q3 q4 q5 (ns.set i (G i (mkN w n))) (fun h1 s1 k1 => by
      have := hcl h1 _ i (mkN w n) (hk.trans (k1.kw T)) s1 (by rw [List.getElem?_set_self hlt])
      rw [q6, if_pos rfl, List.set_set] at this
      exact this) (n2 := G i (mkN w n)) (by rw [List.getElem?_set_self hlt]) q2 (fun h1 h2 k1 k2 => by
        rw [hG]
        exact q7.kd (hk.trans ((k1.kw T).trans (k2.kw T)))) (by rw [hG]; exact q7.ne)
    obtain ⟨h', a7, c, z1, z2, z3, z4⟩ := ih e3 e2 (hk.trans e4)
    rw [e1]
    exact ⟨h', a7, c, z1, z2, z3, e4.trans z4⟩
set_option maxHeartbeats 4000000 in
theorem walk_c {h : AHeap} {S : Nat} {b w : Int} {fl : Bool} {ns ns' : List Nd} (hs : SP h S ns b fl w) (hwl : 0 ≤ w ∧ w ≤ 1000000000) (f : FuncId) (caps : List AV) (hc : callable Tryd.prog f = true) (F : Nat → Nd → Bool) (G : Nat → Nd → Nd) (hG : ∀ i n, (G i n).kids = n.kids)
    (hcl : ∀ (h1 : AHeap) (ns1 : List Nd) (i : Nat) (n : Nd), Kw S h.length h h1 → SP h1 S ns1 b fl (w + 1) → ns1[i]? = some n → ∃ h2, doCall md (aval Tryd.prog md fg) f (.int i :: caps) h1 = some (.val (.bool (F i n)), h2) ∧ SP h2 S (if F i n then ns1.set i (G i n) else ns1) b fl (w + 1) ∧ Kf S h1 h2)
    {r : Bool} (i : Int) (hw : WK (KX h S h.length) F G (w + 1) ns [i] r ns') :
    ∃ H, doCall md (aval Tryd.prog md fg) 65 [.ptr S 0, .int i, .clo f [] caps] h = some (.val (.bool r), H) ∧ SP H S ns' b fl (w + 1) ∧ Kf S h H := by
  have hs0 := hs
  obtain ⟨nv, h1, h2⟩ := hs
  have hS := hlt_of h1 (by simp)
  have s1 : SP (h.set S (.vars [nv, .int b, .val (.bool fl), .int (w + 1)])) S ns b fl (w + 1) := ⟨nv, hget_set_eq hS, nn_set h2 h1⟩
  have hl : (h.set S (.vars [nv, .int b, .val (.bool fl), .int (w + 1)])).length = h.length := List.length_set
  have s2 := sp_app s1 [.arr 1 [.int i] 0]
  have k2 : Kw S h.length h (h.set S (.vars [nv, .int b, .val (.bool fl), .int (w + 1)]) ++ [.arr 1 [.int i] 0]) := ⟨by simp, fun j o e z1 z2 z3 z4 => by
    rw [hget_app _ (by rw [hl]; exact hlt_of e z1), hget_set_ne (fun z => z2 z.symm)]; exact e⟩
  have t2 : TI (h.set S (.vars [nv, .int b, .val (.bool fl), .int (w + 1)]) ++ [.arr 1 [.int i] 0]) h.length 0 [i] := by
    unfold TI
    have := @hget_last (h.set S (.vars [nv, .int b, .val (.bool fl), .int (w + 1)])) (.arr 1 [.int i] 0)
    rw [hl] at this
    exact this
  obtain ⟨h', a7, c, z1, z2, z3, z4⟩ := wk_loop f caps hc (by omega) F G hG hcl hw s2 t2 k2
  have kf : Kf S h h' := by
    have k := k2.trans z4
    exact ⟨k.1, fun j o e y1 y2 y3 => k.2 j o e y1 y2 (by have := hlt_of e y1; omega) y3⟩
  refine doCall_sp md65 ?_ hs0 z3 kf
  rw [List.length_singleton] at z1
  cases r
  · have z2 : c = .ret := z2
    subst z2
    rw [aval_of Tryd.func65 body65 Tryd.results65 Tryd.ntmps65 ok65]
    simp (implicitDefEqProofs := false) (disch := omega) only [go_sem, Nat.reduceAdd, Nat.reduceSub, Nat.reduceMul, Nat.reduceLT, Nat.reduceLeDiff, Nat.reduceEqDiff, List.drop_zero, List.take_succ_cons, List.take_zero, List.drop_succ_cons, Bool.and_true, Bool.true_and, Bool.and_false, Bool.false_and, BitVec.reduceOfInt, Nat.zero_add, Nat.mul_one, Nat.add_zero, Int.zero_add, Int.reduceToNat, Nat.reducePow, ↓reduceIte, reduceCtorEq, Int.reduceLE, Int.reduceLT, Int.reduceEq, Int.reduceNe, Int.reduceAdd, Int.reduceSub, Int.reduceMul, Int.reduceNeg, Nat.reduceBEq, show regOf Tryd.f65 0 = Code.region _ _ _ from rfl, show regOf Tryd.f65 1 = Code.region _ _ _ from rfl, show regOf Tryd.f65 2 = Code.region _ _ _ from rfl, show regOf Tryd.f65 11 = Code.region _ _ _ from rfl, h1, hl, z1]
  · have z2 : c = .exit 0 := z2
    subst z2
    rw [aval_of Tryd.func65 body65 Tryd.results65 Tryd.ntmps65 ok65]
    simp (implicitDefEqProofs := false) (disch := omega) only [go_sem, Nat.reduceAdd, Nat.reduceSub, Nat.reduceMul, Nat.reduceLT, Nat.reduceLeDiff, Nat.reduceEqDiff, List.drop_zero, List.take_succ_cons, List.take_zero, List.drop_succ_cons, Bool.and_true, Bool.true_and, Bool.and_false, Bool.false_and, BitVec.reduceOfInt, Nat.zero_add, Nat.mul_one, Nat.add_zero, Int.zero_add, Int.reduceToNat, Nat.reducePow, ↓reduceIte, reduceCtorEq, Int.reduceLE, Int.reduceLT, Int.reduceEq, Int.reduceNe, Int.reduceAdd, Int.reduceSub, Int.reduceMul, Int.reduceNeg, Nat.reduceBEq, show regOf Tryd.f65 0 = Code.region _ _ _ from rfl, show regOf Tryd.f65 1 = Code.region _ _ _ from rfl, show regOf Tryd.f65 2 = Code.region _ _ _ from rfl, show regOf Tryd.f65 11 = Code.region _ _ _ from rfl, h1, hl, z1]
end Go.Proofs.YtncjbccjpneoiaaDoor
