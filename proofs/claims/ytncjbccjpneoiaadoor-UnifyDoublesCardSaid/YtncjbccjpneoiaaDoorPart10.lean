/- Parts of the proof, each with its own heading: Terms as abstract values; memories; regions. The store: its nodes; New, Full, put. put, Var, Rigid. Var, Rigid; a store that is full. there: are numbers types'? find at a root, top, same, Make. Maps in memory. The guards: how heavy a term is, types (turned from chapter 14). The variables of types, by the program (turned from chapter 14). become's closures; a store that is full, or none. The store: a node is written; what a walk leaves. The plain law of solving by links: shapes, what nodes stand for, links. The plain law of Unify: what its loop keeps. The store as shapes, roots and ranks; find. -/
import Derived.Test.YtncjbccjpneoiaaDoorPart9
set_option linter.unusedSimpArgs false
set_option linter.unusedVariables false
namespace Go.Proofs.YtncjbccjpneoiaaDoor
open Go Go.Ab Go.Proofs
open AV renaming unk → U
open Bool renaming false → J, true → O
set_option maxRecDepth 100000
set_option linter.unusedSimpArgs false
set_option linter.unusedVariables false
attribute [go_sem] List.drop_zero List.take_succ_cons List.take_zero List.drop_succ_cons Bool.and_true Bool.true_and Bool.and_false Bool.false_and Nat.zero_add Nat.mul_one Nat.add_zero Int.zero_add
theorem rgn (f : Func) (i : Nat) {a b c} (h : regOf f i = Code.region a b c) : regOf f i = Code.region a b c := h
def txt (l : List UInt8) : ByteArray := ⟨l.toArray⟩
theorem txt_list (l : List UInt8) : (txt l).data.toList = l := by simp [txt]
theorem txt_inj {a b : List UInt8} : txt a = txt b ↔ a = b := ⟨fun h => by have := congrArg (fun x => x.data.toList) h; simpa [txt] using this, fun h => by rw [h]⟩
theorem hget_set_eq {h : AHeap} {i : Nat} {o : AObj} (hi : i < h.length) : hget (h.set i o) i = o := by
  unfold hget; rw [List.getD_eq_getElem?_getD, List.getElem?_set_self hi]; rfl
theorem hget_set_ne {h : AHeap} {i j : Nat} {o : AObj} (hij : ¬ i = j) : hget (h.set i o) j = hget h j := by
  unfold hget; rw [List.getD_eq_getElem?_getD, List.getElem?_set_ne hij, ← List.getD_eq_getElem?_getD]
theorem hget_push {h : AHeap} {o : AObj} {i : Nat} (hi : i < h.length) : hget (h ++ [o]) i = hget h i := by
  unfold hget; rw [List.getD_eq_getElem?_getD, List.getElem?_append_left hi, ← List.getD_eq_getElem?_getD]
theorem hget_last {h : AHeap} {o : AObj} : hget (h ++ [o]) h.length = o := by
  unfold hget; rw [List.getD_eq_getElem?_getD, List.getElem?_append_right (Nat.le_refl _), Nat.sub_self]; rfl
theorem hget_out {h : AHeap} {i : Nat} (hi : h.length ≤ i) : hget h i = .dead := by
  unfold hget; rw [List.getD_eq_getElem?_getD, List.getElem?_eq_none hi]; rfl
theorem hget_app {h : AHeap} (l : AHeap) {i : Nat} (hi : i < h.length) : hget (h ++ l) i = hget h i := by
  unfold hget; rw [List.getD_eq_getElem?_getD, List.getElem?_append_left hi, ← List.getD_eq_getElem?_getD]
theorem hlt_of {h : AHeap} {i : Nat} {o : AObj} (e : hget h i = o) (ho : o ≠ .dead) : i < h.length := Nat.lt_of_not_le fun hle => ho (by rw [← e, hget_out hle])
section
variable {h : AHeap} {n : Nat}
theorem sb_get0 (A : AObj) (l : AHeap) (hn : h.length = n) : hget (h ++ A :: l) n = A := by
  subst hn; unfold hget; rw [List.getD_eq_getElem?_getD, List.getElem?_append_right (Nat.le_refl _), Nat.sub_self]; rfl
theorem sb_get1 (A B : AObj) (l : AHeap) (hn : h.length = n) : hget (h ++ A :: B :: l) (n + 1) = B := by
  subst hn; unfold hget; rw [List.getD_eq_getElem?_getD, List.getElem?_append_right (by omega), show h.length + 1 - h.length = 1 by omega]; rfl
theorem sb_get2 (A B C : AObj) (l : AHeap) (hn : h.length = n) : hget (h ++ A :: B :: C :: l) (n + 2) = C := by
  subst hn; unfold hget; rw [List.getD_eq_getElem?_getD, List.getElem?_append_right (by omega), show h.length + 2 - h.length = 2 by omega]; rfl
theorem sb_set0 (A D : AObj) (l : AHeap) (hn : h.length = n) : (h ++ A :: l).set n D = h ++ D :: l := by
  subst hn; rw [List.set_append_right _ _ (Nat.le_refl _), Nat.sub_self]; rfl
theorem sb_set1 (A B D : AObj) (l : AHeap) (hn : h.length = n) : (h ++ A :: B :: l).set (n + 1) D = h ++ A :: D :: l := by
  subst hn; rw [List.set_append_right _ _ (by omega), show h.length + 1 - h.length = 1 by omega]; rfl
theorem sb_set2 (A B C D : AObj) (l : AHeap) (hn : h.length = n) : (h ++ A :: B :: C :: l).set (n + 2) D = h ++ A :: B :: D :: l := by
  subst hn; rw [List.set_append_right _ _ (by omega), show h.length + 2 - h.length = 2 by omega]; rfl
theorem set_last (o o' : AObj) : (h ++ [o]).set h.length o' = h ++ [o'] := sb_set0 o o' [] rfl
end
theorem tail_nil (p : List Nat → Prop) : (∀ T ∈ (subs []).tail, p T) ↔ True := by simp [subs]
inductive Tm where
  | mk (kind : Int) (pkg name : List UInt8) (n : Int) (kids : List Tm)
def Tm.kind : Tm → Int | .mk k _ _ _ _ => k
def Tm.pkg : Tm → List UInt8 | .mk _ p _ _ _ => p
def Tm.name : Tm → List UInt8 | .mk _ _ m _ _ => m
def Tm.n : Tm → Int | .mk _ _ _ n _ => n
def Tm.kids : Tm → List Tm | .mk _ _ _ _ l => l
mutual
def tmV : Tm → AV | .mk k p m n l => .agg [.int k, .str (txt p), .str (txt m), .int n, .slc false (tmsV l)]
def tmsV : List Tm → List AV | [] => [] | t :: r => tmV t :: tmsV r
end
theorem tmsV_eq : ∀ l, tmsV l = l.map tmV
  | [] => by simp [tmsV]
  | t :: r => by rw [tmsV, tmsV_eq r]; rfl
mutual
def tsz : Tm → Nat | .mk _ _ _ _ l => 1 + tszs l
def tszs : List Tm → Nat | [] => 0 | t :: r => tsz t + tszs r
end
mutual
theorem solid_tm : ∀ t : Tm, solid (tmV t) = true
  | .mk k p m n l => by rw [tmV]; simp only [solid, solidL, Bool.not_false, Bool.true_and, Bool.and_true]; exact solid_tms l
theorem solid_tms : ∀ l : List Tm, solidL (tmsV l) = true
  | [] => by simp [tmsV, solidL]
  | t :: r => by rw [tmsV]; simp only [solidL, solid_tm t, solid_tms r, Bool.and_self]
end
mutual
def Tm.fit : Tm → Prop | .mk k p m n l => p.length ≤ 9223372036854775807 ∧ m.length ≤ 9223372036854775807 ∧ l.length ≤ 9223372036854775807 ∧ Tm.fits l
def Tm.fits : List Tm → Prop | [] => True | t :: r => t.fit ∧ Tm.fits r
end
theorem tmV_mk (k : Int) (p m : List UInt8) (n : Int) (l : List Tm) : tmV ⟨k, p, m, n, l⟩ = .agg [.int k, .str (txt p), .str (txt m), .int n, .slc false (l.map tmV)] := by rw [tmV, tmsV_eq]
theorem str_eq (a b : List UInt8) : (txt a = txt b) = (a = b) := propext txt_inj
theorem arr_exp {h : AHeap} {id g k : Nat} {es : List AV} (ho : hget h id = .arr k es g) (hs : solidL es = true) (d : Nat) : exp1 h (d + 1) (.arr id 0 es.length g k) = some (.slc false es, [id]) := by
  have hv : sview h (.arr id 0 es.length g k) = some es := sview_arr _ _ _ _ _ ho rfl
  simp only [exp1, hv, expL_solid hs]
  rfl
theorem aop_makeMap0 {P : Program} {env : Env} {h : AHeap} {d : Option Tmp} {ty : TypeId} {pos : String} {aft : Array Edge} {g : Option (Nat × Bool)} (t : TypeId) : aop P env h ⟨d, .makeMap t none, ty, pos, aft, g⟩ = if isMapT P t then some (.value (.mp h.length) (h ++ [.map [] 0])) else none := rfl
theorem aop_lookup {P : Program} {env : Env} {h : AHeap} {d : Option Tmp} {ty : TypeId} {pos : String} {aft : Array Edge} {g : Option (Nat × Bool)} (t : TypeId) (x k : Operand) (ok : Bool) : aop P env h ⟨d, .lookup t x k ok, ty, pos, aft, g⟩ = ato (alookup P t h (oval env x) (oval env k) ok) h := rfl
theorem aop_mapUpdate {P : Program} {env : Env} {h : AHeap} {d : Option Tmp} {ty : TypeId} {pos : String} {aft : Array Edge} {g : Option (Nat × Bool)} (t : TypeId) (x k v : Operand) : aop P env h ⟨d, .mapUpdate t x k v, ty, pos, aft, g⟩ = (amapPut P t h (oval env x) (oval env k) (oval env v)).map (.value .und ·) := rfl
section
variable {P : Program} {md : FuncId → Nat} {d : Option Tmp} {ty : TypeId} {pos : String} {aft : Array Edge} {g : Option (Nat × Bool)}
theorem eff_lookup (t : TypeId) (x k : Operand) (ok : Bool) : effOp P md ⟨d, .lookup t x k ok, ty, pos, aft, g⟩ = false := rfl
theorem rd_lookup (t : TypeId) (x k : Operand) (ok : Bool) : readOp P ⟨d, .lookup t x k ok, ty, pos, aft, g⟩ = true := rfl
theorem isLoad_lookup (t : TypeId) (x k : Operand) (ok : Bool) : isLoad ⟨d, .lookup t x k ok, ty, pos, aft, g⟩ = true := rfl
theorem eff_mapUpdate (t : TypeId) (x k v : Operand) : effOp P md ⟨d, .mapUpdate t x k v, ty, pos, aft, g⟩ = true := rfl
theorem isLoad_mapUpdate (t : TypeId) (x k v : Operand) : isLoad ⟨d, .mapUpdate t x k v, ty, pos, aft, g⟩ = false := rfl
theorem rd_mapUpdate (t : TypeId) (x k v : Operand) : readOp P ⟨d, .mapUpdate t x k v, ty, pos, aft, g⟩ = false := rfl
theorem eff_makeFunc (x : Fn) (a b : Array Operand) : effOp P md ⟨d, .makeFunc x a b, ty, pos, aft, g⟩ = false := rfl
theorem rd_makeFunc (x : Fn) (a b : Array Operand) : readOp P ⟨d, .makeFunc x a b, ty, pos, aft, g⟩ = false := rfl
theorem isLoad_makeFunc (x : Fn) (a b : Array Operand) : isLoad ⟨d, .makeFunc x a b, ty, pos, aft, g⟩ = false := rfl
end
attribute [go_sem] eff_lookup rd_lookup isLoad_lookup eff_mapUpdate isLoad_mapUpdate rd_mapUpdate eff_makeFunc rd_makeFunc isLoad_makeFunc
section
variable {d : Option Tmp} {ty : TypeId} {pos : String} {aft : Array Edge} {g : Option (Nat × Bool)} {env : Env} {md : FuncId → Nat} {P : Program} {h : AHeap}
theorem thenDraw_append (cs : Array Operand) (ts : Array TypeId) (h0 : AHeap) (v : AV) (h' : AHeap) (call : CallF) (k : Env → AHeap → Option (Env × AHeap)) : thenDraw P ⟨d, .call ⟨.builtin .append, cs, ts⟩, ty, pos, aft, g⟩ h0 (some (.value v h')) md call d k env = k (aput env d v) h' := thenDraw_eff _ _ _ _ _ _ rfl
theorem thenDraw_store (t : TypeId) (a x : Operand) (h0 : AHeap) (v : AV) (h' : AHeap) (call : CallF) (k : Env → AHeap → Option (Env × AHeap)) : thenDraw P ⟨d, .store t a x, ty, pos, aft, g⟩ h0 (some (.value v h')) md call d k env = k (aput env d v) h' := thenDraw_eff _ _ _ _ _ _ rfl
end
theorem doCall_same {f : FuncId} {vs : List AV} {h h' : AHeap} {r : AV} (hm : md f = 1) (e : aval Tryd.prog md fg f vs h = some (r, h')) (hl : h'.length = h.length) : doCall md (aval Tryd.prog md fg) f vs h = some (r, h') := by
  rw [doCall_0 (by omega)]
  unfold doCall0
  rw [if_neg (by omega), rated_id (by omega), e]
  dsimp only
  split
  · rw [← hl, List.take_length]
  · rfl
structure Nd where
  kind : Int
  pkg : List UInt8
  name : List UInt8
  kids : AV
  level : Int
  to : Int
  mark : Int
def ndV (n : Nd) : AV := .agg [.int n.kind, .str (txt n.pkg), .str (txt n.name), n.kids, .int n.level, .int n.to, .int n.mark]
theorem ndV_mk (k : Int) (p m : List UInt8) (ks : AV) (l t w : Int) : ndV ⟨k, p, m, ks, l, t, w⟩ = .agg [.int k, .str (txt p), .str (txt m), ks, .int l, .int t, .int w] := rfl
def kidsOk (v : AV) : Prop := v.cells = [v] ∧ okVal v = true
def NN (h : AHeap) (nv : AV) (ns : List Nd) : Prop := (ns = [] ∧ nv = .slc true []) ∨ ∃ A g, nv = .arr A 0 ns.length g 7 ∧ hget h A = .arr 7 (ns.map ndV) g
def SP (h : AHeap) (S : Nat) (ns : List Nd) (budget : Int) (full : Bool) (walks : Int) : Prop := ∃ nv, hget h S = .vars [nv, .int budget, .val (.bool full), .int walks] ∧ NN h nv ns
def Kf (S : Nat) (h H : AHeap) : Prop := h.length ≤ H.length ∧ ∀ j o, hget h j = o → o ≠ .dead → j ≠ S → (∀ b c, o ≠ .arr 7 b c) → hget H j = o
theorem Kf.refl (S : Nat) (h : AHeap) : Kf S h h := ⟨Nat.le_refl _, fun _ _ e _ _ _ => e⟩
theorem Kf.trans {S : Nat} {a b c : AHeap} (x : Kf S a b) (y : Kf S b c) : Kf S a c := ⟨Nat.le_trans x.1 y.1, fun j o e h1 h2 h3 => y.2 j o (x.2 j o e h1 h2 h3) h1 h2 h3⟩
theorem kf_app (S : Nat) (h l : AHeap) : Kf S h (h ++ l) := ⟨by simp, fun j o e h1 _ _ => by rw [hget_app l (hlt_of e h1)]; exact e⟩
theorem sp_app {h : AHeap} {S : Nat} {ns : List Nd} {b : Int} {f : Bool} {w : Int} (hs : SP h S ns b f w) (l : AHeap) : SP (h ++ l) S ns b f w := by
  obtain ⟨nv, h1, h2⟩ := hs
  refine ⟨nv, by rw [hget_app l (hlt_of h1 (by simp))]; exact h1, ?_⟩
  rcases h2 with h2 | ⟨A, g, e1, e2⟩
  · exact .inl h2
  · exact .inr ⟨A, g, e1, by rw [hget_app l (hlt_of e2 (by simp))]; exact e2⟩
theorem new_c (b : Int) (h0 : 0 ≤ b) (h1 : b ≤ 200000) (h : AHeap) : ∃ H, doCall md (aval Tryd.prog md fg) 25 [.int b] h = some (.ptr h.length 0, H) ∧ SP H h.length [] b false 0 ∧ H = h ++ [.vars [.slc true [], .int b, .val (.bool false), .int 0]] := by
  refine ⟨_, doCall_keep (by decide) (by decide) (by decide) (h' := h ++ [.vars [.slc true [], .int b, .val (.bool false), .int 0]]) ?_ (by simp [below]), ⟨.slc true [], hget_last, .inl ⟨rfl, rfl⟩⟩, rfl⟩
  have m1 : (if b < 0 then (0 : Int) else b) = b := by split <;> omega
  have m2 : (if (200000 : Int) < b then (200000 : Int) else b) = b := by split <;> omega
  rw [aval_of Tryd.func25 body25 Tryd.results25 Tryd.ntmps25 ok25]
  simp (implicitDefEqProofs := false) (disch := omega) only [go_sem, seval, rgn Tryd.f25 0 rfl, rgn Tryd.f25 1 rfl, m1, m2]
theorem full_c {h : AHeap} {S : Nat} {ns : List Nd} {b : Int} {f : Bool} {w : Int} (hs : SP h S ns b f w) : doCall md (aval Tryd.prog md fg) 30 [.ptr S 0] h = some (.val (.bool f), h) := by
  obtain ⟨nv, h1, h2⟩ := hs
  refine doCall_same md30 ?_ rfl
  rw [aval_of Tryd.func30 body30 Tryd.results30 Tryd.ntmps30 ok30]
  simp (implicitDefEqProofs := false) (disch := omega) only [go_sem, seval, rgn Tryd.f30 0 rfl, rgn Tryd.f30 1 rfl, h1]
theorem hget_take {H : AHeap} {n i : Nat} (h : i < n) : hget (H.take n) i = hget H i := by
  unfold hget; rw [List.getD_eq_getElem?_getD, List.getElem?_take_of_lt h, ← List.getD_eq_getElem?_getD]
theorem doCall_sp4 {f : FuncId} {vs : List AV} {h H : AHeap} {r : AV} {S : Nat} {ns0 ns : List Nd} {b0 b : Int} {f0 f1 : Bool} {w0 w : Int} (hm : md f = 1) (e : aval Tryd.prog md fg f vs h = some (r, H)) (h0 : SP h S ns0 b0 f0 w0) (h1 : SP H S ns b f1 w) (hk : Kf S h H) :
    ∃ H', doCall md (aval Tryd.prog md fg) f vs h = some (r, H') ∧ SP H' S ns b f1 w ∧ Kf S h H' ∧ hget H' S = hget H S := by
  obtain ⟨nv0, a1, a2⟩ := h0
  have hS := hlt_of a1 (by simp)
  rw [doCall_0 (by omega)]
  unfold doCall0
  rw [if_neg (by omega), rated_id (by omega), e]
  dsimp only
  split
  · rename_i hg
    obtain ⟨nv, c1, c2⟩ := h1
    refine ⟨_, rfl, ⟨nv, by rw [hget_take hS]; exact c1, ?_⟩, ⟨by rw [List.length_take]; have := hk.1; omega, fun j o ej h1 h2 h3 => by rw [hget_take (hlt_of ej h1)]; exact hk.2 j o ej h1 h2 h3⟩, hget_take hS⟩
    rcases c2 with c2 | ⟨A, g, rfl, c2⟩
    · exact .inl c2
    · refine .inr ⟨A, g, rfl, ?_⟩
      have hA : A < h.length := by
        rcases hg.2 S hS with e1 | e1
        · have : hget H S = hget h S := by unfold hget; rw [List.getD_eq_getElem?_getD, e1, ← List.getD_eq_getElem?_getD]
          rw [c1, a1] at this
          simp only [AObj.vars.injEq, List.cons.injEq] at this
          rcases a2 with ⟨_, a2⟩ | ⟨A', g', a2, a3⟩
          · rw [a2] at this; cases this.1
          · rw [a2] at this
            have h5 := this.1
            simp only [AV.arr.injEq] at h5
            rw [h5.1]; exact hlt_of a3 (by simp)
        · rw [c1] at e1
          simp only [belowO, belowL, below, Bool.and_eq_true, decide_eq_true_eq] at e1
          exact e1.1
      rw [hget_take hA]; exact c2
  · exact ⟨_, rfl, h1, hk, rfl⟩
theorem doCall_sp {f : FuncId} {vs : List AV} {h H : AHeap} {r : AV} {S : Nat} {ns0 ns : List Nd} {b0 b : Int} {f0 f1 : Bool} {w0 w : Int} (hm : md f = 1) (e : aval Tryd.prog md fg f vs h = some (r, H)) (h0 : SP h S ns0 b0 f0 w0) (h1 : SP H S ns b f1 w) (hk : Kf S h H) :
    ∃ H', doCall md (aval Tryd.prog md fg) f vs h = some (r, H') ∧ SP H' S ns b f1 w ∧ Kf S h H' := by
  obtain ⟨H', a, b, c, _⟩ := doCall_sp4 hm e h0 h1 hk
  exact ⟨H', a, b, c⟩
theorem nn_set {h : AHeap} {nv : AV} {ns : List Nd} (hn : NN h nv ns) {i : Nat} {cs : List AV} {o : AObj} (hi : hget h i = .vars cs) : NN (h.set i o) nv ns := by
  rcases hn with hn | ⟨A, g, h1, h2⟩
  · exact .inl hn
  · exact .inr ⟨A, g, h1, by rw [hget_set_ne (by rintro rfl; rw [hi] at h2; cases h2)]; exact h2⟩
theorem nn_len {h : AHeap} {nv : AV} {ns : List Nd} (hn : NN h nv ns) : ∀ h2, abuiltin Tryd.prog .len #[81] h2 [nv] = some (.int ns.length, h2) := fun h2 => by
  rcases hn with ⟨rfl, rfl⟩ | ⟨A, g, rfl, _⟩
  · simp only [abuiltin_len_slc, alen_slc, tarr_81, tslice_81, lenT_slc, Option.map_some, List.length_nil]
  · simp only [abuiltin_len_arr, alen_arr, tarr_81, tslice_81, lenT_arr, Option.map_some]
theorem slcOk : (AV.slc true []).cells = [.slc true []] ∧ okVal (.slc true []) = true := ⟨rfl, rfl⟩
theorem nd0 (k l : Int) : ndV ⟨k, [], [], .slc true [], l, 0, 0⟩ = .agg [.int k, .val (.string ⟨#[]⟩), .val (.string ⟨#[]⟩), .slc true [], .int l, .val (.int .i64 0), .val (.int .i64 0)] := rfl
abbrev vNd (l : Int) (i : Nat) : Nd := ⟨1, [], [], .slc true [], l, i, 0⟩
abbrev rNd (l : Int) (i : Nat) : Nd := ⟨5, [], [], .slc true [], l, i, 0⟩
def pixI (p : Int → Bool) : List Int → Nat → Option Nat
  | [], _ => none
  | n :: r, i => if p n then some i else pixI p r (i + 1)
theorem pixI_any (p : Int → Bool) : ∀ (l : List Int) (i : Nat), (pixI p l i).isSome = l.any p
  | [], i => rfl
  | n :: r, i => by
    unfold pixI
    by_cases h : p n = true
    · rw [if_pos h]; simp [h]
    · rw [if_neg h, pixI_any p r (i + 1)]; simp [h]
theorem idxI_loop (f : FuncId) (caps : List AV) (hc : callable Tryd.prog f = true) (p : Int → Bool) (k g : Nat) (l : List Int) (h : AHeap) (hk : hget h k = .arr 1 (l.map AV.int) g) (hp : ∀ x ∈ l, doCall md (aval Tryd.prog md fg) f (.int x :: caps) h = some (.val (.bool (p x)), h)) (hl : l.length ≤ 1000000) : ∀ (r : List Int) (i : Nat) (a4 : AV), l.drop i = r → i ≤ l.length → ∃ (i' : Int) (a' : AV),
    lrun Tryd.prog md fg (fg 74) (loopOf Tryd.f74 0) (fg 74 1) ([.arr k 0 l.length g 1, .clo f [] caps, .unk, .unk, a4, .unk, .unk, .int l.length, .int i, .unk, .unk, .unk, .unk, .unk, .unk, .unk, .unk, .unk, .unk]) h = some (match pixI p r i with | some j => (.ret, [.arr k 0 l.length g 1, .clo f [] caps, .unk, .unk, .int j, .unk, .unk, .int l.length, .int i', .unk, .unk, .unk, .unk, .unk, .unk, .unk, .unk, .unk, .unk], h) | none => (.exit 0, [.arr k 0 l.length g 1, .clo f [] caps, .unk, .unk, a', .unk, .unk, .int l.length, .int i', .unk, .unk, .unk, .unk, .unk, .unk, .unk, .unk, .unk, .unk], h))
  | [], i, a4, hdr, hi => by
    have : i = l.length := by have := congrArg List.length hdr; simp at this; omega
    subst this
    refine ⟨(l.length : Int), a4, ?_⟩
    simp only [pixI]
    rw [lrun_atC loop74_0]
    simp (implicitDefEqProofs := false) (disch := omega) only [go_sem, seval, rgn Tryd.f74 2 rfl]
  | s :: r, i, a4, hdr, hi => by
    have hx : l[i]? = some s := by have := congrArg (·[0]?) hdr; simpa using this
    have hlt : i < l.length := (List.getElem?_eq_some_iff.1 hx).1
    have hd' : l.drop (i + 1) = r := by rw [← List.tail_drop, hdr]; rfl
    have ht : ((i : Int)).toNat = i := by omega
    have e := hp s (List.mem_of_getElem? hx)
    cases hps : p s with
    | true =>
      rw [hps] at e
      refine ⟨(i : Int), .unk, ?_⟩
      simp only [pixI, hps, if_true]
      rw [lrun_atC loop74_0]
      simp (implicitDefEqProofs := false) (disch := omega) only [go_sem, seval, rgn Tryd.f74 2 rfl, rgn Tryd.f74 3 rfl, rgn Tryd.f74 4 rfl, rgn Tryd.f74 5 rfl, List.getElem?_map, ht, hx, hk, Option.map_some, hc, List.nil_append, List.cons_append, e]
    | false =>
      rw [hps] at e
      obtain ⟨i', a', e2⟩ := idxI_loop f caps hc p k g l h hk hp hl r (i + 1) a4 hd' (by omega)
      refine ⟨i', a', ?_⟩
      simp only [pixI, hps, Bool.false_eq_true, if_false]
      rw [← e2]
      rw [lrun_atC loop74_0]
      simp (implicitDefEqProofs := false) (disch := omega) only [go_sem, seval, rgn Tryd.f74 2 rfl, rgn Tryd.f74 3 rfl, rgn Tryd.f74 4 rfl, rgn Tryd.f74 6 rfl, List.getElem?_map, ht, hx, hk, Option.map_some, hc, List.nil_append, List.cons_append, e]
      all_goals (congr 1 <;> simp only [List.cons.injEq, AV.val.injEq, Value.int.injEq, Value.bool.injEq, true_and, and_true] <;> omega)
theorem confI_c (f : FuncId) (caps : List AV) (hc : callable Tryd.prog f = true) (p : Int → Bool) (k g : Nat) (l : List Int) (h : AHeap) (hk : hget h k = .arr 1 (l.map AV.int) g) (hp : ∀ x ∈ l, doCall md (aval Tryd.prog md fg) f (.int x :: caps) h = some (.val (.bool (p x)), h)) (hl : l.length ≤ 1000000) : doCall md (aval Tryd.prog md fg) 62 [.arr k 0 l.length g 1, .clo f [] caps] h = some (.val (.bool (l.any p)), h) := by
  obtain ⟨i', a', e⟩ := idxI_loop f caps hc p k g l h hk hp hl l 0 (.int 0) (by simp) (by omega)
  simp only [Int.natCast_zero] at e
  have c74 : doCall md (aval Tryd.prog md fg) 74 [.arr k 0 l.length g 1, .clo f [] caps] h = some (.int (match pixI p l 0 with | some j => (j : Int) | none => -1), h) := by
    refine doCall_same md74 ?_ rfl
    rw [aval_of Tryd.func74 body74 Tryd.results74 Tryd.ntmps74 ok74]
    cases ho : pixI p l 0 with
    | none =>
      rw [ho] at e
      dsimp only at e
      simp (implicitDefEqProofs := false) (disch := omega) only [go_sem, seval, rgn Tryd.f74 0 rfl, rgn Tryd.f74 1 rfl, rgn Tryd.f74 7 rfl, e]
    | some j =>
      rw [ho] at e
      dsimp only at e
      simp (implicitDefEqProofs := false) (disch := omega) only [go_sem, seval, rgn Tryd.f74 0 rfl, rgn Tryd.f74 1 rfl, e]
  rw [← pixI_any p l 0]
  refine doCall_same md62 ?_ rfl
  rw [aval_of Tryd.func62 body62 Tryd.results62 Tryd.ntmps62 ok62]
  cases ho : pixI p l 0 with
  | none =>
    rw [ho] at c74
    dsimp only at c74
    simp (implicitDefEqProofs := false) (disch := omega) only [go_sem, seval, rgn Tryd.f62 0 rfl, rgn Tryd.f62 1 rfl, c74, Option.isSome_none]
  | some j =>
    rw [ho] at c74
    dsimp only at c74
    simp (implicitDefEqProofs := false) (disch := omega) only [go_sem, seval, rgn Tryd.f62 0 rfl, rgn Tryd.f62 1 rfl, c74, Option.isSome_some]
theorem callable_63 : callable Tryd.prog 63 = true := by kernel_rfl
def out (n : Nat) (x : Int) : Bool := decide (x < 0) || decide ((n : Int) ≤ x)
theorem there1_c {h : AHeap} {S q : Nat} {ns : List Nd} {b : Int} {f : Bool} {w : Int} (hs : SP h S ns b f w) (hq : hget h q = .vars [.ptr S 0]) (x : Int) : doCall md (aval Tryd.prog md fg) 63 [.int x, .ptr q 0] h = some (.val (.bool (out ns.length x)), h) := by
  obtain ⟨nv, h1, h2⟩ := hs
  have hlen := nn_len h2
  refine doCall_same md63 ?_ rfl
  unfold out
  by_cases hx : x < 0
  · rw [decide_eq_true hx, Bool.true_or]
    rw [aval_of Tryd.func63 body63 Tryd.results63 Tryd.ntmps63 ok63]
    simp (implicitDefEqProofs := false) (disch := omega) only [go_sem, seval, rgn Tryd.f63 0 rfl, rgn Tryd.f63 1 rfl, hx]
  · rw [decide_eq_false hx, Bool.false_or]
    by_cases hy : (ns.length : Int) ≤ x
    · rw [decide_eq_true hy]
      rw [aval_of Tryd.func63 body63 Tryd.results63 Tryd.ntmps63 ok63]
      simp (implicitDefEqProofs := false) (disch := omega) only [go_sem, seval, rgn Tryd.f63 0 rfl, rgn Tryd.f63 1 rfl, hx, hy, hq, h1, hlen]
    · rw [decide_eq_false hy]
      rw [aval_of Tryd.func63 body63 Tryd.results63 Tryd.ntmps63 ok63]
      simp (implicitDefEqProofs := false) (disch := omega) only [go_sem, seval, rgn Tryd.f63 0 rfl, rgn Tryd.f63 1 rfl, hx, hy, hq, h1, hlen]
theorem there_c {h : AHeap} {S : Nat} {ns : List Nd} {b w : Int} (hs : SP h S ns b false w) (k g : Nat) (l : List Int) (hk : hget h k = .arr 1 (l.map AV.int) g) (hl : l.length ≤ 1000000) : doCall md (aval Tryd.prog md fg) 44 [.ptr S 0, .arr k 0 l.length g 1] h = some (.val (.bool (!(l.any (out ns.length)))), h) := by
  have hs1 := sp_app hs [.vars [.ptr S 0]]
  have cf := full_c hs1
  have cc := confI_c 63 [.ptr h.length 0] callable_63 (out ns.length) k g l (h ++ [.vars [.ptr S 0]]) (by rw [hget_app _ (hlt_of hk (by simp))]; exact hk) (fun x _ => there1_c hs1 hget_last x) hl
  have e : aval Tryd.prog md fg 44 [.ptr S 0, .arr k 0 l.length g 1] h = some (.val (.bool (!(l.any (out ns.length)))), h ++ [.vars [.ptr S 0]]) := by
    generalize l.any (out ns.length) = z at *
    cases z <;>
    · rw [aval_of Tryd.func44 body44 Tryd.results44 Tryd.ntmps44 ok44]
      simp (implicitDefEqProofs := false) (disch := omega) only [go_sem, seval, rgn Tryd.f44 0 rfl, rgn Tryd.f44 1 rfl, hget_last, cf, cc]
  have := doCall_ref (by decide) (by decide) (by decide) e rfl (gcOk_append h _)
  rw [List.take_left' rfl] at this
  exact this
theorem sp_arr {h : AHeap} {S : Nat} {ns : List Nd} {b : Int} {f : Bool} {w : Int} (hs : SP h S ns b f w) (hn : ns ≠ []) : ∃ A g, hget h S = .vars [.arr A 0 ns.length g 7, .int b, .val (.bool f), .int w] ∧ hget h A = .arr 7 (ns.map ndV) g := by
  obtain ⟨nv, h1, ⟨h2, _⟩ | ⟨A, g, rfl, h2⟩⟩ := hs
  · exact absurd h2 hn
  · exact ⟨A, g, h1, h2⟩
theorem ne_of_at {ns : List Nd} {i : Nat} {n : Nd} (h : ns[i]? = some n) : ns ≠ [] := by rintro rfl; simp at h
theorem tmap_90 : tmap Tryd.prog 90 = some (3, 3) := by kernel_rfl
theorem tzero_3u : tzero Tryd.prog 3 = some (.int 0) := by kernel_rfl
theorem eqT3 (a b : Int) : aeqT Tryd.prog eqDepth 3 (.int a) (.int b) = some (a == b) := by kernel_rfl
theorem isSliceT_85 : isSliceT Tryd.prog 85 = true := by kernel_rfl
theorem nilA85 (id off len g k : Nat) : anilS Tryd.prog .eql 85 (.arr id off len g k) = some (.val (.bool false)) := by unfold anilS; rw [if_pos isSliceT_85]; rfl
theorem headOk_ints (l : List Int) : headOk 1 (l.map AV.int) = true := by cases l <;> rfl
theorem cloneI_c {h : AHeap} {k g : Nat} {l : List Int} (hk : hget h k = .arr 1 (l.map AV.int) g) (hl : l.length ≤ 100000) (hn : l ≠ []) : doCall md (aval Tryd.prog md fg) 45 [.arr k 0 l.length g 1] h = some (.arr h.length 0 l.length 0 1, h ++ [.arr 1 (l.map AV.int) 0]) := by
  have hv : sview h (.arr k 0 l.length g 1) = some (l.map AV.int) := sview_arr _ _ _ _ _ hk (by simp)
  have ha : ∀ z, appT (some (1, 8, z)) h (.slc true []) (some (l.map AV.int)) = some (.arr h.length 0 l.length 0 1, h ++ [.arr 1 (l.map AV.int) 0]) := fun z => by
    rw [appT_slc _ _ _ _ _ (headOk_ints l) rfl (by simpa using hn) (by simp; omega)]
    simp
  have e : aval Tryd.prog md fg 45 [.arr k 0 l.length g 1] h = some (.arr h.length 0 l.length 0 1, h ++ [.arr 1 (l.map AV.int) 0]) := by
    rw [aval_of Tryd.func45 body45 Tryd.results45 Tryd.ntmps45 ok45]
    simp (implicitDefEqProofs := false) (disch := omega) only [go_sem, seval, rgn Tryd.f45 0 rfl, rgn Tryd.f45 1 rfl, rgn Tryd.f45 3 rfl, nilA85, hv, ha]
  have hs : splitNil md 45 [.arr k 0 l.length g 1] = none := rfl
  unfold doCall
  rw [hs]
  dsimp only
  unfold doCall0
  rw [if_neg (by decide)]
  have : rated (md 45) (aval Tryd.prog md fg 45 [.arr k 0 l.length g 1] h) = aval Tryd.prog md fg 45 [.arr k 0 l.length g 1] h := rfl
  rw [this, e]
  dsimp only
  rw [if_neg]
  simp [below]
section
variable {K α : Type} [DecidableEq K]
abbrev MapS (K α : Type) := List (K × α × Nat) × Nat
def mf (k : K) : List (K × α × Nat) → Nat → Option (Nat × α)
  | [], _ => none
  | e :: r, i => if k = e.1 then some (i, e.2.1) else mf k r (i + 1)
def mset (P : MapS K α) (k : K) (t : α) : MapS K α :=
  match mf k P.1 0 with
  | some (i, _) => (P.1.modify i fun e => (e.1, t, e.2.2), P.2)
  | none => (P.1 ++ [(k, t, P.2)], P.2 + 1)
def mg (P : MapS K α) (k : K) : Option α := (mf k P.1 0).map Prod.snd
theorem mf_shift (k : K) : ∀ (es : List (K × α × Nat)) (i : Nat), mf k es i = (mf k es 0).map fun p => (p.1 + i, p.2)
  | [], i => rfl
  | e :: r, i => by
    unfold mf
    by_cases h : k = e.1
    · rw [if_pos h, if_pos h]; simp
    · rw [if_neg h, if_neg h, mf_shift k r (i + 1), mf_shift k r (0 + 1)]
      cases mf k r 0 with
      | none => rfl
      | some p => simp only [Option.map_some, Option.some.injEq, Prod.mk.injEq, and_true]; omega
theorem mf_snd (k : K) (es : List (K × α × Nat)) (i j : Nat) : (mf k es i).map Prod.snd = (mf k es j).map Prod.snd := by
  rw [mf_shift k es i, mf_shift k es j]; cases mf k es 0 <;> rfl
theorem mg_cons (e : K × α × Nat) (r : List (K × α × Nat)) (c : Nat) (k : K) : mg (e :: r, c) k = if k = e.1 then some e.2.1 else mg (r, c) k := by
  unfold mg
  show (if k = e.1 then some (0, e.2.1) else mf k r (0 + 1)).map _ = _
  by_cases h : k = e.1
  · rw [if_pos h, if_pos h]; rfl
  · rw [if_neg h, if_neg h]; exact mf_snd k r _ _
theorem mf_app (k : K) (e : K × α × Nat) : ∀ (es : List (K × α × Nat)) (i : Nat), mf k (es ++ [e]) i = match mf k es i with | some p => some p | none => if k = e.1 then some (i + es.length, e.2.1) else none
  | [], i => by simp [mf]
  | a :: r, i => by
    rw [List.cons_append]
    unfold mf
    by_cases h : k = a.1
    · rw [if_pos h, if_pos h]
    · rw [if_neg h, if_neg h, mf_app k e r (i + 1)]
      cases mf k r (i + 1) with
      | some p => rfl
      | none => simp only [List.length_cons, show i + 1 + r.length = i + (r.length + 1) by omega]
theorem mf_modify (k k' : K) (t : α) : ∀ (es : List (K × α × Nat)) (i j : Nat) (u : α), mf k es i = some (i + j, u) → (mf k' (es.modify j fun e => (e.1, t, e.2.2)) i).map Prod.snd = if k' = k then some t else (mf k' es i).map Prod.snd
  | [], i, j, u, h => by cases h
  | a :: r, i, j, u, h => by
    unfold mf at h
    by_cases hk : k = a.1
    · rw [if_pos hk] at h
      have : j = 0 := by have := congrArg (Option.map Prod.fst) h; simp at this; omega
      subst this
      rw [List.modify_zero_cons]
      unfold mf
      dsimp only
      by_cases h' : k' = a.1
      · rw [if_pos h', if_pos (h'.trans hk.symm)]; rfl
      · rw [if_neg h', if_neg h', if_neg (fun e => h' (e.trans hk))]
    · rw [if_neg hk] at h
      rw [mf_shift] at h
      obtain ⟨⟨q, w⟩, hq, e⟩ := Option.map_eq_some_iff.1 h
      simp only [Prod.mk.injEq] at e
      obtain ⟨j, rfl⟩ : ∃ j', j = j' + 1 := ⟨j - 1, by omega⟩
      rw [List.modify_succ_cons]
      unfold mf
      by_cases h' : k' = a.1
      · rw [if_pos h', if_pos h', if_neg (fun e => hk (e.symm.trans h'))]
      · rw [if_neg h', if_neg h']
        refine mf_modify k k' t r (i + 1) j u ?_
        rw [mf_shift, hq]; simp only [Option.map_some, Option.some.injEq, Prod.mk.injEq]; exact ⟨by omega, e.2⟩
theorem mg_mset (P : MapS K α) (k k' : K) (t : α) : mg (mset P k t) k' = if k' = k then some t else mg P k' := by
  unfold mset
  cases h : mf k P.1 0 with
  | some p =>
    obtain ⟨i, u⟩ := p
    exact mf_modify k k' t P.1 0 i u (by rw [h, Nat.zero_add])
  | none =>
    unfold mg
    show (mf k' (P.1 ++ [(k, t, P.2)]) 0).map _ = _
    rw [mf_app]
    by_cases hk : k' = k
    · subst hk; rw [h, if_pos rfl, if_pos rfl]; rfl
    · rw [if_neg hk, if_neg hk]
      cases mf k' P.1 0 <;> rfl
end

def encM {K α : Type} (kf : K → AV) (vf : α → AV) (es : List (K × α × Nat)) : List (AV × AV × Nat) := es.map fun e => (kf e.1, vf e.2.1, e.2.2)
section
variable {K α : Type} [DecidableEq K] {kf : K → AV} {vf : α → AV} {kt et T M : Nat} {z : AV} {h : AHeap} {P : MapS K α}
structure KeyT (kt : Nat) (kf : K → AV) : Prop where
  eq : ∀ a b, aeqT Tryd.prog eqDepth kt (kf a) (kf b) = some (decide (a = b))
  ok : ∀ a, keyOk (kf a) = true
  same : ∀ a, keySame (kf a) (kf a) = true
theorem afind_mf (hk : KeyT kt kf) (k : K) : ∀ (es : List (K × α × Nat)) (i : Nat), afind (aeqT Tryd.prog eqDepth kt) (kf k) (encM kf vf es) i = some ((mf k es i).map fun p => (p.1, vf p.2))
  | [], i => rfl
  | e :: r, i => by
    obtain ⟨n, t, c⟩ := e
    show (match aeqT Tryd.prog eqDepth kt (kf k) (kf n) with | some true => _ | some false => _ | none => _) = _
    rw [hk.eq]
    unfold mf
    by_cases h : k = n
    · rw [decide_eq_true h, if_pos h]; rfl
    · rw [decide_eq_false h, if_neg h]
      exact afind_mf hk k r (i + 1)
theorem mf_at (k : K) : ∀ (es : List (K × α × Nat)) (i : Nat) (j : Nat) (t : α), mf k es i = some (j, t) → i ≤ j ∧ ∃ c, es[j - i]? = some (k, t, c)
  | [], i, j, t, h => by cases h
  | e :: r, i, j, t, h => by
    unfold mf at h
    split at h
    · rename_i hk
      cases h
      exact ⟨Nat.le_refl _, e.2.2, by rw [Nat.sub_self, hk]; rfl⟩
    · obtain ⟨h1, c, h2⟩ := mf_at k r (i + 1) j t h
      refine ⟨by omega, c, ?_⟩
      rw [show j - i = (j - (i + 1)) + 1 by omega, List.getElem?_cons_succ]; exact h2
theorem keyt_k (hk : KeyT kt kf) (k : K) : ((aeqT Tryd.prog eqDepth kt (kf k) (kf k)).isSome && keyOk (kf k)) = true := by rw [hk.eq, hk.ok]; rfl
theorem look_m (hk : KeyT kt kf) (ht : tmap Tryd.prog T = some (kt, et)) (hz : tzero Tryd.prog et = some z) (hm : hget h M = .map (encM kf vf P.1) P.2) (k : K) :
    alookup Tryd.prog T h (.mp M) (kf k) true = some (.tup [((mg P k).map vf).getD z, .bool (mg P k).isSome]) ∧ alookup Tryd.prog T h (.mp M) (kf k) false = some (((mg P k).map vf).getD z) := by
  unfold alookup
  rw [ht]
  dsimp only
  rw [hz]
  dsimp only
  rw [if_pos (keyt_k hk _), if_pos (keyt_k hk _), hm]
  dsimp only
  rw [afind_mf hk]
  unfold mg
  cases mf k P.1 0 with
  | none => exact ⟨rfl, rfl⟩
  | some p => exact ⟨rfl, rfl⟩
theorem put_m (hk : KeyT kt kf) (hv : ∀ x, okVal (vf x) = true) (ht : tmap Tryd.prog T = some (kt, et)) (hm : hget h M = .map (encM kf vf P.1) P.2) (k : K) (t : α) :
    amapPut Tryd.prog T h (.mp M) (kf k) (vf t) = some (h.set M (.map (encM kf vf (mset P k t).1) (mset P k t).2)) := by
  unfold amapPut
  rw [ht]
  dsimp only
  rw [hm]
  dsimp only
  have hkk : ((aeqT Tryd.prog eqDepth kt (kf k) (kf k)).isSome && keyOk (kf k) && okVal (vf t)) = true := by
    rw [keyt_k hk, hv]; rfl
  rw [if_pos hkk, afind_mf hk]
  unfold mset
  cases hp : mf k P.1 0 with
  | none =>
    dsimp only [Option.map_none]
    unfold encM
    rw [List.map_append]; rfl
  | some p =>
    obtain ⟨i, was⟩ := p
    dsimp only [Option.map_some]
    obtain ⟨_, c, hi⟩ := mf_at k P.1 0 i was hp
    rw [Nat.sub_zero] at hi
    have h1 : ((encM kf vf P.1)[i]?.map fun e => keySame e.1 (kf k)) = some true := by
      unfold encM
      rw [List.getElem?_map, hi]
      show some (keySame (kf k) (kf k)) = some true
      rw [hk.same]
    rw [if_pos h1]
    unfold encM
    congr 3
    apply List.ext_getElem?
    intro j
    simp only [List.getElem?_modify, List.getElem?_map, Option.map_map]
    cases P.1[j]? with
    | none => rfl
    | some e => simp only [Option.map_some, Function.comp]; split <;> rfl
end
def nV (i : Nat) : AV := .int (i : Int)
abbrev sV (s : List UInt8) : AV := .val (.string (txt s))
theorem eqT9 (a b : ByteArray) : aeqT Tryd.prog eqDepth 9 (.str a) (.str b) = some (a.data.toList == b.data.toList) := by kernel_rfl
theorem kt3 : KeyT 3 nV := ⟨fun a b => by
    unfold nV; rw [eqT3]
    congr 1
    by_cases h : a = b
    · subst h; simp
    · have : ¬ (a : Int) = (b : Int) := by omega
      rw [decide_eq_false h]; simpa using this, fun _ => rfl, fun a => by simp [nV, keySame, same1]⟩
theorem kt9 : KeyT 9 sV := ⟨fun a b => by
    unfold sV; rw [eqT9, txt_list, txt_list]
    congr 1
    by_cases h : a = b
    · subst h; simp
    · rw [decide_eq_false h]; simpa using h, fun _ => rfl, fun a => by simp [sV, keySame, same1]⟩
theorem tmap_68 : tmap Tryd.prog 68 = some (9, 3) := by kernel_rfl
theorem isMapT_68 : isMapT Tryd.prog 68 = true := by kernel_rfl
theorem ok_nV (a : Nat) : okVal (nV a) = true := rfl
abbrev NMap := MapS Nat Nat
abbrev SMap := MapS (List UInt8) Nat
def MN (h : AHeap) (M : Nat) (P : NMap) : Prop := hget h M = .map (encM nV nV P.1) P.2
def MS (h : AHeap) (M : Nat) (P : SMap) : Prop := hget h M = .map (encM sV nV P.1) P.2
theorem mn_look {h : AHeap} {M : Nat} {P : NMap} (hm : MN h M P) (k : Nat) : alookup Tryd.prog 90 h (.mp M) (.int (k : Int)) true = some (.tup [.int ((mg P k).getD 0 : Nat), .bool (mg P k).isSome]) := by
  have := (look_m kt3 tmap_90 tzero_3u hm k).1
  cases h : mg P k with
  | none => rw [h] at this; exact this
  | some x => rw [h] at this; exact this
theorem mn_put {h : AHeap} {M : Nat} {P : NMap} (hm : MN h M P) (k x : Nat) : amapPut Tryd.prog 90 h (.mp M) (.int (k : Int)) (.int (x : Int)) = some (h.set M (.map (encM nV nV (mset P k x).1) (mset P k x).2)) := put_m kt3 ok_nV tmap_90 hm k x
theorem ms_look {h : AHeap} {M : Nat} {P : SMap} (hm : MS h M P) (k : List UInt8) : alookup Tryd.prog 68 h (.mp M) (.str (txt k)) true = some (.tup [.int ((mg P k).getD 0 : Nat), .bool (mg P k).isSome]) ∧ alookup Tryd.prog 68 h (.mp M) (.str (txt k)) false = some (.int ((mg P k).getD 0 : Nat)) := by
  have := look_m kt9 tmap_68 tzero_3u hm k
  cases h : mg P k with
  | none => rw [h] at this; exact this
  | some x => rw [h] at this; exact this
theorem ms_put {h : AHeap} {M : Nat} {P : SMap} (hm : MS h M P) (k : List UInt8) (x : Nat) : amapPut Tryd.prog 68 h (.mp M) (.str (txt k)) (.int (x : Int)) = some (h.set M (.map (encM sV nV (mset P k x).1) (mset P k x).2)) := put_m kt9 ok_nV tmap_68 hm k x
def W (t : Tm) : Prop := ∀ d : Int, 0 ≤ d → d ≤ 91 → ∃ w : Int, 0 ≤ w ∧ w ≤ 100000 ∧ (w < 100000 → (tsz t : Int) ≤ w) ∧ pcall Tryd.prog md fg 59 [tmV t, .int d] = some (.int w)
mutual
def typ : Tm → Prop | .mk k p m n l => 1 ≤ k ∧ k ≤ 4 ∧ n = 0 ∧ (k = 1 → l = [] ∧ p = []) ∧ typs l
def typs : List Tm → Prop | [] => True | t :: r => typ t ∧ typs r
end
def Y (t : Tm) : Prop := ∃ b : Bool, (b = true → typ t) ∧ pcall Tryd.prog md fg 38 [tmV t] = some (.val (.bool b))
def ix (k : List UInt8) : List (List UInt8) → Nat → Option Nat
  | [], _ => none
  | e :: r, i => if k = e then some i else ix k r (i + 1)
theorem ix_mem (k : List UInt8) : ∀ (l : List (List UInt8)) (i : Nat), (ix k l i).isSome = decide (k ∈ l)
  | [], i => by simp [ix]
  | e :: r, i => by
    unfold ix
    by_cases h : k = e
    · rw [if_pos h]; simp [h]
    · rw [if_neg h, ix_mem k r (i + 1)]; simp [h]
theorem solid_names : ∀ l : List (List UInt8), solidL (l.map sV) = true
  | [] => rfl
  | s :: r => by rw [List.map_cons, solidL, solid_names r]; rfl
theorem idx_loop (k : List UInt8) (l : List (List UInt8)) (hl : l.length ≤ 9223372036854775807) : ∀ (r : List (List UInt8)) (i : Nat) (a4 : AV), l.drop i = r → i ≤ l.length → ∃ (i' : Int) (a' : AV),
    lrun Tryd.prog md fg (fg 76) (loopOf Tryd.f76 0) (fg 76 1) ([.slc false (l.map sV), sV k, .unk, .unk, a4, .unk, .unk, .int l.length, .int i, .unk, .unk, .unk, .unk, .unk, .unk, .unk, .unk, .unk, .unk]) [] = some (match ix k r i with | some j => (.ret, [.slc false (l.map sV), sV k, .unk, .unk, .int j, .unk, .unk, .int l.length, .int i', .unk, .unk, .unk, .unk, .unk, .unk, .unk, .unk, .unk, .unk], []) | none => (.exit 0, [.slc false (l.map sV), sV k, .unk, .unk, a', .unk, .unk, .int l.length, .int i', .unk, .unk, .unk, .unk, .unk, .unk, .unk, .unk, .unk, .unk], []))
  | [], i, a4, hdr, hi => by
    have : i = l.length := by have := congrArg List.length hdr; simp at this; omega
    subst this
    refine ⟨(l.length : Int), a4, ?_⟩
    simp only [ix]
    rw [lrun_atC loop76_0]
    simp (implicitDefEqProofs := false) (disch := omega) only [go_sem, seval, rgn Tryd.f76 2 rfl]
  | s :: r, i, a4, hdr, hi => by
    have hx : l[i]? = some s := by have := congrArg (·[0]?) hdr; simpa using this
    have hlt : i < l.length := (List.getElem?_eq_some_iff.1 hx).1
    have hd' : l.drop (i + 1) = r := by rw [← List.tail_drop, hdr]; rfl
    have ht : ((i : Int)).toNat = i := by omega
    have hs := str_eq k s
    by_cases hk : k = s
    · refine ⟨(i : Int), .unk, ?_⟩
      rw [ix, if_pos hk]
      subst hk
      dsimp only
      rw [lrun_atC loop76_0]
      simp (implicitDefEqProofs := false) (disch := omega) only [go_sem, seval, rgn Tryd.f76 2 rfl, rgn Tryd.f76 3 rfl, rgn Tryd.f76 4 rfl, rgn Tryd.f76 5 rfl, List.getElem?_map, ht, hx, Option.map_some]
    · obtain ⟨i', a', e⟩ := idx_loop k l hl r (i + 1) a4 hd' (by omega)
      refine ⟨i', a', ?_⟩
      rw [ix, if_neg hk, ← e]
      rw [lrun_atC loop76_0]
      simp (implicitDefEqProofs := false) (disch := omega) only [go_sem, seval, rgn Tryd.f76 2 rfl, rgn Tryd.f76 3 rfl, rgn Tryd.f76 4 rfl, rgn Tryd.f76 6 rfl, List.getElem?_map, ht, hx, Option.map_some, hs, hk]
      all_goals (congr 1 <;> simp only [List.cons.injEq, AV.val.injEq, Value.int.injEq, Value.bool.injEq, true_and, and_true] <;> omega)
theorem index_p (k : List UInt8) (l : List (List UInt8)) (hl : l.length ≤ 9223372036854775807) : pcall Tryd.prog md fg 76 [.slc false (l.map sV), sV k] = some (.int (match ix k l 0 with | some j => (j : Int) | none => -1)) := by
  have e : ∃ h, aval Tryd.prog md fg 76 [.slc false (l.map sV), sV k] [] = some (.int (match ix k l 0 with | some j => (j : Int) | none => -1), h) := by
    obtain ⟨i', a', e⟩ := idx_loop k l hl l 0 (.int 0) (by simp) (by omega)
    simp only [Int.natCast_zero] at e
    rw [aval_of Tryd.func76 body76 Tryd.results76 Tryd.ntmps76 ok76]
    cases hf : ix k l 0 with
    | none =>
      rw [hf] at e
      dsimp only at e
      simp (implicitDefEqProofs := false) (disch := omega) only [go_sem, seval, rgn Tryd.f76 0 rfl, rgn Tryd.f76 1 rfl, rgn Tryd.f76 7 rfl, List.length_map, e]
      exact ⟨_, rfl⟩
    | some j =>
      rw [hf] at e
      dsimp only at e
      simp (implicitDefEqProofs := false) (disch := omega) only [go_sem, seval, rgn Tryd.f76 0 rfl, rgn Tryd.f76 1 rfl, List.length_map, e]
      exact ⟨_, rfl⟩
  obtain ⟨h, e⟩ := e
  rw [pcall_eq, e, pureRes_solid rfl]
theorem contains_p (k : List UInt8) (l : List (List UInt8)) (hl : l.length ≤ 9223372036854775807) : pcall Tryd.prog md fg 70 [.slc false (l.map sV), sV k] = some (.val (.bool (decide (k ∈ l)))) := by
  have c : ∀ h, doCall md (aval Tryd.prog md fg) 76 [.slc false (l.map sV), sV k] h = some (.int (match ix k l 0 with | some j => (j : Int) | none => -1), h) := fun h => doCall_pure md76 (by simp only [solidL, solid, solid_names, Bool.not_false, Bool.and_true]) (index_p k l hl)
  have e : ∃ h, aval Tryd.prog md fg 70 [.slc false (l.map sV), sV k] [] = some (.val (.bool (decide (k ∈ l))), h) := by
    rw [← ix_mem k l 0]
    rw [aval_of Tryd.func70 body70 Tryd.results70 Tryd.ntmps70 ok70]
    cases hf : ix k l 0 with
    | none =>
      rw [hf] at c
      dsimp only at c
      simp (implicitDefEqProofs := false) (disch := omega) only [go_sem, seval, rgn Tryd.f70 0 rfl, rgn Tryd.f70 1 rfl, c, Option.isSome_none]
      exact ⟨_, rfl⟩
    | some j =>
      rw [hf] at c
      dsimp only at c
      simp (implicitDefEqProofs := false) (disch := omega) only [go_sem, seval, rgn Tryd.f70 0 rfl, rgn Tryd.f70 1 rfl, c, Option.isSome_some]
      exact ⟨_, rfl⟩
  obtain ⟨h, e⟩ := e
  rw [pcall_eq, e, pureRes_solid rfl]
def WN (h : AHeap) (id : Nat) (l : List (List UInt8)) : Prop :=
  id < h.length ∧ ((hget h id = .vars [.slc true []] ∧ l = []) ∨ ∃ k g, k < h.length ∧ k ≠ id ∧ hget h id = .vars [.arr k 0 l.length g 1] ∧ hget h k = .arr 1 (l.map sV) g)
def FrN (id : Nat) (h h' : AHeap) : Prop := h.length ≤ h'.length ∧ ∀ j cs, j ≠ id → hget h j = .vars cs → hget h' j = .vars cs
theorem FrN.refl (id : Nat) (h : AHeap) : FrN id h h := ⟨Nat.le_refl _, fun _ _ _ e => e⟩
theorem FrN.trans {id : Nat} {a b c : AHeap} (x : FrN id a b) (y : FrN id b c) : FrN id a c := ⟨Nat.le_trans x.1 y.1, fun j cs hj e => y.2 j cs hj (x.2 j cs hj e)⟩
theorem frN_app (id : Nat) (h l : AHeap) : FrN id h (h ++ l) := ⟨by simp, fun j cs _ e => by rw [hget_app l (hlt_of e (by simp))]; exact e⟩
theorem wn_app (h l0 : AHeap) {id : Nat} {l : List (List UInt8)} (hw : WN h id l) : WN (h ++ l0) id l := by
  obtain ⟨hid, hb | ⟨k, g, hk, hne, hb, ho⟩⟩ := hw
  · exact ⟨by simp; omega, .inl ⟨by rw [hget_app _ hid]; exact hb.1, hb.2⟩⟩
  · exact ⟨by simp; omega, .inr ⟨k, g, by simp; omega, hne, by rw [hget_app _ hid]; exact hb, by rw [hget_app _ hk]; exact ho⟩⟩
theorem wn_add {h : AHeap} {id : Nat} {l : List (List UInt8)} (m : List UInt8) (hw : WN h id l) (hn : l.length ≤ 100000) :
    ∃ bv v h1, hget h id = .vars [bv] ∧ (∀ z, appT (some (1, 16, z)) h bv (some [sV m]) = some (v, h1)) ∧ hget h1 id = .vars [bv] ∧ fits 1 v = true ∧ v.cells = [v] ∧ WN (h1.set id (.vars [v])) id (l ++ [m]) ∧ FrN id h (h1.set id (.vars [v])) := by
  obtain ⟨hid, ⟨hb, rfl⟩ | ⟨k, g, hk, hne, hb, ho⟩⟩ := hw
  · refine ⟨_, .arr h.length 0 (0 + 1) 0 1, h ++ [.arr 1 ([] ++ [sV m]) 0], hb, fun z => appT_slc _ _ _ _ _ rfl rfl (by simp) (by simp), ?_, rfl, rfl, ?_, ?_⟩
    · rw [hget_push hid]; exact hb
    · refine ⟨by simp; omega, .inr ⟨h.length, 0, by simp, by omega, ?_, ?_⟩⟩
      · rw [hget_set_eq (by simp; omega)]; simp
      · rw [hget_set_ne (by omega), hget_last]; simp
    · refine ⟨by simp, fun j cs hj e => ?_⟩
      rw [hget_set_ne (by omega), hget_push (hlt_of e (by simp))]; exact e
  · refine ⟨_, .arr k 0 (l.length + 1) (g + 1) 1, h.set k (.arr 1 (l.map sV ++ [sV m]) (g + 1)), hb, fun z => appT_arr _ _ _ _ _ _ _ _ ho (by simp) rfl (by simp; omega), ?_, rfl, rfl, ?_, ?_⟩
    · rw [hget_set_ne hne]; exact hb
    · refine ⟨by simp; exact hid, .inr ⟨k, g + 1, by simp; exact hk, hne, ?_, ?_⟩⟩
      · rw [hget_set_eq (by simp; exact hid)]; simp
      · rw [hget_set_ne (by omega), hget_set_eq hk]; simp
    · refine ⟨by simp, fun j cs hj e => ?_⟩
      have hjk : k ≠ j := by rintro rfl; rw [ho] at e; cases e
      rw [hget_set_ne (by omega), hget_set_ne hjk]; exact e
theorem doCall_frN {f : FuncId} {vs : List AV} {h h' : AHeap} {id : Nat} {l l0 : List (List UInt8)} {r : AV} (hm : md f = 1) (e : aval Tryd.prog md fg f vs h = some (r, h')) (hw0 : WN h id l0) (hw : WN h' id l) (hf : FrN id h h') :
    ∃ h'', doCall md (aval Tryd.prog md fg) f vs h = some (r, h'') ∧ WN h'' id l ∧ FrN id h h'' := by
  have hid := hw0.1
  rw [doCall_0 (by omega)]
  unfold doCall0
  rw [if_neg (by omega), rated_id (by omega), e]
  dsimp only
  split
  · rename_i hg
    refine ⟨_, rfl, ?_, ?_⟩
    · obtain ⟨h1, h2 | ⟨k, g, hk, hne, hb, ho⟩⟩ := hw
      · refine ⟨by simp; omega, .inl ⟨?_, h2.2⟩⟩
        unfold hget at h2 ⊢
        rw [List.getD_eq_getElem?_getD, List.getElem?_take_of_lt hid, ← List.getD_eq_getElem?_getD]; exact h2.1
      · have hkl : k < h.length := by
          rcases hg.2 id hid with e1 | e1
          · have : hget h' id = hget h id := by unfold hget; rw [List.getD_eq_getElem?_getD, e1, ← List.getD_eq_getElem?_getD]
            rw [hb] at this
            rcases hw0.2 with ⟨e2, _⟩ | ⟨k0, g0, hk0, _, e2, _⟩
            · rw [e2] at this; cases this
            · rw [e2] at this
              simp only [AObj.vars.injEq, List.cons.injEq, AV.arr.injEq, and_true] at this
              omega
          · rw [hb] at e1
            simpa [belowO, belowL, below] using e1
        refine ⟨by simp; omega, .inr ⟨k, g, by simp; omega, hne, ?_, ?_⟩⟩
        · unfold hget at hb ⊢
          rw [List.getD_eq_getElem?_getD, List.getElem?_take_of_lt hid, ← List.getD_eq_getElem?_getD]; exact hb
        · unfold hget at ho ⊢
          rw [List.getD_eq_getElem?_getD, List.getElem?_take_of_lt hkl, ← List.getD_eq_getElem?_getD]; exact ho
    · refine ⟨by have := hf.1; simp; omega, fun j cs hj e1 => ?_⟩
      have hjl : j < h.length := hlt_of e1 (by simp)
      have := hf.2 j cs hj e1
      unfold hget at this ⊢
      rw [List.getD_eq_getElem?_getD, List.getElem?_take_of_lt hjl, ← List.getD_eq_getElem?_getD]; exact this
  · exact ⟨_, rfl, hw, hf⟩
theorem names_exp {h : AHeap} {id : Nat} {l : List (List UInt8)} (hw : WN h id l) : ∃ bv ids, hget h id = .vars [bv] ∧ exp1 h expDepth bv = some (.slc false (l.map sV), ids) ∧ canFrz h ids = true := by
  obtain ⟨hid, ⟨hb, rfl⟩ | ⟨k, g, hk, hne, hb, ho⟩⟩ := hw
  · exact ⟨_, [], hb, rfl, rfl⟩
  · have := arr_exp ho (solid_names l) 59
    rw [List.length_map] at this
    exact ⟨_, [k], hb, this, by simp [canFrz, ho]⟩
theorem contains_c {h : AHeap} {id : Nat} {l : List (List UInt8)} (hw : WN h id l) (m : List UInt8) (hn : l.length ≤ 100000) : ∃ bv, hget h id = .vars [bv] ∧ ∀ l0, doCall md (aval Tryd.prog md fg) 70 [bv, sV m] (h ++ l0) = some (.val (.bool (decide (m ∈ l))), h ++ l0) := by
  obtain ⟨bv, ids, e1, e2, e3⟩ := names_exp hw
  refine ⟨bv, e1, fun l0 => ?_⟩
  obtain ⟨bv', ids', f1, f2, f3⟩ := names_exp (wn_app h l0 hw)
  rw [hget_app _ hw.1, e1] at f1
  cases f1
  refine doCall_look md70 (as' := [.slc false (l.map sV), sV m]) (ids := ids') ?_ f3 (contains_p m l (by omega)) rfl
  simp only [expL, f2, exp1_solid (show solid (sV m) = true from rfl), List.append_nil]
theorem callable_69 : callable Tryd.prog 69 = true := by kernel_rfl
def vadd (out : List (List UInt8)) (k : Int) (m : List UInt8) : List (List UInt8) := if k = 1 ∧ m ∉ out then out ++ [m] else out
mutual
def vsT : List (List UInt8) → Tm → List (List UInt8) | out, .mk k p m n ks => vsL (vadd out k m) ks
def vsL : List (List UInt8) → List Tm → List (List UInt8) | out, [] => out | out, t :: r => vsL (vsT out t) r
end
theorem vadd_len (out : List (List UInt8)) (k : Int) (m : List UInt8) : (vadd out k m).length ≤ out.length + 1 := by unfold vadd; split <;> simp
mutual
theorem vsT_len : ∀ (t : Tm) (out : List (List UInt8)), (vsT out t).length ≤ out.length + tsz t
  | ⟨k, p, m, n, ks⟩, out => by rw [vsT, tsz]; have := vsL_len ks (vadd out k m); have := vadd_len out k m; omega
theorem vsL_len : ∀ (ts : List Tm) (out : List (List UInt8)), (vsL out ts).length ≤ out.length + tszs ts
  | [], out => by rw [vsL]; omega
  | t :: r, out => by rw [vsL, tszs]; have := vsL_len r (vsT out t); have := vsT_len t out; omega
end
abbrev walkV : AObj := .vars [.clo 69 [] [.ptr 0 0, .ptr 1 0]]
def VT (t : Tm) : Prop := ∀ (h : AHeap) (out : List (List UInt8)), WN h 0 out → hget h 1 = walkV → out.length + tsz t ≤ 100000 → ∃ h', doCall md (aval Tryd.prog md fg) 69 [tmV t, .ptr 0 0, .ptr 1 0] h = some (.tup [], h') ∧ WN h' 0 (vsT out t) ∧ FrN 0 h h'
theorem v_loop (ks : List Tm) (hl : ks.length ≤ 9223372036854775807) (hV : ∀ t ∈ ks, VT t) : ∀ (r : List Tm) (i : Nat) (h : AHeap) (out : List (List UInt8)), ks.drop i = r → i ≤ ks.length → WN h 0 out → hget h 1 = walkV → out.length + tszs r ≤ 100000 → ∃ h',
    lrun Tryd.prog md fg (fg 69) (loopOf Tryd.f69 0) (fg 69 1) ((.unk :: .unk :: (.ptr 1 0) :: U::U::U::U::U::U::U::U::U::U::U::U::U::U::U::U::U::U::U::(.slc false (ks.map tmV)) :: (.int ks.length) :: (.int i) :: U::U::U::U::U::U::U::[] : List AV)) h = some (.exit 0, (.unk :: .unk :: (.ptr 1 0) :: U::U::U::U::U::U::U::U::U::U::U::U::U::U::U::U::U::U::U::(.slc false (ks.map tmV)) :: (.int ks.length) :: (.int ks.length) :: U::U::U::U::U::U::U::[] : List AV), h') ∧ WN h' 0 (vsL out r) ∧ FrN 0 h h'
  | [], i, h, out, hdr, hi, hw, h1, hn => by
    have : i = ks.length := by have := congrArg List.length hdr; simp at this; omega
    subst this
    refine ⟨h, ?_, by rw [vsL]; exact hw, FrN.refl _ _⟩
    rw [lrun_atC loop69_0]
    simp (implicitDefEqProofs := false) (disch := omega) only [go_sem, seval, rgn Tryd.f69 4 rfl]
  | ⟨k2, p2, m2, n2, l2⟩ :: r, i, h, out, hdr, hi, hw, h1, hn => by
    have hx : ks[i]? = some ⟨k2, p2, m2, n2, l2⟩ := by have := congrArg (·[0]?) hdr; simpa using this
    have hlt : i < ks.length := (List.getElem?_eq_some_iff.1 hx).1
    have hd' : ks.drop (i + 1) = r := by rw [← List.tail_drop, hdr]; rfl
    have ht : ((i : Int)).toNat = i := by omega
    simp only [tszs] at hn
    have hvl := vsT_len ⟨k2, p2, m2, n2, l2⟩ out
    have g1 : ∀ l, hget (h ++ l) 1 = walkV := fun l => by rw [hget_app l (hlt_of h1 (by simp))]; exact h1
    obtain ⟨h2, e2, w2, f2⟩ := hV _ (List.mem_of_getElem? hx) (h ++ [.vars [.int k2, .str (txt p2), .str (txt m2), .int n2, .slc false (l2.map tmV)]]) out (wn_app h _ hw) (g1 _) (by omega)
    rw [tmV_mk] at e2
    obtain ⟨h3, e3, w3, f3⟩ := v_loop ks hl hV r (i + 1) h2 (vsT out ⟨k2, p2, m2, n2, l2⟩) hd' (by omega) w2 (f2.2 1 _ (by decide) (g1 _)) (by omega)
    refine ⟨h3, ?_, by rw [vsL]; exact w3, (frN_app 0 h _).trans (f2.trans f3)⟩
    rw [← e3]
    rw [lrun_atC loop69_0]
    simp (implicitDefEqProofs := false) (disch := first | omega | exact List.length_set) only [go_sem, seval, rgn Tryd.f69 4 rfl, rgn Tryd.f69 5 rfl, rgn Tryd.f69 6 rfl, rgn Tryd.f69 7 rfl, List.getElem?_map, ht, hx, Option.map_some, tmV_mk, hget_last, set_last, g1, e2, List.nil_append, List.cons_append, callable_69]
    all_goals (congr 1 <;> simp only [List.cons.injEq, AV.val.injEq, Value.int.injEq, Value.bool.injEq, true_and, and_true] <;> omega)
set_option maxHeartbeats 8000000 in
theorem v_node (k : Int) (p m : List UInt8) (n : Int) (ks : List Tm) (hl : ks.length ≤ 9223372036854775807) (hV : ∀ t ∈ ks, VT t) : VT ⟨k, p, m, n, ks⟩ := by
  intro h out hw h1 hn
  rw [tsz] at hn
  rw [tmV_mk, vsT]
  have hid := hw.1
  have g1 : ∀ l, hget (h ++ l) 1 = walkV := fun l => by rw [hget_app l (hlt_of h1 (by simp))]; exact h1
  obtain ⟨bv, eb, cc⟩ := contains_c hw m (by omega)
  have g0 : ∀ l, hget (h ++ l) 0 = .vars [bv] := fun l => by rw [hget_app l hid]; exact eb
  suffices e : ∃ h', aval Tryd.prog md fg 69 [.agg [.int k, .str (txt p), .str (txt m), .int n, .slc false (ks.map tmV)], .ptr 0 0, .ptr 1 0] h = some (.tup [], h') ∧ WN h' 0 (vsL (vadd out k m) ks) ∧ FrN 0 h h' by
    obtain ⟨h', e, w, f⟩ := e
    exact doCall_frN (by decide) e hw w f
  by_cases hc : k = 1 ∧ m ∉ out
  · have hva : vadd out k m = out ++ [m] := by unfold vadd; rw [if_pos hc]
    rw [hva]
    obtain ⟨rfl, hmo⟩ := hc
    rw [decide_eq_false hmo] at cc
    obtain ⟨bv2, v, h3, x1, x2, x3, x4, x5, x6, x7⟩ := wn_add m (wn_app h [.vars [.int 1, .str (txt p), .str (txt m), .int n, .slc false (ks.map tmV)]] hw) (by omega)
    rw [g0] at x1
    cases x1
    have q1 : hget (h ++ [.vars [.int 1, .str (txt p), .str (txt m), .int n, .slc false (ks.map tmV)]]) h.length = .vars [.int 1, .str (txt p), .str (txt m), .int n, .slc false (ks.map tmV)] := hget_last
    have q2 := x7.2 h.length _ (by omega) q1
    obtain ⟨h4, e4, w4, f4⟩ := v_loop ks hl hV ks 0 (h3.set 0 (.vars [v])) (out ++ [m]) (by simp) (by omega) x6 (x7.2 1 _ (by decide) (g1 _)) (by simp only [List.length_append, List.length_cons, List.length_nil]; omega)
    simp only [Int.natCast_zero] at e4
    refine ⟨h4, ?_, w4, (frN_app 0 h _).trans (x7.trans f4)⟩
    rw [aval_of Tryd.func69 body69 Tryd.results69 Tryd.ntmps69 ok69]
    simp (implicitDefEqProofs := false) (disch := first | omega | exact List.length_set) only [go_sem, seval, rgn Tryd.f69 0 rfl, rgn Tryd.f69 1 rfl, rgn Tryd.f69 2 rfl, rgn Tryd.f69 3 rfl, List.length_map, hget_last, g0, cc, x2, x3, x4, x5, q2, e4]
  · have hva : vadd out k m = out := by unfold vadd; rw [if_neg hc]
    rw [hva]
    have q1 : hget (h ++ [.vars [.int k, .str (txt p), .str (txt m), .int n, .slc false (ks.map tmV)]]) h.length = .vars [.int k, .str (txt p), .str (txt m), .int n, .slc false (ks.map tmV)] := hget_last
    obtain ⟨h4, e4, w4, f4⟩ := v_loop ks hl hV ks 0 (h ++ [.vars [.int k, .str (txt p), .str (txt m), .int n, .slc false (ks.map tmV)]]) out (by simp) (by omega) (wn_app h _ hw) (g1 _) (by omega)
    simp only [Int.natCast_zero] at e4
    refine ⟨h4, ?_, w4, (frN_app 0 h _).trans f4⟩
    rw [aval_of Tryd.func69 body69 Tryd.results69 Tryd.ntmps69 ok69]
    by_cases hk : k = 1
    · subst hk
      have hmo : m ∈ out := Classical.byContradiction fun h => hc ⟨rfl, h⟩
      rw [decide_eq_true hmo] at cc
      simp (implicitDefEqProofs := false) (disch := first | omega | exact List.length_set) only [go_sem, seval, rgn Tryd.f69 0 rfl, rgn Tryd.f69 1 rfl, rgn Tryd.f69 3 rfl, List.length_map, hget_last, g0, cc, e4]
    · simp (implicitDefEqProofs := false) (disch := first | omega | exact List.length_set) only [go_sem, seval, rgn Tryd.f69 0 rfl, rgn Tryd.f69 1 rfl, rgn Tryd.f69 3 rfl, hk, List.length_map, hget_last, g0, e4]
mutual
theorem VT_all : ∀ t : Tm, t.fit → VT t
  | ⟨k, p, m, n, ks⟩, hf => by
    rw [Tm.fit] at hf
    exact v_node k p m n ks hf.2.2.1 (VT_alls ks hf.2.2.2)
theorem VT_alls : ∀ l : List Tm, Tm.fits l → ∀ t ∈ l, VT t
  | [], _, t, h => by cases h
  | a :: r, hf, t, h => by
    rw [Tm.fits] at hf
    rcases List.mem_cons.1 h with h | h
    · rw [h]; exact VT_all a hf.1
    · exact VT_alls r hf.2 t h
end
def mayIn (v L : Int) (i : Int) (n : Nd) : Bool := decide (i ≠ v) && (decide (n.kind ≠ 5) || decide (n.level ≤ L))
set_option maxHeartbeats 4000000 in
theorem may_c {h : AHeap} {S q r s : Nat} {ns : List Nd} {b : Int} {f : Bool} {w v L : Int} (hs : SP h S ns b f w) (hq : hget h q = .vars [.ptr S 0]) (hr : hget h r = .vars [.int v]) (hl : hget h s = .vars [.int L]) {i : Nat} {n : Nd} (hx : ns[i]? = some n) : doCall md (aval Tryd.prog md fg) 66 [.int i, .ptr q 0, .ptr r 0, .ptr s 0] h = some (.val (.bool (mayIn v L i n)), h) := by
  obtain ⟨A, g, h1, h2⟩ := sp_arr hs (ne_of_at hx)
  have hlt := (List.getElem?_eq_some_iff.1 hx).1
  have ht : ((i : Int)).toNat = i := by omega
  obtain ⟨k, p, m, ks, l, t, mk⟩ := n
  unfold mayIn
  dsimp only
  refine doCall_same md66 ?_ rfl
  by_cases c1 : (i : Int) = v
  · have : (decide ((i : Int) ≠ v) && (decide (k ≠ 5) || decide (l ≤ L))) = false := by simp [c1]
    rw [this]
    rw [aval_of Tryd.func66 body66 Tryd.results66 Tryd.ntmps66 ok66]
    simp (implicitDefEqProofs := false) (disch := omega) only [go_sem, seval, rgn Tryd.f66 0 rfl, rgn Tryd.f66 1 rfl, rgn Tryd.f66 2 rfl, hq, hr, hl, h1, h2, List.getElem?_map, ht, hx, Option.map_some, ndV_mk, c1]
  · by_cases c2 : k = 5
    · have : (decide ((i : Int) ≠ v) && (decide (k ≠ 5) || decide (l ≤ L))) = decide (l ≤ L) := by simp [c1, c2]
      rw [this]
      by_cases c3 : l ≤ L
      · rw [decide_eq_true c3]
        rw [aval_of Tryd.func66 body66 Tryd.results66 Tryd.ntmps66 ok66]
        simp (implicitDefEqProofs := false) (disch := omega) only [go_sem, seval, rgn Tryd.f66 0 rfl, rgn Tryd.f66 1 rfl, rgn Tryd.f66 2 rfl, hq, hr, hl, h1, h2, List.getElem?_map, ht, hx, Option.map_some, ndV_mk, c1, c2, c3]
      · rw [decide_eq_false c3]
        rw [aval_of Tryd.func66 body66 Tryd.results66 Tryd.ntmps66 ok66]
        simp (implicitDefEqProofs := false) (disch := omega) only [go_sem, seval, rgn Tryd.f66 0 rfl, rgn Tryd.f66 1 rfl, rgn Tryd.f66 2 rfl, hq, hr, hl, h1, h2, List.getElem?_map, ht, hx, Option.map_some, ndV_mk, c1, c2, c3]
    · have : (decide ((i : Int) ≠ v) && (decide (k ≠ 5) || decide (l ≤ L))) = true := by simp [c1, c2]
      rw [this]
      rw [aval_of Tryd.func66 body66 Tryd.results66 Tryd.ntmps66 ok66]
      simp (implicitDefEqProofs := false) (disch := omega) only [go_sem, seval, rgn Tryd.f66 0 rfl, rgn Tryd.f66 1 rfl, rgn Tryd.f66 2 rfl, hq, hr, hl, h1, h2, List.getElem?_map, ht, hx, Option.map_some, ndV_mk, c1, c2]
theorem map_set' (ns : List Nd) (i : Nat) (n : Nd) : (ns.map ndV).set i (ndV n) = (ns.set i n).map ndV := by rw [List.map_set]
theorem sp_set {h : AHeap} {S A g : Nat} {ns : List Nd} {b : Int} {f : Bool} {w : Int} (h1 : hget h S = .vars [.arr A 0 ns.length g 7, .int b, .val (.bool f), .int w]) (h2 : hget h A = .arr 7 (ns.map ndV) g) (i : Nat) (n : Nd) :
    SP (h.set A (.arr 7 ((ns.set i n).map ndV) g)) S (ns.set i n) b f w ∧ Kf S h (h.set A (.arr 7 ((ns.set i n).map ndV) g)) := by
  have hA := hlt_of h2 (by simp)
  have hne : ¬ A = S := by rintro rfl; rw [h2] at h1; cases h1
  refine ⟨⟨_, by rw [hget_set_ne hne]; exact h1, .inr ⟨A, g, by rw [List.length_set], hget_set_eq hA⟩⟩, by simp, fun j o e h3 _ h4 => ?_⟩
  rw [hget_set_ne (by rintro rfl; rw [h2] at e; exact h4 _ _ e.symm)]; exact e
def lowN (L : Int) (n : Nd) : Nd := if n.kind = 1 then { n with level := if L < n.level then L else n.level } else n
set_option maxHeartbeats 4000000 in
theorem low_c {h : AHeap} {S q s : Nat} {ns : List Nd} {b : Int} {f : Bool} {w L : Int} (hs : SP h S ns b f w) (hq : hget h q = .vars [.ptr S 0]) (hl : hget h s = .vars [.int L]) {i : Nat} {n : Nd} (hx : ns[i]? = some n) : ∃ H, doCall md (aval Tryd.prog md fg) 67 [.int i, .ptr q 0, .ptr s 0] h = some (.val (.bool true), H) ∧ SP H S (ns.set i (lowN L n)) b f w ∧ Kf S h H := by
  have hs0 := hs
  obtain ⟨A, g, h1, h2⟩ := sp_arr hs (ne_of_at hx)
  have hlt := (List.getElem?_eq_some_iff.1 hx).1
  have ht : ((i : Int)).toNat = i := by omega
  obtain ⟨k, p, m, ks, l, t, mk⟩ := n
  unfold lowN
  dsimp only
  by_cases c1 : k = 1
  · subst c1
    rw [if_pos rfl]
    obtain ⟨s1, s2⟩ := sp_set h1 h2 i ⟨1, p, m, ks, if L < l then L else l, t, mk⟩
    have hgt : (ns.map ndV)[i]? = some (.agg [.int 1, .str (txt p), .str (txt m), ks, .int l, .int t, .int mk]) := by rw [List.getElem?_map, hx]; rfl
    have hst : septr true 1 (.int (if L < l then L else l)) g 7 i 4 h A (.arr 7 (ns.map ndV) g) = some (h.set A (.arr 7 ((ns.set i ⟨1, p, m, ks, if L < l then L else l, t, mk⟩).map ndV) g)) := by
      rw [← map_set']
      simp [septr, hgt, AV.cells, patch, putAt, ndV]
    refine doCall_sp md67 ?_ hs0 s1 s2
    rw [aval_of Tryd.func67 body67 Tryd.results67 Tryd.ntmps67 ok67]
    simp (implicitDefEqProofs := false) (disch := omega) only [go_sem, seval, rgn Tryd.f67 0 rfl, rgn Tryd.f67 1 rfl, rgn Tryd.f67 2 rfl, rgn Tryd.f67 3 rfl, rgn Tryd.f67 4 rfl, hq, hl, h1, h2, List.getElem?_map, ht, hx, Option.map_some, ndV_mk, hst, thenDraw_store]
  · rw [if_neg c1]
    have : ns.set i ⟨k, p, m, ks, l, t, mk⟩ = ns := by
      apply List.ext_getElem?
      intro j
      by_cases hij : i = j
      · subst hij; rw [List.getElem?_set_self hlt, hx]
      · rw [List.getElem?_set_ne hij]
    rw [this]
    refine ⟨h, doCall_same md67 ?_ rfl, hs0, Kf.refl S h⟩
    rw [aval_of Tryd.func67 body67 Tryd.results67 Tryd.ntmps67 ok67]
    simp (implicitDefEqProofs := false) (disch := omega) only [go_sem, seval, rgn Tryd.f67 0 rfl, rgn Tryd.f67 1 rfl, rgn Tryd.f67 2 rfl, rgn Tryd.f67 4 rfl, hq, hl, h1, h2, List.getElem?_map, ht, hx, Option.map_some, ndV_mk, c1]
def KD (h : AHeap) (v : AV) (kl : List Int) : Prop := (v = .slc true [] ∧ kl = []) ∨ ∃ K g, v = .arr K 0 kl.length g 1 ∧ hget h K = .arr 1 (kl.map AV.int) g
def TI (h : AHeap) (T g : Nat) (st : List Int) : Prop := hget h T = .arr 1 (st.map AV.int) g
def mkN (w : Int) (n : Nd) : Nd := { n with mark := w }
def Kw (S T : Nat) (h H : AHeap) : Prop := h.length ≤ H.length ∧ ∀ j o, hget h j = o → o ≠ .dead → j ≠ S → j ≠ T → (∀ b c, o ≠ .arr 7 b c) → hget H j = o
theorem appT_arr2 {h : AHeap} (ks b : Nat) (z : AV) (id len g : Nat) (es xs : List AV) (ho : hget h id = .arr ks es g) (hl : len ≤ es.length) (hk : headOk ks xs = true) (hb : (len + xs.length) * b ≤ 140737488355328) :
    appT (some (ks, b, z)) h (.arr id 0 len g ks) (some xs) = some (.arr id 0 (len + xs.length) (g + 1) ks, h.set id (.arr ks (es.take len ++ xs) (g + 1))) := by
  have : (len + xs.length) * b ≤ 2 ^ 47 := hb
  simp [appT, hk, ho, this, hl]
theorem Kw.refl (S T : Nat) (h : AHeap) : Kw S T h h := ⟨Nat.le_refl _, fun _ _ e _ _ _ _ => e⟩
theorem Kw.trans {S T : Nat} {a b c : AHeap} (x : Kw S T a b) (y : Kw S T b c) : Kw S T a c := ⟨Nat.le_trans x.1 y.1, fun j o e h1 h2 h3 h4 => y.2 j o (x.2 j o e h1 h2 h3 h4) h1 h2 h3 h4⟩
theorem Kf.kw {S : Nat} {a b : AHeap} (T : Nat) (x : Kf S a b) : Kw S T a b := ⟨x.1, fun j o e h1 h2 _ h4 => x.2 j o e h1 h2 h4⟩
theorem set_same {ns : List Nd} {i : Nat} {n : Nd} (h : ns[i]? = some n) : ns.set i n = ns := by
  apply List.ext_getElem?
  intro j
  by_cases hij : i = j
  · subst hij; rw [List.getElem?_set_self (List.getElem?_eq_some_iff.1 h).1, h]
  · rw [List.getElem?_set_ne hij]
theorem bx_get0 {h : AHeap} (a b c : AObj) : hget (h ++ [a, b, c]) h.length = a := sb_get0 a _ rfl
theorem bx_get1 {h : AHeap} (a b c : AObj) : hget (h ++ [a, b, c]) (h.length + 1) = b := sb_get1 a b _ rfl
theorem bx_get2 {h : AHeap} (a b c : AObj) : hget (h ++ [a, b, c]) (h.length + 2) = c := sb_get2 a b c _ rfl
theorem bx_set2 {h : AHeap} (a b c d : AObj) : (h ++ [a, b, c]).set (h.length + 2) d = h ++ [a, b, d] := sb_set2 a b c d _ rfl
theorem isMapT_90 : isMapT Tryd.prog 90 = true := by kernel_rfl
theorem abuild_91 (x y : Int) : abuild Tryd.prog 91 [(0, .int x), (1, .int y)] = some (.agg [.int x, .int y]) := by kernel_rfl
structure Sh where
  kind : Int
  pkg : List UInt8
  name : List UInt8
  kids : List Nat
def Con (sh : List Sh) (M : Nat → Tm) : Prop := ∀ (i : Nat) (s : Sh), sh[i]? = some s → s.kind ≠ 1 → M i = .mk s.kind s.pkg s.name 0 (s.kids.map M)
def Mod (sh : List Sh) (rt : Nat → Nat) (M : Nat → Tm) : Prop := (∀ i, i < sh.length → M i = M (rt i)) ∧ Con sh M
structure Ok (sh : List Sh) (rt r : Nat → Nat) : Prop where
  lt : ∀ i, i < sh.length → rt i < sh.length
  idem : ∀ i, i < sh.length → rt (rt i) = rt i
  con : ∀ (i : Nat) (s : Sh), sh[i]? = some s → s.kind ≠ 1 → rt i = i
  kid : ∀ (i : Nat) (s : Sh) (k : Nat), sh[i]? = some s → k ∈ s.kids → k < sh.length ∧ r k < r i
  le : ∀ i, i < sh.length → r (rt i) ≤ r i
  var : ∀ (i : Nat) (s : Sh), sh[i]? = some s → s.kind = 1 → s.kids = []
  rig : ∀ (i : Nat) (s : Sh), sh[i]? = some s → s.kind ≠ 5
theorem lt_of_at {α : Type} {l : List α} {i : Nat} {x : α} (h : l[i]? = some x) : i < l.length := (List.getElem?_eq_some_iff.1 h).1
theorem at_of_lt {α : Type} {l : List α} {i : Nat} (h : i < l.length) : ∃ x, l[i]? = some x := ⟨l[i], List.getElem?_eq_getElem h⟩
inductive Rch (sh : List Sh) (rt : Nat → Nat) : Nat → Nat → Prop
  | refl (x : Nat) : Rch sh rt x x
  | kid {x k v : Nat} {s : Sh} : sh[x]? = some s → k ∈ s.kids → Rch sh rt (rt k) v → Rch sh rt x v
theorem tszs_mem : ∀ {l : List Tm} {t : Tm}, t ∈ l → tsz t ≤ tszs l
  | [], t, h => by cases h
  | a :: r, t, h => by
    rw [tszs]
    rcases List.mem_cons.1 h with rfl | h
    · omega
    · have := tszs_mem h; omega
theorem rch_lt {sh : List Sh} {rt r : Nat → Nat} (ok : Ok sh rt r) {M : Nat → Tm} (hm : Mod sh rt M) {x v : Nat} (h : Rch sh rt x v) : x = v ∨ tsz (M v) < tsz (M x) := by
  induction h with
  | refl x => exact .inl rfl
  | @kid x k v s hx hk _ ih =>
    right
    have hc : s.kind ≠ 1 := fun c => by rw [ok.var _ _ hx c] at hk; cases hk
    have e := hm.2 x s hx hc
    have e2 := hm.1 k (ok.kid x s k hx hk).1
    have : tsz (M k) ≤ tszs (s.kids.map M) := tszs_mem (List.mem_map.2 ⟨k, hk, rfl⟩)
    rw [e, tsz]
    rcases ih with ih | ih
    · rw [← ih, ← e2]; omega
    · rw [e2] at this; omega
def bnd (rt : Nat → Nat) (v t : Nat) : Nat → Nat := fun k => if rt k = v then t else rt k
open Classical in
noncomputable def bndR (sh : List Sh) (rt r : Nat → Nat) (v t : Nat) : Nat → Nat := fun k => r k + if Rch sh rt (rt k) v then r t + 1 else 0
theorem bnd_mod {sh : List Sh} {rt : Nat → Nat} {M : Nat → Tm} (hm : Mod sh rt M) {v t : Nat} (e : M v = M t) : Mod sh (bnd rt v t) M := by
  refine ⟨fun i hi => ?_, hm.2⟩
  unfold bnd
  split
  · rename_i h; rw [hm.1 i hi, h, e]
  · exact hm.1 i hi
theorem bnd_back {sh : List Sh} {rt : Nat → Nat} {M : Nat → Tm} {v t : Nat} (hv : v < sh.length) (hr : rt v = v) (hm : Mod sh (bnd rt v t) M) : Mod sh rt M := by
  refine ⟨fun i hi => ?_, hm.2⟩
  have h1 := hm.1 i hi
  have h2 := hm.1 v hv
  simp only [bnd, hr, if_true] at h2
  unfold bnd at h1
  split at h1
  · rename_i h; rw [h1, h, h2]
  · exact h1
theorem bndR_lt {sh : List Sh} {rt r : Nat → Nat} {v t i j : Nat} (e : rt j = rt i) (h : r j < r i) : bndR sh rt r v t j < bndR sh rt r v t i := by
  unfold bndR; rw [e]; omega
theorem bndR_t {sh : List Sh} {rt r : Nat → Nat} {v t : Nat} (hr : rt v = v) (ht : rt t = t) (hn : ¬ Rch sh rt t v) : bndR sh rt r v t t < bndR sh rt r v t v := by
  unfold bndR
  rw [ht, if_neg hn, hr, if_pos (.refl v)]; omega
theorem bnd_ok {sh : List Sh} {rt r : Nat → Nat} (ok : Ok sh rt r) {v t : Nat} {s : Sh} (hv : sh[v]? = some s) (hk : s.kind = 1) (hr : rt v = v) (htl : t < sh.length) (ht : rt t = t) (hn : ¬ Rch sh rt t v) : Ok sh (bnd rt v t) (bndR sh rt r v t) := by
  have hne : t ≠ v := fun e => hn (e ▸ .refl t)
  refine ⟨fun i hi => ?_, fun i hi => ?_, fun i s' hi hc => ?_, fun i s' k hi hk' => ?_, fun i hi => ?_, ok.var, ok.rig⟩
  · unfold bnd; split
    · exact htl
    · exact ok.lt i hi
  · by_cases h : rt i = v
    · have : bnd rt v t i = t := if_pos h
      rw [this]; unfold bnd; rw [if_neg (by rw [ht]; exact hne), ht]
    · have : bnd rt v t i = rt i := if_neg h
      rw [this]; unfold bnd; rw [ok.idem i hi, if_neg h]
  · have e := ok.con i s' hi hc
    have : i ≠ v := fun e2 => by subst e2; rw [hv] at hi; simp only [Option.some.injEq] at hi; subst hi; exact hc hk
    unfold bnd; rw [if_neg (by rw [e]; exact this), e]
  · obtain ⟨a, b⟩ := ok.kid i s' k hi hk'
    refine ⟨a, ?_⟩
    have hc : s'.kind ≠ 1 := fun c => by rw [ok.var _ _ hi c] at hk'; cases hk'
    have e := ok.con i s' hi hc
    unfold bndR
    rw [e]
    by_cases h : Rch sh rt (rt k) v
    · rw [if_pos h, if_pos (.kid hi hk' h)]; omega
    · rw [if_neg h]; omega
  · by_cases h : rt i = v
    · have : bnd rt v t i = t := if_pos h
      rw [this]; unfold bndR
      rw [ht, if_neg hn, h, if_pos (.refl v)]; omega
    · have : bnd rt v t i = rt i := if_neg h
      rw [this]; unfold bndR
      rw [ok.idem i hi]
      have := ok.le i hi
      omega
noncomputable def den (sh : List Sh) (rt : Nat → Nat) (th : Nat → Tm) : Nat → Nat → Tm
  | 0, i => th i
  | f + 1, i => match sh[rt i]? with
    | none => th i
    | some s => if s.kind = 1 then th (rt i) else .mk s.kind s.pkg s.name 0 (s.kids.map (den sh rt th f))
theorem den_fuel {sh : List Sh} {rt r : Nat → Nat} (ok : Ok sh rt r) (th : Nat → Tm) : ∀ (f g i : Nat), i < sh.length → r i < f → r i < g → den sh rt th f i = den sh rt th g i
  | 0, g, i, _, h, _ => by omega
  | f + 1, 0, i, _, _, h => by omega
  | f + 1, g + 1, i, hi, h1, h2 => by
    have hl := ok.lt i hi
    have hle := ok.le i hi
    obtain ⟨s, hs⟩ := at_of_lt hl
    simp only [den, hs]
    split
    · rfl
    · congr 1
      refine List.map_congr_left fun k hk => ?_
      obtain ⟨a, b⟩ := ok.kid _ s k hs hk
      exact den_fuel ok th f g k a (by omega) (by omega)
theorem ex_mod {sh : List Sh} {rt r : Nat → Nat} (ok : Ok sh rt r) (th : Nat → Tm) : ∃ M, Mod sh rt M ∧ ∀ (v : Nat) (s : Sh), sh[v]? = some s → s.kind = 1 → rt v = v → M v = th v := by
  refine ⟨fun i => den sh rt th (r i + 1) i, ⟨fun i hi => ?_, fun i s hi hc => ?_⟩, fun v s hv hk hr => ?_⟩
  · have e1 : den sh rt th (r i + 1) i = den sh rt th (r i + 1) (rt i) := by
      obtain ⟨s, hs⟩ := at_of_lt (ok.lt i hi)
      simp only [den, ok.idem i hi, hs]
    show den sh rt th (r i + 1) i = den sh rt th (r (rt i) + 1) (rt i)
    rw [e1]
    have := ok.le i hi
    exact den_fuel ok th _ _ _ (ok.lt i hi) (by omega) (by omega)
  · show den sh rt th (r i + 1) i = _
    simp only [den, ok.con i s hi hc, hi, if_neg hc]
    congr 1
    refine List.map_congr_left fun k hk => ?_
    obtain ⟨a, b⟩ := ok.kid _ s k hi hk
    show den sh rt th (r i) k = den sh rt th (r k + 1) k
    exact den_fuel ok th _ _ k a (by omega) (by omega)
  · show den sh rt th (r v + 1) v = _
    simp only [den, hr, hv, if_pos hk]
theorem mod_ext {sh : List Sh} {rt r : Nat → Nat} (ok : Ok sh rt r) {M N : Nat → Tm} (hM : Mod sh rt M) (hN : Mod sh rt N) (hv : ∀ (v : Nat) (s : Sh), sh[v]? = some s → s.kind = 1 → rt v = v → M v = N v) : ∀ (f i : Nat), i < sh.length → r i < f → M i = N i
  | 0, i, _, h => by omega
  | f + 1, i, hi, h => by
    rw [hM.1 i hi, hN.1 i hi]
    have hl := ok.lt i hi
    have hle := ok.le i hi
    obtain ⟨s, hs⟩ := at_of_lt hl
    by_cases hk : s.kind = 1
    · exact hv _ s hs hk (ok.idem i hi)
    · rw [hM.2 _ s hs hk, hN.2 _ s hs hk]
      congr 1
      refine List.map_congr_left fun k hk' => ?_
      obtain ⟨a, b⟩ := ok.kid _ s k hs hk'
      exact mod_ext ok hM hN hv f k a (by omega)
def eqN : Nat → Tm → Tm → Prop
  | 0, _, _ => True
  | n + 1, a, b => a.kind = b.kind ∧ a.pkg = b.pkg ∧ a.name = b.name ∧ a.n = b.n ∧ a.kids.length = b.kids.length ∧ ∀ (j : Nat) x y, a.kids[j]? = some x → b.kids[j]? = some y → eqN n x y
theorem eqN_refl : ∀ (n : Nat) (a : Tm), eqN n a a
  | 0, _ => trivial
  | n + 1, a => ⟨rfl, rfl, rfl, rfl, rfl, fun j x y h1 h2 => by rw [h1] at h2; cases h2; exact eqN_refl n x⟩
theorem eqN_symm : ∀ (n : Nat) {a b : Tm}, eqN n a b → eqN n b a
  | 0, _, _, _ => trivial
  | n + 1, a, b, ⟨h1, h2, h3, h4, h5, h6⟩ => ⟨h1.symm, h2.symm, h3.symm, h4.symm, h5.symm, fun j x y hx hy => eqN_symm n (h6 j y x hy hx)⟩
theorem eqN_trans : ∀ (n : Nat) {a b c : Tm}, eqN n a b → eqN n b c → eqN n a c
  | 0, _, _, _, _, _ => trivial
  | n + 1, a, b, c, ⟨h1, h2, h3, h4, h5, h6⟩, ⟨k1, k2, k3, k4, k5, k6⟩ => ⟨h1.trans k1, h2.trans k2, h3.trans k3, h4.trans k4, h5.trans k5, fun j x y hx hy => by
    have hj := lt_of_at hx
    obtain ⟨z, hz⟩ := at_of_lt (l := b.kids) (i := j) (by omega)
    exact eqN_trans n (h6 j x z hx hz) (k6 j z y hz hy)⟩
theorem eqN_eq : ∀ (n : Nat) (a b : Tm), tsz a ≤ n → eqN n a b → a = b
  | 0, .mk k p m x l, b, h, _ => by rw [tsz] at h; omega
  | n + 1, .mk k p m x l, .mk k' p' m' x' l', h, ⟨h1, h2, h3, h4, h5, h6⟩ => by
    dsimp only [Tm.kind, Tm.pkg, Tm.name, Tm.n, Tm.kids] at h1 h2 h3 h4 h5 h6
    subst h1; subst h2; subst h3; subst h4
    rw [tsz] at h
    congr 1
    apply List.ext_getElem?
    intro j
    by_cases hj : j < l.length
    · obtain ⟨a, ha⟩ := at_of_lt hj
      obtain ⟨b, hb⟩ := at_of_lt (l := l') (i := j) (by omega)
      have := tszs_mem (List.mem_of_getElem? ha)
      rw [ha, hb, eqN_eq n a b (by omega) (h6 j a b ha hb)]
    · rw [List.getElem?_eq_none (by omega), List.getElem?_eq_none (by omega)]
def topO : List (Nat × Nat) → Nat → Nat
  | [], x => x
  | p :: r, x => if x = p.1 then topO r p.2 else topO r x
theorem topO_mem : ∀ (one : List (Nat × Nat)) (x : Nat), topO one x = x ∨ ∃ p ∈ one, topO one x = p.2
  | [], x => .inl rfl
  | p :: r, x => by
    unfold topO
    split
    · rcases topO_mem r p.2 with h | ⟨q, h1, h2⟩
      · exact .inr ⟨p, List.mem_cons_self .., h⟩
      · exact .inr ⟨q, List.mem_cons_of_mem _ h1, h2⟩
    · rcases topO_mem r x with h | ⟨q, h1, h2⟩
      · exact .inl h
      · exact .inr ⟨q, List.mem_cons_of_mem _ h1, h2⟩
structure Eqv (E : Nat → Nat → Prop) : Prop where
  rfl' : ∀ a, E a a
  symm : ∀ {a b}, E a b → E b a
  trans : ∀ {a b c}, E a b → E b c → E a c
theorem topO_eqv {E : Nat → Nat → Prop} (he : Eqv E) : ∀ (one : List (Nat × Nat)) (x : Nat), (∀ p ∈ one, E p.1 p.2) → E x (topO one x)
  | [], x, _ => he.rfl' x
  | p :: r, x, h => by
    unfold topO
    split
    · rename_i e
      rw [e]
      exact he.trans (h p (List.mem_cons_self ..)) (topO_eqv he r p.2 fun q hq => h q (List.mem_cons_of_mem _ hq))
    · exact topO_eqv he r x fun q hq => h q (List.mem_cons_of_mem _ hq)
theorem topO_M (M : Nat → Tm) (one : List (Nat × Nat)) (x : Nat) (h : ∀ p ∈ one, M p.1 = M p.2) : M x = M (topO one x) :=
  topO_eqv (E := fun a b => M a = M b) ⟨fun _ => rfl, fun h => h.symm, fun h k => h.trans k⟩ one x h
def Ord : List (Nat × Nat) → Prop
  | [] => True
  | p :: r => p.2 ≠ p.1 ∧ (∀ q ∈ r, q.1 ≠ p.1 ∧ q.2 ≠ p.1) ∧ Ord r
theorem ord_topO : ∀ (one : List (Nat × Nat)) (x : Nat), Ord one → ∀ p ∈ one, topO one x ≠ p.1
  | [], x, _, p, hp => by cases hp
  | q :: r, x, ho, p, hp => by
    obtain ⟨h1, h2, h3⟩ := ho
    unfold topO
    rcases List.mem_cons.1 hp with rfl | hp
    · split
      · rcases topO_mem r p.2 with e | ⟨z, hz, e⟩
        · rw [e]; exact h1
        · rw [e]; exact (h2 z hz).2
      · rename_i hx
        rcases topO_mem r x with e | ⟨z, hz, e⟩
        · rw [e]; exact hx
        · rw [e]; exact (h2 z hz).2
    · split
      · exact ord_topO r _ h3 p hp
      · exact ord_topO r _ h3 p hp
theorem ord_add : ∀ (one : List (Nat × Nat)) (x y : Nat), Ord one → (∀ p ∈ one, x ≠ p.1) → (∀ p ∈ one, y ≠ p.1) → y ≠ x → Ord (one ++ [(x, y)])
  | [], x, y, _, _, _, h => ⟨h, by simp, trivial⟩
  | p :: r, x, y, ⟨h1, h2, h3⟩, hx, hy, h => by
    refine ⟨h1, fun q hq => ?_, ord_add r x y h3 (fun q hq => hx q (List.mem_cons_of_mem _ hq)) (fun q hq => hy q (List.mem_cons_of_mem _ hq)) h⟩
    rcases List.mem_append.1 hq with hq | hq
    · exact h2 q hq
    · rw [List.mem_singleton.1 hq]
      exact ⟨hx p (List.mem_cons_self ..), hy p (List.mem_cons_self ..)⟩
structure Ext (sh : List Sh) (rt : Nat → Nat) (one todo : List (Nat × Nat)) (E : Nat → Nat → Prop) : Prop where
  eqv : Eqv E
  rt : ∀ i, i < sh.length → E i (rt i)
  one : ∀ p ∈ one, E p.1 p.2
  todo : ∀ p ∈ todo, E p.1 p.2
def sigEq (s s' : Sh) : Prop := s.kind = s'.kind ∧ s.pkg = s'.pkg ∧ s.name = s'.name ∧ s.kids.length = s'.kids.length
structure UI (sh : List Sh) (rt0 : Nat → Nat) (a b : Nat) (rt : Nat → Nat) (one todo : List (Nat × Nat)) : Prop where
  gen : ∀ M, Mod sh rt0 M → M a = M b → Mod sh rt M ∧ (∀ p ∈ one, M p.1 = M p.2) ∧ ∀ p ∈ todo, M p.1 = M p.2
  back : ∀ M, Mod sh rt M → Mod sh rt0 M
  snd : ∀ E, Ext sh rt one todo E → E a b ∧ ∀ p ∈ one, ∀ (s s' : Sh), sh[p.1]? = some s → sh[p.2]? = some s' → ∀ (j : Nat) x y, s.kids[j]? = some x → s'.kids[j]? = some y → E x y
  sig : ∀ p ∈ one, ∃ (s s' : Sh), sh[p.1]? = some s ∧ sh[p.2]? = some s' ∧ s.kind ≠ 1 ∧ sigEq s s'
  ord : Ord one
  bds : ∀ p ∈ todo, p.1 < sh.length ∧ p.2 < sh.length
theorem ui_start {sh : List Sh} {rt : Nat → Nat} {a b : Nat} (ha : a < sh.length) (hb : b < sh.length) : UI sh rt a b rt [] [(a, b)] :=
  ⟨fun M hm e => ⟨hm, by simp, by simpa using e⟩, fun M h => h, fun E h => ⟨h.todo (a, b) (by simp), by simp⟩, by simp, trivial, by simp [ha, hb]⟩
section
variable {sh : List Sh} {rt0 rt r : Nat → Nat} {a b p q : Nat} {one todo : List (Nat × Nat)}
theorem top_root' (ok : Ok sh rt r) (u : UI sh rt0 a b rt one todo) (hp : p < sh.length) : topO one (rt p) < sh.length ∧ rt (topO one (rt p)) = topO one (rt p) := by
  rcases topO_mem one (rt p) with e | ⟨z, hz, e⟩
  · rw [e]; exact ⟨ok.lt p hp, ok.idem p hp⟩
  · rw [e]
    obtain ⟨s, s', h1, h2, h3, h4⟩ := u.sig z hz
    exact ⟨lt_of_at h2, ok.con _ s' h2 (h4.1 ▸ h3)⟩
theorem u_E (u : UI sh rt0 a b rt one (todo ++ [(p, q)])) {E : Nat → Nat → Prop} (he : Eqv E) (hr : ∀ i, i < sh.length → E i (rt i)) (ho : ∀ z ∈ one, E z.1 z.2) (i : Nat) (hi : i < sh.length) : E i (topO one (rt i)) :=
  he.trans (hr i hi) (topO_eqv he one _ ho)
theorem u_M {M : Nat → Tm} (hm : Mod sh rt M) (ho : ∀ z ∈ one, M z.1 = M z.2) (i : Nat) (hi : i < sh.length) : M i = M (topO one (rt i)) :=
  (hm.1 i hi).trans (topO_M M one _ ho)
theorem ui_pq (u : UI sh rt0 a b rt one (todo ++ [(p, q)])) : p < sh.length ∧ q < sh.length := u.bds (p, q) (by simp)
theorem ui_tops (u : UI sh rt0 a b rt one (todo ++ [(p, q)])) {M : Nat → Tm} (hm : Mod sh rt0 M) (e : M a = M b) : Mod sh rt M ∧ M (topO one (rt p)) = M (topO one (rt q)) := by
  obtain ⟨h1, h2, h3⟩ := u.gen M hm e
  obtain ⟨hp, hq⟩ := ui_pq u
  exact ⟨h1, by rw [← u_M h1 h2 p hp, ← u_M h1 h2 q hq]; exact h3 (p, q) (by simp)⟩
theorem ui_same (u : UI sh rt0 a b rt one (todo ++ [(p, q)])) (h : topO one (rt p) = topO one (rt q)) : UI sh rt0 a b rt one todo := by
  obtain ⟨hp, hq⟩ := ui_pq u
  refine ⟨fun M hm e => ?_, u.back, fun E he => ?_, u.sig, u.ord, fun z hz => u.bds z (by simp [hz])⟩
  · obtain ⟨h1, h2, h3⟩ := u.gen M hm e
    exact ⟨h1, h2, fun z hz => h3 z (by simp [hz])⟩
  · refine u.snd E ⟨he.eqv, he.rt, he.one, fun z hz => ?_⟩
    rcases List.mem_append.1 hz with hz | hz
    · exact he.todo z hz
    · rw [List.mem_singleton.1 hz]
      exact he.eqv.trans (u_E u he.eqv he.rt he.one p hp) (h ▸ he.eqv.symm (u_E u he.eqv he.rt he.one q hq))
theorem ui_bnd (u : UI sh rt0 a b rt one (todo ++ [(p, q)])) {v t : Nat} (hv : v < sh.length) (hrv : rt v = v) (h : (topO one (rt p) = v ∧ topO one (rt q) = t) ∨ (topO one (rt q) = v ∧ topO one (rt p) = t)) : UI sh rt0 a b (bnd rt v t) one todo := by
  obtain ⟨hp, hq⟩ := ui_pq u
  refine ⟨fun M hm e => ?_, fun M hm => u.back M (bnd_back hv hrv hm), fun E he => ?_, u.sig, u.ord, fun z hz => u.bds z (by simp [hz])⟩
  · obtain ⟨h1, h2, h3⟩ := u.gen M hm e
    obtain ⟨_, h4⟩ := ui_tops u hm e
    refine ⟨bnd_mod h1 ?_, h2, fun z hz => h3 z (by simp [hz])⟩
    rcases h with ⟨rfl, rfl⟩ | ⟨rfl, rfl⟩
    · exact h4
    · exact h4.symm
  · have hvt : E v t := by have := he.rt v hv; simp only [bnd, hrv, if_true] at this; exact this
    have hrt : ∀ i, i < sh.length → E i (rt i) := fun i hi => by
      have := he.rt i hi
      unfold bnd at this
      split at this
      · rename_i e; rw [e]; exact he.eqv.trans this (he.eqv.symm hvt)
      · exact this
    refine u.snd E ⟨he.eqv, hrt, he.one, fun z hz => ?_⟩
    rcases List.mem_append.1 hz with hz | hz
    · exact he.todo z hz
    · rw [List.mem_singleton.1 hz]
      have e1 := u_E u he.eqv hrt he.one p hp
      have e2 := u_E u he.eqv hrt he.one q hq
      rcases h with ⟨h1, h2⟩ | ⟨h1, h2⟩
      · rw [h1] at e1; rw [h2] at e2
        exact he.eqv.trans (he.eqv.trans e1 hvt) (he.eqv.symm e2)
      · rw [h1] at e2; rw [h2] at e1
        exact he.eqv.trans (he.eqv.trans e1 (he.eqv.symm hvt)) (he.eqv.symm e2)
theorem kids_eq {s s' : Sh} {M : Nat → Tm} (h : s.kids.map M = s'.kids.map M) (j x y : Nat) (hx : s.kids[j]? = some x) (hy : s'.kids[j]? = some y) : M x = M y := by
  have := congrArg (·[j]?) h
  simpa [hx, hy] using this
theorem ui_one (u : UI sh rt0 a b rt one (todo ++ [(p, q)])) {x y : Nat} (hx : topO one (rt p) = x) (hy : topO one (rt q) = y) (hne : x ≠ y) {s s' : Sh} (h1 : sh[x]? = some s) (h2 : sh[y]? = some s') (hk : s.kind ≠ 1) (hs : sigEq s s') (hb : ∀ k ∈ s.kids, k < sh.length) (hb' : ∀ k ∈ s'.kids, k < sh.length) : UI sh rt0 a b rt (one ++ [(x, y)]) (todo ++ (s.kids.zip s'.kids).reverse) := by
  obtain ⟨hp, hq⟩ := ui_pq u
  refine ⟨fun M hm e => ?_, u.back, fun E he => ?_, fun z hz => ?_, ?_, fun z hz => ?_⟩
  · obtain ⟨k1, k2, k3⟩ := u.gen M hm e
    obtain ⟨_, h4⟩ := ui_tops u hm e
    rw [hx, hy] at h4
    refine ⟨k1, fun z hz => ?_, fun z hz => ?_⟩
    · rcases List.mem_append.1 hz with hz | hz
      · exact k2 z hz
      · rw [List.mem_singleton.1 hz]; exact h4
    · rcases List.mem_append.1 hz with hz | hz
      · exact k3 z (by simp [hz])
      · rw [List.mem_reverse] at hz
        rw [k1.2 x s h1 hk, k1.2 y s' h2 (hs.1 ▸ hk)] at h4
        simp only [Tm.mk.injEq] at h4
        obtain ⟨j, hj⟩ := List.mem_iff_getElem?.1 hz
        rw [List.getElem?_zip_eq_some] at hj
        exact kids_eq h4.2.2.2.2 j _ _ hj.1 hj.2
  · have hxy : E x y := he.one (x, y) (by simp)
    have ho : ∀ z ∈ one, E z.1 z.2 := fun z hz => he.one z (by simp [hz])
    obtain ⟨r1, r2⟩ := u.snd E ⟨he.eqv, he.rt, ho, fun z hz => by
      rcases List.mem_append.1 hz with hz | hz
      · exact he.todo z (by simp [hz])
      · rw [List.mem_singleton.1 hz]
        have e1 := u_E u he.eqv he.rt ho p hp
        have e2 := u_E u he.eqv he.rt ho q hq
        rw [hx] at e1; rw [hy] at e2
        exact he.eqv.trans (he.eqv.trans e1 hxy) (he.eqv.symm e2)⟩
    refine ⟨r1, fun z hz => ?_⟩
    rcases List.mem_append.1 hz with hz | hz
    · exact r2 z hz
    · rw [List.mem_singleton.1 hz]
      intro t t' ht ht' j c d hc hd
      dsimp only at ht ht'
      rw [h1] at ht; rw [h2] at ht'
      cases ht; cases ht'
      exact he.todo (c, d) (by
        rw [List.mem_append, List.mem_reverse]
        exact .inr (List.mem_of_getElem? (i := j) (List.getElem?_zip_eq_some.2 ⟨hc, hd⟩)))
  · rcases List.mem_append.1 hz with hz | hz
    · exact u.sig z hz
    · rw [List.mem_singleton.1 hz]; exact ⟨s, s', h1, h2, hk, hs⟩
  · refine ord_add one x y u.ord (fun z hz => ?_) (fun z hz => ?_) (Ne.symm hne)
    · rw [← hx]; exact ord_topO one _ u.ord z hz
    · rw [← hy]; exact ord_topO one _ u.ord z hz
  · rcases List.mem_append.1 hz with hz | hz
    · exact u.bds z (by simp [hz])
    · rw [List.mem_reverse] at hz
      have := List.of_mem_zip hz
      exact ⟨hb _ this.1, hb' _ this.2⟩
theorem ui_end (u : UI sh rt0 a b rt one []) {M : Nat → Tm} (hm : Mod sh rt M) : M a = M b := by
  have hE : ∀ n, Eqv fun x y => eqN n (M x) (M y) := fun n => ⟨fun _ => eqN_refl n _, fun h => eqN_symm n h, fun h k => eqN_trans n h k⟩
  have hr : ∀ n i, i < sh.length → eqN n (M i) (M (rt i)) := fun n i hi => by rw [← hm.1 i hi]; exact eqN_refl n _
  have key : ∀ n, ∀ z ∈ one, eqN n (M z.1) (M z.2) := fun n => by
    induction n with
    | zero => exact fun _ _ => trivial
    | succ n ih =>
      intro z hz
      obtain ⟨s, s', h1, h2, h3, h4, h5, h6, h7⟩ := u.sig z hz
      have := (u.snd _ ⟨hE n, hr n, ih, by simp⟩).2 z hz s s' h1 h2
      rw [hm.2 _ s h1 h3, hm.2 _ s' h2 (h4 ▸ h3)]
      refine ⟨h4, h5, h6, rfl, by simp [Tm.kids, h7], fun j x y hx hy => ?_⟩
      simp only [Tm.kids, List.getElem?_map, Option.map_eq_some_iff] at hx hy
      obtain ⟨c, hc, rfl⟩ := hx
      obtain ⟨d, hd, rfl⟩ := hy
      exact this j c d hc hd
  exact eqN_eq (tsz (M a)) _ _ (Nat.le_refl _) (u.snd _ ⟨hE _, hr _, key _, by simp⟩).1
theorem ui_no_var (ok : Ok sh rt r) (u : UI sh rt0 a b rt one (todo ++ [(p, q)])) {v t : Nat} (hvt : t ≠ v) (h : (topO one (rt p) = v ∧ topO one (rt q) = t) ∨ (topO one (rt q) = v ∧ topO one (rt p) = t)) (hr : Rch sh rt t v) : ∀ M, Mod sh rt0 M → M a ≠ M b := fun M hm e => by
  obtain ⟨h1, h4⟩ := ui_tops u hm e
  have : M v = M t := by
    rcases h with ⟨rfl, rfl⟩ | ⟨rfl, rfl⟩
    · exact h4
    · exact h4.symm
  rcases rch_lt ok h1 hr with e | e
  · exact hvt e
  · rw [this] at e; omega
theorem ui_no_sig (u : UI sh rt0 a b rt one (todo ++ [(p, q)])) {s s' : Sh} (h1 : sh[topO one (rt p)]? = some s) (h2 : sh[topO one (rt q)]? = some s') (hk : s.kind ≠ 1) (hk' : s'.kind ≠ 1) (hs : ¬ sigEq s s') : ∀ M, Mod sh rt0 M → M a ≠ M b := fun M hm e => by
  obtain ⟨m1, h4⟩ := ui_tops u hm e
  rw [m1.2 _ s h1 hk, m1.2 _ s' h2 hk'] at h4
  simp only [Tm.mk.injEq] at h4
  refine hs ⟨h4.1, h4.2.1, h4.2.2.1, ?_⟩
  have := congrArg List.length h4.2.2.2.2
  simpa using this
end
def ints (l : List Nat) : List Int := l.map fun (k : Nat) => (k : Int)
theorem ints_len (l : List Nat) : (ints l).length = l.length := List.length_map _
def KB (h : AHeap) (S B : Nat) (v : AV) (kl : List Int) : Prop := (v = .slc true [] ∧ kl = []) ∨ ∃ K g, v = .arr K 0 kl.length g 1 ∧ hget h K = .arr 1 (kl.map AV.int) g ∧ K ≠ S ∧ K < B
theorem KB.kf {h H : AHeap} {S B : Nat} (k : Kf S h H) {v : AV} {kl : List Int} (x : KB h S B v kl) : KB H S B v kl := by
  rcases x with x | ⟨K, g, e1, e2, e3, e4⟩
  · exact .inl x
  · exact .inr ⟨K, g, e1, k.2 K _ e2 (by simp) e3 (by simp), e3, e4⟩
theorem KB.kw {h H : AHeap} {S B T : Nat} (hT : B ≤ T) (k : Kw S T h H) {v : AV} {kl : List Int} (x : KB h S B v kl) : KB H S B v kl := by
  rcases x with x | ⟨K, g, e1, e2, e3, e4⟩
  · exact .inl x
  · exact .inr ⟨K, g, e1, k.2 K _ e2 (by simp) e3 (by omega) (by simp), e3, e4⟩
theorem KB.mono {h : AHeap} {S B B' : Nat} (hB : B ≤ B') {v : AV} {kl : List Int} (x : KB h S B v kl) : KB h S B' v kl := by
  rcases x with x | ⟨K, g, e1, e2, e3, e4⟩
  · exact .inl x
  · exact .inr ⟨K, g, e1, e2, e3, by omega⟩
theorem KB.kd {h : AHeap} {S B : Nat} {v : AV} {kl : List Int} (x : KB h S B v kl) : KD h v kl := by
  rcases x with x | ⟨K, g, e1, e2, e3, e4⟩
  · exact .inl x
  · exact .inr ⟨K, g, e1, e2⟩
structure NR1 (h : AHeap) (S B : Nat) (sh : List Sh) (rt r : Nat → Nat) (vis : Nat → Bool) (w : Int) (i : Nat) (n : Nd) (s : Sh) : Prop where
  kind : n.kind = s.kind
  pkg : n.pkg = s.pkg
  name : n.name = s.name
  kids : KB h S B n.kids (ints s.kids)
  to : ∃ j : Nat, n.to = (j : Int) ∧ j < sh.length ∧ rt j = rt i ∧ (j = i ∨ r j < r i) ∧ (rt i = i → j = i) ∧ (j = i → rt i = i)
  mark : n.mark = w ↔ vis i = true
  le : n.mark ≤ w
def NR (h : AHeap) (S B : Nat) (sh : List Sh) (rt r : Nat → Nat) (vis : Nat → Bool) (w : Int) (ns : List Nd) : Prop :=
  ns.length = sh.length ∧ ∀ (i : Nat) (n : Nd) (s : Sh), ns[i]? = some n → sh[i]? = some s → NR1 h S B sh rt r vis w i n s
theorem NR1.kf {h H : AHeap} {S B : Nat} (k : Kf S h H) {sh : List Sh} {rt r : Nat → Nat} {vis : Nat → Bool} {w : Int} {i : Nat} {n : Nd} {s : Sh} (x : NR1 h S B sh rt r vis w i n s) : NR1 H S B sh rt r vis w i n s :=
  ⟨x.kind, x.pkg, x.name, x.kids.kf k, x.to, x.mark, x.le⟩
theorem NR.kf {h H : AHeap} {S B : Nat} (k : Kf S h H) {sh : List Sh} {rt r : Nat → Nat} {vis : Nat → Bool} {w : Int} {ns : List Nd} (x : NR h S B sh rt r vis w ns) : NR H S B sh rt r vis w ns :=
  ⟨x.1, fun i n s h1 h2 => (x.2 i n s h1 h2).kf k⟩
theorem NR1.kw {h H : AHeap} {S B T : Nat} (hT : B ≤ T) (k : Kw S T h H) {sh : List Sh} {rt r : Nat → Nat} {vis : Nat → Bool} {w : Int} {i : Nat} {n : Nd} {s : Sh} (x : NR1 h S B sh rt r vis w i n s) : NR1 H S B sh rt r vis w i n s :=
  ⟨x.kind, x.pkg, x.name, x.kids.kw hT k, x.to, x.mark, x.le⟩
theorem NR.kw {h H : AHeap} {S B T : Nat} (hT : B ≤ T) (k : Kw S T h H) {sh : List Sh} {rt r : Nat → Nat} {vis : Nat → Bool} {w : Int} {ns : List Nd} (x : NR h S B sh rt r vis w ns) : NR H S B sh rt r vis w ns :=
  ⟨x.1, fun i n s h1 h2 => (x.2 i n s h1 h2).kw hT k⟩
theorem NR.next {h : AHeap} {S B : Nat} {sh : List Sh} {rt r : Nat → Nat} {vis : Nat → Bool} {w : Int} {ns : List Nd} (x : NR h S B sh rt r vis w ns) : NR h S B sh rt r (fun _ => false) (w + 1) ns :=
  ⟨x.1, fun i n s h1 h2 => by
    have y := x.2 i n s h1 h2
    have := y.le
    exact ⟨y.kind, y.pkg, y.name, y.kids, y.to, by simp; omega, by omega⟩⟩
theorem NR.at {h : AHeap} {S B : Nat} {sh : List Sh} {rt r : Nat → Nat} {vis : Nat → Bool} {w : Int} {ns : List Nd} (x : NR h S B sh rt r vis w ns) {i : Nat} (hi : i < sh.length) : ∃ (n : Nd) (s : Sh), ns[i]? = some n ∧ sh[i]? = some s ∧ NR1 h S B sh rt r vis w i n s := by
  obtain ⟨n, hn⟩ := at_of_lt (l := ns) (i := i) (by rw [x.1]; exact hi)
  obtain ⟨s, hs⟩ := at_of_lt hi
  exact ⟨n, s, hn, hs, x.2 i n s hn hs⟩
theorem NR.set {h : AHeap} {S B : Nat} {sh : List Sh} {rt r : Nat → Nat} {vis : Nat → Bool} {w : Int} {ns : List Nd} (x : NR h S B sh rt r vis w ns) {i : Nat} {n : Nd} (hn : ∀ s, sh[i]? = some s → NR1 h S B sh rt r vis w i n s) : NR h S B sh rt r vis w (ns.set i n) := by
  refine ⟨by rw [List.length_set]; exact x.1, fun j m s h1 h2 => ?_⟩
  by_cases e : i = j
  · subst e
    have := lt_of_at h1
    rw [List.length_set] at this
    rw [List.getElem?_set_self this] at h1
    cases h1
    exact hn s h2
  · rw [List.getElem?_set_ne e] at h1
    exact x.2 j m s h1 h2
set_option maxHeartbeats 4000000 in
theorem find_loop {S B : Nat} {b : Int} {fl : Bool} {w : Int} {sh : List Sh} {rt r : Nat → Nat} {vis : Nat → Bool} : ∀ (N i : Nat) (h : AHeap) (ns : List Nd), r i < N → i < sh.length → SP h S ns b fl w → NR h S B sh rt r vis w ns →
    ∃ H ns', lrun Tryd.prog md fg (fg 64) (loopOf Tryd.f64 0) (fg 64 1) (((.ptr S 0) :: (.int i) :: U::U::U::U::U::U::U::U::U::U::U::U::U::U::U::U::U::U::U::U::U::U::U::U::U::U::U::U::U::U::U::U::U::U::U::U::U::U::U::U::U::U::U::U::[] : List AV)) h = some (.exit 0, ((.ptr S 0) :: (.int (rt i : Nat)) :: U::U::U::U::U::U::U::U::U::U::U::U::U::U::U::U::U::U::U::U::U::U::U::U::U::U::U::U::U::U::U::U::U::U::U::U::U::U::U::U::U::U::U::U::[] : List AV), H) ∧ SP H S ns' b fl w ∧ NR H S B sh rt r vis w ns' ∧ Kf S h H ∧ H.length = h.length
  | 0, i, h, ns, h0, _, _, _ => by omega
  | N + 1, i, h, ns, h0, hi, hs, hn => by
    obtain ⟨n, s, hx, hsx, hn1⟩ := hn.at hi
    obtain ⟨j, hj, hjl, hjr, hjd, hji, hjj⟩ := hn1.to
    obtain ⟨A, g, h1, h2⟩ := sp_arr hs (ne_of_at hx)
    have ht : ((i : Int)).toNat = i := by omega
    have hlt := lt_of_at hx
    by_cases hji' : j = i
    · subst hji'
      have e := hjj rfl
      obtain ⟨k, p, m, ks, l, t, mk⟩ := n
      dsimp only at hj
      subst hj
      refine ⟨h, ns, ?_, hs, hn, Kf.refl S h, rfl⟩
      rw [e]
      rw [lrun_atC loop64_0]
      simp (implicitDefEqProofs := false) (disch := omega) only [go_sem, seval, rgn Tryd.f64 1 rfl, h1, h2, List.getElem?_map, ht, hx, Option.map_some, ndV_mk]
    · have hd : r j < r i := by omega
      obtain ⟨n2, s2, hy, hsy, hn2⟩ := hn.at hjl
      obtain ⟨j2, hj2, hj2l, hj2r, hj2d, hj2i, hj2j⟩ := hn2.to
      have ht2 : ((j : Int)).toNat = j := by omega
      have hlt2 := lt_of_at hy
      have hne : ¬ ((j : Nat) : Int) = (i : Int) := by omega
      have hd2 : r j2 < r i := by rcases hj2d with e | e
                                  · rw [e]; exact hd
                                  · omega
      have hj2ne : j2 ≠ i := by rintro rfl; omega
      have hn1' := hn1
      obtain ⟨k, p, m, ks, l, t, mk⟩ := n
      obtain ⟨k2, p2, m2, ks2, l2, t2, mk2⟩ := n2
      dsimp only at hj hj2
      subst hj; subst hj2
      obtain ⟨z1, z2⟩ := sp_set h1 h2 i ⟨k, p, m, ks, l, (j2 : Int), mk⟩
      have hNR : NR h S B sh rt r vis w (ns.set i ⟨k, p, m, ks, l, (j2 : Int), mk⟩) := hn.set fun s' hs' => by
        rw [hsx] at hs'; cases hs'
        exact ⟨hn1.kind, hn1.pkg, hn1.name, hn1.kids, ⟨j2, rfl, hj2l, hj2r.trans hjr, .inr hd2, fun e => absurd (hji e) hji', fun e => absurd e hj2ne⟩, hn1.mark, hn1.le⟩
      have hA := hlt_of h2 (by simp)
      have hAS : ¬ A = S := by rintro rfl; rw [h2] at h1; cases h1
      obtain ⟨H, ns', c1, c2, c3, c4, c5⟩ := find_loop N j2 _ _ (by omega) hj2l z1 (hNR.kf z2)
      refine ⟨H, ns', ?_, c2, c3, z2.trans c4, by rw [c5, List.length_set]⟩
      rw [← hjr, ← hj2r, ← c1]
      have hgt : (ns.map ndV)[i]? = some (.agg [.int k, .str (txt p), .str (txt m), ks, .int l, .int (j : Int), .int mk]) := by rw [List.getElem?_map, hx]; rfl
      have hstp : septr true 1 (.int (j2 : Int)) g 7 i 5 h A (.arr 7 (ns.map ndV) g) = some (h.set A (.arr 7 ((ns.set i ⟨k, p, m, ks, l, (j2 : Int), mk⟩).map ndV) g)) := by
        rw [← map_set']
        simp [septr, hgt, AV.cells, patch, putAt, ndV]
      have y1 : hget (h.set A (.arr 7 ((ns.set i ⟨k, p, m, ks, l, (j2 : Int), mk⟩).map ndV) g)) S = .vars [.arr A 0 ns.length g 7, .int b, .val (.bool fl), .int w] := by rw [hget_set_ne hAS]; exact h1
      have y2 : hget (h.set A (.arr 7 ((ns.set i ⟨k, p, m, ks, l, (j2 : Int), mk⟩).map ndV) g)) A = .arr 7 ((ns.set i ⟨k, p, m, ks, l, (j2 : Int), mk⟩).map ndV) g := hget_set_eq hA
      have y3 : (ns.set i ⟨k, p, m, ks, l, (j2 : Int), mk⟩)[i]? = some ⟨k, p, m, ks, l, (j2 : Int), mk⟩ := List.getElem?_set_self hlt
      rw [lrun_atC loop64_0]
      simp (implicitDefEqProofs := false) (disch := omega) only [go_sem, seval, rgn Tryd.f64 1 rfl, rgn Tryd.f64 2 rfl, rgn Tryd.f64 3 rfl, h1, h2, List.getElem?_map, ht, ht2, hx, hy, Option.map_some, ndV_mk, hne, hstp, y1, y2, y3, thenDraw_store]
theorem find_c {h : AHeap} {S B : Nat} {ns : List Nd} {b : Int} {fl : Bool} {w : Int} {sh : List Sh} {rt r : Nat → Nat} {vis : Nat → Bool} {i : Nat} (hi : i < sh.length) (hs : SP h S ns b fl w) (hn : NR h S B sh rt r vis w ns) :
    ∃ H ns', doCall md (aval Tryd.prog md fg) 64 [.ptr S 0, .int i] h = some (.int (rt i : Nat), H) ∧ SP H S ns' b fl w ∧ NR H S B sh rt r vis w ns' ∧ Kf S h H ∧ H.length = h.length := by
  obtain ⟨H, ns', c1, c2, c3, c4, c5⟩ := find_loop (r i + 1) i h ns (by omega) hi hs hn
  refine ⟨H, ns', doCall_same md64 ?_ c5, c2, c3, c4, c5⟩
  rw [aval_of Tryd.func64 body64 Tryd.results64 Tryd.ntmps64 ok64]
  simp (implicitDefEqProofs := false) (disch := omega) only [go_sem, seval, rgn Tryd.f64 0 rfl, rgn Tryd.f64 4 rfl, c1]
theorem Kf.agree {S : Nat} {h H H' : AHeap} (k : Kf S h H) (hl : h.length ≤ H'.length) (ha : ∀ j, j < h.length → hget H' j = hget H j) : Kf S h H' :=
  ⟨hl, fun j o e h1 h2 h3 => by rw [ha j (hlt_of e h1)]; exact k.2 j o e h1 h2 h3⟩
theorem KB.agree {h H : AHeap} {S B m : Nat} (hB : B ≤ m) (ha : ∀ j, j < m → hget H j = hget h j) {v : AV} {kl : List Int} (x : KB h S B v kl) : KB H S B v kl := by
  rcases x with x | ⟨K, g, e1, e2, e3, e4⟩
  · exact .inl x
  · exact .inr ⟨K, g, e1, by rw [ha K (by omega)]; exact e2, e3, e4⟩
theorem NR.agree {h H : AHeap} {S B m : Nat} (hB : B ≤ m) (ha : ∀ j, j < m → hget H j = hget h j) {sh : List Sh} {rt r : Nat → Nat} {vis : Nat → Bool} {w : Int} {ns : List Nd} (x : NR h S B sh rt r vis w ns) : NR H S B sh rt r vis w ns :=
  ⟨x.1, fun i n s h1 h2 => by
    have y := x.2 i n s h1 h2
    exact ⟨y.kind, y.pkg, y.name, y.kids.agree hB ha, y.to, y.mark, y.le⟩⟩
theorem doCall_sp5 {f : FuncId} {vs : List AV} {h H : AHeap} {r : AV} {S : Nat} {ns0 ns : List Nd} {b0 b : Int} {f0 f1 : Bool} {w0 w : Int} (hm : md f = 1) (e : aval Tryd.prog md fg f vs h = some (r, H)) (h0 : SP h S ns0 b0 f0 w0) (h1 : SP H S ns b f1 w) (hl : h.length ≤ H.length) :
    ∃ H', doCall md (aval Tryd.prog md fg) f vs h = some (r, H') ∧ SP H' S ns b f1 w ∧ h.length ≤ H'.length ∧ ∀ j, j < h.length → hget H' j = hget H j := by
  obtain ⟨nv0, a1, a2⟩ := h0
  have hS := hlt_of a1 (by simp)
  rw [doCall_0 (by omega)]
  unfold doCall0
  rw [if_neg (by omega), rated_id (by omega), e]
  dsimp only
  split
  · rename_i hg
    obtain ⟨nv, c1, c2⟩ := h1
    refine ⟨_, rfl, ⟨nv, by rw [hget_take hS]; exact c1, ?_⟩, by rw [List.length_take]; omega, fun j hj => hget_take hj⟩
    rcases c2 with c2 | ⟨A, g, rfl, c2⟩
    · exact .inl c2
    · refine .inr ⟨A, g, rfl, ?_⟩
      have hA : A < h.length := by
        rcases hg.2 S hS with e1 | e1
        · have : hget H S = hget h S := by unfold hget; rw [List.getD_eq_getElem?_getD, e1, ← List.getD_eq_getElem?_getD]
          rw [c1, a1] at this
          simp only [AObj.vars.injEq, List.cons.injEq] at this
          rcases a2 with ⟨_, a2⟩ | ⟨A', g', a2, a3⟩
          · rw [a2] at this; cases this.1
          · rw [a2] at this
            have h5 := this.1
            simp only [AV.arr.injEq] at h5
            rw [h5.1]; exact hlt_of a3 (by simp)
        · rw [c1] at e1
          simp only [belowO, belowL, below, Bool.and_eq_true, decide_eq_true_eq] at e1
          exact e1.1
      rw [hget_take hA]; exact c2
  · exact ⟨_, rfl, h1, hl, fun _ _ => rfl⟩
end Go.Proofs.YtncjbccjpneoiaaDoor
