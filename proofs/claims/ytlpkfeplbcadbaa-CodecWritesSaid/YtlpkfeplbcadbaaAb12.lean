/-
  Each operation of the abstract machine is one of the model's: all of them.
-/
import Derived.Test.YtlpkfeplbcadbaaAb11
namespace Go.Ab
set_option linter.unusedSimpArgs false
set_option linter.unusedVariables false
open Go.Lib
section
variable {P : Program} {X O : Nat → Prop} {h : AHeap} {γ : Ghost} {w : World}

/-! ### Conversions -/
theorem bytesOf_inv : ∀ {es : List AV} {l : List UInt8}, bytesOf es = some l → ∃ ns : List Int, es = ns.map (fun n => AV.val (.int .u8 n)) ∧ l = ns.map fun n => UInt8.ofNat n.toNat
  | [], l, e => by cases e; exact ⟨[], rfl, rfl⟩
  | e0 :: r, l, e => by
    unfold bytesOf at e
    split at e
    · rename_i heq; cases heq
    · rename_i n r' heq
      cases heq
      cases hb : bytesOf r with
      | none => rw [hb] at e; cases e
      | some l' =>
        rw [hb] at e; cases e
        obtain ⟨ns, rfl, rfl⟩ := bytesOf_inv hb
        exact ⟨n :: ns, rfl, rfl⟩
    · cases e
theorem foldl_push (ns : List Int) : ∀ s : ByteArray, ns.foldl (fun r n => r.push (UInt8.ofNat n.toNat)) s = ⟨s.data ++ (ns.map fun n => UInt8.ofNat n.toNat).toArray⟩ := by
  induction ns with
  | nil => intro s; simp
  | cons n r ih =>
    intro s
    rw [List.foldl_cons, ih]
    congr 1
    apply Array.ext'
    simp [ByteArray.push]
theorem bytes_world (w : World) (e : TypeId) (s : ByteArray) : (bytesWorld w e s).heap = w.heap.push (.cells (bytesCells w e s) e ((bytesCells w e s).size, (bytesCells w e s).size + 1)) := by
  apply Array.ext_getElem?
  intro j
  by_cases h1 : j < w.heap.size
  · rw [bytesWorld_at_old w e s j h1, Array.getElem?_push, if_neg (by omega)]
  · by_cases h2 : j = w.heap.size
    · subst h2; rw [bytesWorld_at_new]; simp
    · rw [Array.getElem?_eq_none (by rw [bytesWorld_size]; omega), Array.getElem?_eq_none (by simp; omega)]
theorem aconvert_sound (r : R X h γ w) {src dst : TypeId} {x v : AV} {u : Value} {h' : AHeap} (hx : V w (Ow X h γ) γ x u) (e : aconvert P src dst h x = some (v, h')) :
    ∃ y w' γ', (convert src dst u).run P w = .ok y w' ∧ Goes X h γ w h' γ' w' ∧ V w' (Ow X h' γ') γ' v y := by
  unfold aconvert at e
  split at e
  · rename_i k0 k hs hd
    split at e
    · cases hx.val_inv; cases e
      exact ⟨_, w, γ, by simp [convert, run_underlying hs, run_underlying hd, Conv.intToInt], Goes.refl r, .val _⟩
    · cases e
  · rename_i hs hd
    split at e
    · cases hx.val_inv; cases e
      exact ⟨_, w, γ, by simp [convert, run_underlying hs, run_underlying hd], Goes.refl r, .val _⟩
    · cases e
  · rename_i el hs hd
    split at e
    · rename_i s hel
      cases hx.val_inv; cases e
      have hrun := run_convert_string_bytes w src dst el s hs hd hel
      have hge := grownCap_ge w s.size 0 el
      have hsz : (bytesCells w el s).size = grownCap w s.size 0 el := by simp [bytesCells]; omega
      refine ⟨_, _, _, hrun, alloc_goes r (bytes_world w el s) rfl rfl rfl (fun off ho => by simp; omega) (o := .arr 1 (s.data.toList.map byteVal) 0) ?_, ?_⟩
      · have hb := bytes_rowV (w := w) (O := Ow X h γ) (γ := γ) s
        refine ⟨rfl, hb.2.1, fun i j e x he hj => ?_⟩
        obtain ⟨a1, v, a2, a3⟩ := hb.2.2 i j e x he hj
        refine ⟨a1, v, ?_, a3⟩
        have hlt := (Array.getElem?_eq_some_iff.1 a2).1
        have e1 : bytesCells w el s = (byteCells s).toArray ++ Array.replicate (grownCap w s.size 0 el - s.size) (.int .u8 0) := by
          unfold bytesCells byteCells
          congr 1
          apply Array.ext'; simp
        rw [e1, Array.getElem?_append_left hlt]; exact a2
      · exact .arr h.length 0 s.size 0 1 w.heap.size 0 _ 0 (by simp [Ghost.put]) hge (.inl (by simp)) ⟨_, _, _, bytesWorld_at_new w el s, by rw [hsz]; simp⟩
    · cases e
  · rename_i el hs hd
    split at e
    · rename_i es hel hv
      split at e
      · rename_i ho
        cases hb : bytesOf es with
        | none => rw [hb] at e; cases e
        | some l =>
          rw [hb] at e; cases e
          obtain ⟨ns, rfl, rfl⟩ := bytesOf_inv hb
          obtain ⟨a, cap, rfl, hcap, hh⟩ := sview_sound r hx hv
          refine ⟨_, w, γ, ?_, Goes.refl r, .val _⟩
          rw [run_convert_bytes_string w src dst el a _ cap hs hel hd]
          rcases hh with hnil | ⟨b, o, k, rfl, hr⟩
          · simp at hnil; subst hnil
            cases a with
            | none => rfl
            | some a => rfl
          · have hload : (loadCells ⟨b, o, none⟩ (ns.map fun n => AV.val (.int .u8 n)).length).run P w = .ok (ns.map (Value.int .u8)).toArray w := by
              have := run_loadCells_list (P := P) w ⟨b, o, none⟩ (ns.map (Value.int .u8)) fun j u hj => ?_
              · simpa using this
              · simp only [List.getElem?_map] at hj
                cases hn : ns[j]? with
                | none => rw [hn] at hj; cases hj
                | some n =>
                  rw [hn] at hj; cases hj
                  have hj' : (ns.map fun n => AV.val (.int .u8 n))[j]? = some (.val (.int .u8 n)) := by simp [hn]
                  obtain ⟨_, v, h2, h3⟩ := hr.2 j 0 _ (.val (.int .u8 n)) hj' rfl
                  have hk1 : k = 1 := by have := (hr.1 _ _ hj').2; simpa [AV.cells] using this.symm
                  subst hk1
                  cases h3.val_inv
                  rw [addr_add]; simpa using h2
            rw [run_bytesToString w _ _ cap ns hload, foldl_push]
            have e0 : ByteArray.empty.data ++ (ns.map fun n => UInt8.ofNat n.toNat).toArray = (ns.map fun n => UInt8.ofNat n.toNat).toArray := Array.empty_append
            rw [e0]
      · cases e
    · cases e
  · cases e

/-! ### copy, len, min, max -/
theorem take_get {α : Type} {l : List α} {n i : Nat} {e : α} (h : (l.take n)[i]? = some e) : i < n ∧ l[i]? = some e := by
  have hlt : i < n := by
    have := (List.getElem?_eq_some_iff.1 h).1; simp at this; omega
  rw [List.getElem?_take_of_lt hlt] at h
  exact ⟨hlt, h⟩
theorem afirst_sound (r : R X h γ w) {x : AV} {u : Value} {xs : List AV} {k n : Nat} (hx : V w (Ow X h γ) γ x u) (e : aelems h x = some xs) (hk : headOk k xs = true) (hkp : 0 < k) (hn : n ≤ xs.length) :
    (∀ w' : World, ∃ m, (Builtin.lenOf u).run P w' = .ok m w' ∧ m = xs.length) ∧
    ∃ us : List Value, (Builtin.firstCells k n u).run P w = .ok us.toArray w ∧ RowV w (Ow X h γ) γ k (xs.take n) us.toArray ∧ us.length = n * k ∧ ∀ v ∈ us, v.oneCell' = true := by
  unfold aelems at e
  split at e
  · rename_i s
    cases hx.val_inv; cases e
    refine ⟨fun _ => ⟨s.size, rfl, by simp⟩, ?_⟩
    by_cases h0 : n = 0
    · subst h0
      exact ⟨[], by simp [Builtin.firstCells], ⟨by simp, fun i e he => by simp at he, fun i j e c he => by simp at he⟩, by simp, fun v hv => by cases hv⟩
    · have : k = 1 := by
        cases hd : s.data.toList with
        | nil => rw [hd] at hn; simp at hn; omega
        | cons y t => rw [hd] at hk; simp [headOk, byteVal, AV.cells] at hk; exact hk.symm
      subst this
      have hb := bytes_rowV (w := w) (O := Ow X h γ) (γ := γ) s
      have hbl : (byteCells s).length = s.size := byteCells_length s
      simp at hn
      refine ⟨(byteCells s).take n, ?_, ⟨by simp [hbl], fun i e he => ?_, fun i j e c he hj => ?_⟩, by simp [hbl]; omega, fun v hv => ?_⟩
      · simp only [Builtin.firstCells, Sem.run_pure]
        congr 1
        apply Array.ext'
        simp [byteCells]
      · exact hb.2.1 i e (take_get he).2
      · obtain ⟨hin, he'⟩ := take_get he
        obtain ⟨a1, v, a2, a3⟩ := hb.2.2 i j e c he' hj
        have hj0 : j = 0 := by
          have h1 := (List.getElem?_eq_some_iff.1 hj).1
          have h2 := (hb.2.1 i e he').2
          omega
        subst hj0
        refine ⟨a1, v, ?_, a3⟩
        simp only [List.getElem?_toArray, Nat.mul_one, Nat.add_zero] at a2 ⊢
        rw [List.getElem?_take_of_lt hin]; exact a2
      · have := List.mem_of_mem_take hv
        obtain ⟨_, _, rfl⟩ := List.mem_map.1 this
        rfl
  · obtain ⟨a, cap, rfl, hcap, hh⟩ := sview_sound r hx e
    refine ⟨fun _ => ⟨xs.length, rfl, rfl⟩, ?_⟩
    have nil : n = 0 → ∃ us : List Value, (Builtin.firstCells k n (.slice a xs.length cap)).run P w = .ok us.toArray w ∧ RowV w (Ow X h γ) γ k (xs.take n) us.toArray ∧ us.length = n * k ∧ ∀ v ∈ us, v.oneCell' = true := by
      rintro rfl
      refine ⟨[], ?_, ⟨by simp, fun i e he => by simp at he, fun i j e c he => by simp at he⟩, by simp, fun v hv => by cases hv⟩
      cases a with
      | none => exact run_firstCells_none w k 0 xs.length cap
      | some a => exact run_firstCells_some w k 0 a xs.length cap [] (by simp) (fun j v hj => by simp at hj)
    rcases hh with rfl | ⟨b, o, k', rfl, hr⟩
    · exact nil (by simpa using hn)
    · by_cases h0 : n = 0
      · exact nil h0
      · have hne : xs ≠ [] := by rintro rfl; simp at hn; omega
        obtain rfl := hr.len hk hne
        have hr' : RowIs w (Ow X h γ) γ b o k' (xs.take n) := by simpa using hr.sub (off := 0) (len := n)
        have hl : (xs.take n).length = n := by simp; omega
        obtain ⟨us, h1, h2, h3⟩ := arr_olds (P := P) (cap := cap) hr' hkp hl
        refine ⟨rowVals w b o (n * k'), ?_, by have := hr'.rowV (n := n * k') (by rw [hl]; exact Nat.le_refl _); exact this, rowVals_length _ _ _ _, by have := hr'.one hkp; rw [hl] at this; exact this⟩
        refine run_firstCells_some w k' n _ xs.length cap _ (rowVals_length _ _ _ _) fun j u hj => ?_
        have hlt : j < (xs.take n).length * k' := by have := (List.getElem?_eq_some_iff.1 hj).1; rw [hl]; simpa [rowVals] using this
        obtain ⟨e, c, _, _, _, v, h4, _⟩ := hr'.vals hkp hlt
        rw [hl] at hlt
        rw [rowVals_get hlt h4] at hj; cases hj
        rw [addr_add]; exact h4
theorem acopy_sound (r : R X h γ w) {ts : Array TypeId} {ty : TypeId} {d x v : AV} {ud ux : Value} {h' : AHeap} (hd : V w (Ow X h γ) γ d ud) (hx : V w (Ow X h γ) γ x ux)
    (hts : 0 < ts.size) (e : acopy P (argT ts 0) h d x = some (v, h')) :
    ∃ y w', (Builtin.copy_ ts ty #[ud, ux]).run P w = .ok y w' ∧ Goes X h γ w h' γ w' ∧ V w' (Ow X h' γ) γ v y := by
  have h0 : ts[0]? = some (argT ts 0) := by unfold argT; simp [Array.getD, hts]
  generalize argT ts 0 = t at *
  unfold acopy at e
  split at e
  · cases e
  · rename_i ks bytes z hsl
    obtain ⟨el, i, zv, hu, hi, hzero, rfl, rfl, rfl, hk0, hb0, hzl, hok, hcells⟩ := tslice_all hsl
    split at e
    · cases e
    · rename_i xs hxs
      split at e
      · rename_i id off len g k
        split at e
        · rename_i k' es g' hid
          split at e
          · rename_i hcd; obtain ⟨rfl, rfl, hle, rfl, hho⟩ := hcd
            cases e
            cases hd with
            | arr id off len g k b o cap o' hg hcap ho hrow0 =>
              obtain ⟨hf, hr⟩ := r.arr hid hg
              obtain ⟨c, T, zz, hb, hsz⟩ := hrow0
              obtain ⟨hlen, us, hu1, hrow, hul, hone⟩ := afirst_sound (P := P) (n := min xs.length len) r hx hxs hho hk0 (Nat.min_le_left _ _)
              obtain ⟨m, hm1, rfl⟩ := hlen w
              have hmin : Nat.min xs.length len = min xs.length len := rfl
              have htake : xs.take len = xs.take (min xs.length len) := by
                rcases Nat.le_total xs.length len with hx' | hx'
                · rw [Nat.min_eq_left hx', List.take_of_length_le hx', List.take_of_length_le (Nat.le_refl _)]
                · rw [Nat.min_eq_right hx']
              rw [htake]
              generalize hn : min xs.length len = n at *
              have hnx : n ≤ xs.length := by omega
              have hnl : n ≤ len := by omega
              have hpos : us = [] ∨ o' = o + off * i.size := by
                rcases ho with h1 | h1
                · exact .inr h1
                · left; exact List.eq_nil_of_length_eq_zero (by rw [hul, show n = 0 by omega, Nat.zero_mul])
              have hnk : n * i.size ≤ cap * i.size := Nat.mul_le_mul_right _ (by omega)
              rw [Nat.add_mul] at hsz
              have hfitW : ∃ (c : Array Value) (T : TypeId) (z : Nat × Nat), w.heap[b]? = some (Obj.cells c T z) ∧ o + off * i.size + us.length ≤ c.size := ⟨c, T, zz, hb, by omega⟩
              have hst : (storeCells ⟨b, o', none⟩ us 0).run P w = .ok () (putW w b (o + off * i.size) us) := by
                rcases hpos with h1 | h1
                · subst h1; rfl
                · rw [h1]
                  exact run_storeCells P us w (o + off * i.size) 0 hf (fun c2 T2 z2 hh2 => by rw [hb] at hh2; cases hh2; omega) hone
              obtain ⟨hc1, hc2⟩ := putW_cell us hfitW
              have hog : ogen (hget h id) = some g := by rw [hid]; rfl
              have htl : (xs.take n).length = n := by simp; omega
              have h1l : (es.take off).length = off := by simp; omega
              have hgo : Goes X h γ w (h.set id (.arr i.size (es.take off ++ xs.take n ++ es.drop (off + n)) g)) γ (putW w b (o + off * i.size) us) := by
                refine write_goes r hog hg hfitW (o' := .arr i.size _ g) rfl (fun k2 es2 g2 e => by cases e; exact fun j q hq => r.gens _ _ _ _ _ _ hid hq) fun s => ?_
                have get : ∀ m e, (es.take off ++ xs.take n ++ es.drop (off + n))[m]? = some e → (es[m]? = some e ∧ (m < off ∨ off + n ≤ m)) ∨ (∃ q, q < n ∧ m = off + q ∧ (xs.take n)[q]? = some e) := by
                  intro m e he
                  by_cases h1 : m < off
                  · rw [List.append_assoc, List.getElem?_append_left (by omega), List.getElem?_take_of_lt h1] at he
                    exact .inl ⟨he, .inl h1⟩
                  · by_cases h2 : m < off + n
                    · rw [List.append_assoc, List.getElem?_append_right (by omega), List.getElem?_append_left (by omega), h1l] at he
                      exact .inr ⟨m - off, by omega, by omega, he⟩
                    · rw [List.getElem?_append_right (by simp; omega), List.getElem?_drop] at he
                      simp only [List.length_append, h1l, htl] at he
                      rw [show off + n + (m - (off + n)) = m by omega] at he
                      exact .inl ⟨he, .inr (by omega)⟩
                refine ⟨b, o, hg, putW_free _ hf (fun c2 T2 z2 hh2 => by rw [hb] at hh2; cases hh2; omega), fun m e he => ?_, fun m j e cc he hj => ?_⟩
                · rcases get m e he with ⟨h1, _⟩ | ⟨q, _, rfl, h1⟩
                  · exact hr.1 m e h1
                  · exact hrow.2.1 q e h1
                · rcases get m e he with ⟨h1, h2⟩ | ⟨q, hq, rfl, h1⟩
                  · obtain ⟨a1, v, a2, a3⟩ := hr.2 m j e cc h1 hj
                    have hjk : j < i.size := by have := (List.getElem?_eq_some_iff.1 hj).1; rw [(hr.1 m e h1).2] at this; exact this
                    refine ⟨a1, v, ?_, a3.mono s⟩
                    rw [hc1 _ ?_]; · exact a2
                    rw [hul]
                    rcases h2 with h2 | h2
                    · left; have := slot_lt h2 hjk; omega
                    · right; have := Nat.mul_le_mul_right i.size h2; rw [Nat.add_mul] at this; omega
                  · obtain ⟨a1, v, a2, a3⟩ := hrow.2.2 q j e cc h1 hj
                    have hlt := (Array.getElem?_eq_some_iff.1 a2).1
                    simp only [List.size_toArray] at hlt
                    refine ⟨a1, v, ?_, a3.mono s⟩
                    have := hc2 (q * i.size + j) hlt
                    rw [Nat.add_mul, show o + (off * i.size + q * i.size) + j = o + off * i.size + (q * i.size + j) by omega, this]
                    simpa using a2
              refine ⟨.int .i64 (n : Int), _, ?_, hgo, .val _⟩
              simp only [Builtin.copy_, h0, Sem.run_bind]
              simp [run_underlying hu, hm1, hmin, hn, sizeOf, typeInfo, hi, hu1, hst, goInt]
          · cases e
        · cases e
      · cases e
theorem alen_sound {ts : Array TypeId} {ty : TypeId} {x v : AV} {u : Value} (hts : 0 < ts.size) (hx : V w O γ x u) (e : alen P (argT ts 0) x = some v) : ∃ y, (Builtin.len_ ts ty #[u]).run P w = .ok y w ∧ V w O γ v y := by
  have h0 : ts[0]? = some (argT ts 0) := by unfold argT; simp [Array.getD, hts]
  generalize argT ts 0 = t at *
  unfold alen at e
  split at e
  · split at e
    · rename_i ht; cases hx.val_inv; cases e
      exact ⟨_, by simp [Builtin.len_, h0, run_underlying (strT_iff ht)]; rfl, .val _⟩
    · cases e
  · split at e
    · rename_i n el ht
      cases e
      have hu := tarr_iff ht
      refine ⟨goInt n, ?_, .val _⟩
      cases u <;> simp [Builtin.len_, h0, run_underlying hu]
    · rename_i ks b z ht hsl
      obtain ⟨el, hu, _, _⟩ := tslice_iff hsl
      cases hx with
      | slc0 full a0 => simp [slen] at e; subst e; exact ⟨_, by simp [Builtin.len_, h0, run_underlying hu]; rfl, .val _⟩
      | slc full es b o cap k vals _ _ _ _ _ => simp [slen] at e; subst e; exact ⟨_, by simp [Builtin.len_, h0, run_underlying hu]; rfl, .val _⟩
      | arr id off len g k b o cap o' _ _ _ _ => simp [slen] at e; subst e; exact ⟨_, by simp [Builtin.len_, h0, run_underlying hu]; rfl, .val _⟩
      | _ => simp [slen] at e
    · cases e
theorem afold_sound {f : AV → AV → Option AV} {g : Value → Value → Sem Value} (hfg : ∀ {a b c : AV} {x y : Value}, V w O γ a x → V w O γ b y → f a b = some c → ∃ z, (g x y).run P w = .ok z w ∧ V w O γ c z) :
    ∀ (l : List AV) (vs : List Value) {a c : AV} {x : Value}, V w O γ a x → l.length = vs.length → (∀ (i : Nat) (b : AV) (y : Value), l[i]? = some b → vs[i]? = some y → V w O γ b y) → afold f a l = some c →
      ∃ z, (vs.foldlM g x).run P w = .ok z w ∧ V w O γ c z := by
  intro l
  induction l with
  | nil =>
    intro vs a c x ha hl _ e
    cases vs with
    | nil => cases e; exact ⟨x, rfl, ha⟩
    | cons _ _ => simp at hl
  | cons b r ih =>
    intro vs a c x ha hl hv e
    cases vs with
    | nil => simp at hl
    | cons y t =>
      unfold afold at e
      split at e
      · rename_i z hz
        obtain ⟨z', h1, h2⟩ := hfg ha (hv 0 _ _ rfl rfl) hz
        obtain ⟨z2, h3, h4⟩ := ih t h2 (by simpa using hl) (fun i b y hb hy => hv (i + 1) b y (by simpa using hb) (by simpa using hy)) e
        exact ⟨z2, by simp only [List.foldlM_cons, Sem.run_bind, h1, Result.andThen_ok, h3], h4⟩
      · cases e
theorem amin2_sound {a b c : AV} {x y : Value} (ha : V w O γ a x) (hb : V w O γ b y) (e : amin2 a b = some c) : ∃ z, (Builtin.min2 x y).run P w = .ok z w ∧ V w O γ c z := by
  unfold amin2 at e
  split at e
  · cases ha.val_inv; cases hb.val_inv; cases e; exact ⟨_, rfl, .val _⟩
  · cases e
theorem amax2_sound {a b c : AV} {x y : Value} (ha : V w O γ a x) (hb : V w O γ b y) (e : amax2 a b = some c) : ∃ z, (Builtin.max2 x y).run P w = .ok z w ∧ V w O γ c z := by
  unfold amax2 at e
  split at e
  · cases ha.val_inv; cases hb.val_inv; cases e; exact ⟨_, rfl, .val _⟩
  · cases e
end
end Go.Ab
