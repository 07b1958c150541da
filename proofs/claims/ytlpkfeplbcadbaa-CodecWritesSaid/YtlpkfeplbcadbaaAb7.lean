/-
  Each operation of the abstract machine is one of the model's: slices, new memory, stores.
-/
import Derived.Test.YtlpkfeplbcadbaaAb6
import Derived.Lib.ConvBytes
import Derived.Laws.BytesString
import Derived.Deep.AppendSrc
import Derived.Laws.AppendOwn
namespace Go.Ab
section
variable {P : Program} {X O : Nat → Prop} {h : AHeap} {γ : Ghost} {w : World}

theorem tslice_all {t : TypeId} {k b : Nat} {z : AV} (e : tslice P t = some (k, b, z)) :
    ∃ el i zv, P.underlying t = some (.slice el) ∧ P.info? el = some i ∧ i.zero = some zv ∧ z = ofVal zv ∧ k = i.size ∧ b = i.bytes ∧ 0 < k ∧ 0 < b ∧ z.cells.length = k ∧ okVal z = true ∧ z.cells.all isCell = true := by
  unfold tslice at e
  split at e
  · rename_i el hel
    split at e
    · rename_i z' hz
      split at e
      · rename_i hc; cases e
        unfold tzero at hz
        split at hz
        · rename_i i hi
          cases hzero : i.zero with
          | none => rw [hzero] at hz; cases hz
          | some zv =>
            rw [hzero] at hz
            simp only [Option.map_some, Option.bind_some, zeroOk] at hz
            split at hz
            · rename_i hok
              cases hz
              simp only [Bool.and_eq_true] at hok
              have e1 : tsize P el = i.size := by simp [tsize, hi]
              have e2 : tbytes P el = i.bytes := by simp [tbytes, hi]
              exact ⟨el, i, zv, telem_iff hel, hi, hzero, rfl, e1, e2, hc.1, hc.2.1, hc.2.2, hok.1, hok.2⟩
            · cases hz
        · cases hz
      · cases e
    · cases e
  · cases e
theorem ofVal_V (v : Value) (hc : (ofVal v).cells.all isCell = true) : V w O γ (ofVal v) v := by
  unfold ofVal
  cases v with
  | agg cs =>
    refine .agg _ _ (by simp) (fun i c hi => ?_) (fun i c u hi hu => ?_)
    · exact List.all_eq_true.1 hc c (List.mem_of_getElem? hi)
    · simp only [List.getElem?_map] at hi
      rw [Array.getElem?_toList, hu] at hi
      cases hi
      exact V.ofCell u
  | _ => exact V.ofCell _

/-! ### Slice expressions -/
theorem abound_sound {d : Nat} {x : Option AV} {u : Option Value} {n : Nat} (hx : ∀ v, x = some v → ∃ y, u = some y ∧ V w O γ v y) (hn : x = none → u = none) (e : abound d x = some n) :
    (x = none ∧ u = none ∧ n = d) ∨ ∃ k, u = some (.int k (n : Int)) := by
  unfold abound at e
  split at e
  · cases e; exact .inl ⟨rfl, hn rfl, rfl⟩
  · rename_i v
    split at e
    · rename_i m hm
      obtain ⟨k, rfl⟩ := asInt_inv hm
      obtain ⟨y, rfl, hy⟩ := hx _ rfl
      cases hy.val_inv
      split at e
      · rename_i h0; cases e; exact .inr ⟨k, by rw [Int.toNat_of_nonneg h0]⟩
      · cases e
    · cases e
theorem run_sliceBound (k : IntKind) {n y : Nat} (hn : n ≤ y) (c : BoundsCode) (w : World) : (Instr.sliceBound (.int k n) y c).run P w = .ok n w := by
  simp [Instr.sliceBound, run_asIntOf, hn]
theorem run_sliceBounds {isS : Bool} {len cap l hh : Nat} {lo hi : Option Value} (hl : l ≤ hh) (hc : hh ≤ cap)
    (h1 : (lo = none ∧ l = 0) ∨ ∃ k, lo = some (.int k (l : Int))) (h2 : (hi = none ∧ hh = len) ∨ ∃ k, hi = some (.int k (hh : Int))) (w : World) :
    (Instr.sliceBounds isS len cap lo hi none).run P w = .ok (l, hh, cap) w := by
  rcases h1 with ⟨rfl, rfl⟩ | ⟨k1, rfl⟩ <;> rcases h2 with ⟨rfl, rfl⟩ | ⟨k2, rfl⟩ <;>
    simp [Instr.sliceBounds, run_sliceBound (P := P) _ hc, run_sliceBound (P := P) _ hl]
theorem run_sliceBounds3 {isS : Bool} {len cap l hh : Nat} {lo : Option Value} {k2 k3 : IntKind} (hl : l ≤ hh) (hc : hh ≤ cap)
    (h1 : (lo = none ∧ l = 0) ∨ ∃ k, lo = some (.int k (l : Int))) (w : World) :
    (Instr.sliceBounds isS len cap lo (some (.int k2 (hh : Int))) (some (.int k3 (hh : Int)))).run P w = .ok (l, hh, hh) w := by
  rcases h1 with ⟨rfl, rfl⟩ | ⟨k1, rfl⟩ <;>
    simp [Instr.sliceBounds, run_sliceBound (P := P) _ hc, run_sliceBound (P := P) _ hl, run_sliceBound (P := P) _ (Nat.le_refl hh)]
theorem take_drop_get {α : Type} {es : List α} {l n i : Nat} {e : α} (hi : ((es.drop l).take n)[i]? = some e) : i < n ∧ es[l + i]? = some e := by
  have hlt : i < n := by
    have := (List.getElem?_eq_some_iff.1 hi).1; simp at this; omega
  rw [List.getElem?_take_of_lt hlt, List.getElem?_drop] at hi
  exact ⟨hlt, hi⟩
theorem headOk_k {k kk : Nat} {es : List AV} (hk : ∀ (i : Nat) (e : AV), es[i]? = some e → okVal e = true ∧ e.cells.length = kk) (ho : headOk k es = true) (hne : es ≠ []) : kk = k := by
  cases es with
  | nil => exact absurd rfl hne
  | cons x r =>
    have := (hk 0 x rfl).2
    simp [headOk] at ho
    omega
/-- A piece of a slice that nobody writes. -/
theorem slc_piece {full full' : Bool} {es : List AV} {b o cap k l n cap' : Nat} {vals : Nat → Nat → Value}
    (hk : ∀ (i : Nat) (e : AV), es[i]? = some e → okVal e = true ∧ e.cells.length = k)
    (hc : ∀ (i j : Nat) (e c : AV), es[i]? = some e → e.cells[j]? = some c → isCell c = true ∧ ¬ O b ∧ w.cell? ⟨b, o + i * k + j, none⟩ = some (vals i j))
    (hv : ∀ (i j : Nat) (e c : AV), es[i]? = some e → e.cells[j]? = some c → V w O γ c (vals i j)) (o' : Nat) (ho : n = 0 ∨ o' = o + l * k) (hn : l + n ≤ es.length) (hcap' : n ≤ cap') (hf : full' = true → cap' = n) (_ : cap = cap) (_ : full = full) :
    V w O γ (.slc full' ((es.drop l).take n)) (.slice (some ⟨b, o', none⟩) n cap') := by
  have hlen : ((es.drop l).take n).length = n := by simp; omega
  have := V.slc (w := w) (O := O) (γ := γ) full' ((es.drop l).take n) b o' cap' k (fun i j => vals (l + i) j) (by rw [hlen]; exact hcap') (fun hf' => by rw [hlen]; exact hf hf')
    (fun i e hi => hk _ _ (take_drop_get hi).2)
    (fun i j e c hi hj => by
      obtain ⟨hlt, hi'⟩ := take_drop_get hi
      obtain ⟨h1, h2, h3⟩ := hc _ _ _ _ hi' hj
      refine ⟨h1, h2, ?_⟩
      rcases ho with h0 | rfl
      · omega
      · rw [← h3]; congr 2; rw [Nat.add_mul]; omega)
    (fun i j e c hi hj => hv _ _ _ _ (take_drop_get hi).2 hj)
  rw [hlen] at this
  exact this
theorem slice_case {lo hi : Option AV} {ulo uhi : Option Value} {d l hh : Nat}
    (hlo : ∀ v, lo = some v → ∃ y, ulo = some y ∧ V w O γ v y) (hlo' : lo = none → ulo = none) (e1 : abound 0 lo = some l)
    (hhi : ∀ v, hi = some v → ∃ y, uhi = some y ∧ V w O γ v y) (hhi' : hi = none → uhi = none) (e2 : abound d hi = some hh) :
    ((ulo = none ∧ l = 0) ∨ ∃ k, ulo = some (.int k (l : Int))) ∧ ((uhi = none ∧ hh = d) ∨ ∃ k, uhi = some (.int k (hh : Int))) ∧ (hi.isSome = true → ∃ k, uhi = some (.int k (hh : Int))) := by
  have a := abound_sound hlo hlo' e1
  have b := abound_sound hhi hhi' e2
  refine ⟨?_, ?_, fun hs => ?_⟩
  · rcases a with ⟨_, h1, h2⟩ | h1
    · exact .inl ⟨h1, h2⟩
    · exact .inr h1
  · rcases b with ⟨_, h1, h2⟩ | h1
    · exact .inl ⟨h1, h2⟩
    · exact .inr h1
  · rcases b with ⟨h1, _, _⟩ | h1
    · rw [h1] at hs; cases hs
    · exact h1
theorem add_eq (b o n : Nat) (c d : Nat) : (if c = d then some (⟨b, o, none⟩ : Addr) else (some (⟨b, o, none⟩ : Addr)).map (·.add n)) = some ⟨b, if c = d then o else o + n, none⟩ := by
  split <;> simp [addr_add]
theorem aslice_sound {t : TypeId} {a v : AV} {u : Value} {lo hi mx : Option AV} {ulo uhi umx : Option Value} (ha : V w O γ a u)
    (hlo : ∀ v, lo = some v → ∃ y, ulo = some y ∧ V w O γ v y) (hlo' : lo = none → ulo = none)
    (hhi : ∀ v, hi = some v → ∃ y, uhi = some y ∧ V w O γ v y) (hhi' : hi = none → uhi = none)
    (hmx : ∀ v, mx = some v → ∃ y, umx = some y ∧ V w O γ v y) (hmx' : mx = none → umx = none)
    (e : aslice P t a lo hi mx = some v) :
    ∃ x, (Instr.sliceAt t u ulo uhi umx).run P w = .ok x w ∧ V w O γ v x := by
  unfold aslice at e
  split at e
  · rename_i s
    cases ha.val_inv
    split at e
    · rename_i l hh hm e1 e2
      obtain rfl := hmx' rfl
      obtain ⟨h1, h2, _⟩ := slice_case hlo hlo' e1 hhi hhi' e2
      split at e
      · rename_i hc; obtain ⟨hst, hl, hh'⟩ := hc
        cases e
        refine ⟨_, ?_, .val _⟩
        simp [Instr.sliceAt, Instr.slice, run_underlying (strT_iff hst), run_sliceBounds (P := P) (isS := false) (len := s.size) (cap := s.size) hl hh' h1 h2]
      · cases e
    · cases e
  · rename_i full es
    split at e
    · rename_i ks by_ z_ l hh hsl e1 e2
      obtain rfl := hmx' rfl
      obtain ⟨h1, h2, _⟩ := slice_case hlo hlo' e1 hhi hhi' e2
      split at e
      · rename_i hc; obtain ⟨hl, hh', ho⟩ := hc
        cases e
        obtain ⟨el, hu, rfl, hs⟩ := tslice_iff hsl
        cases ha with
        | slc0 full a0 =>
          simp at hh'; subst hh'
          have : l = 0 := by omega
          subst this
          refine ⟨.slice a0 0 0, ?_, by simpa using V.slc0 full a0⟩
          simp [Instr.sliceAt, Instr.slice, run_underlying hu, run_sliceBounds (P := P) (isS := true) (len := 0) (cap := 0) hl (Nat.zero_le _) h1 h2, run_sizeOf_pos hs]
        | slc full es b o cap k vals hcap hfull hk hc hv =>
          refine ⟨.slice (some ⟨b, if cap = l then o else o + l * tsize P el, none⟩) (hh - l) (cap - l), ?_, ?_⟩
          · simp only [Instr.sliceAt, Instr.slice, Sem.run_bind, run_underlying hu, Result.andThen_ok, run_sliceBounds (P := P) (isS := true) (len := es.length) (cap := cap) hl (by omega) h1 h2, run_sizeOf_pos hs, Sem.run_pure, add_eq]
          · refine slc_piece (full := full) (cap := cap) hk hc hv _ ?_ (by omega) (by omega) (fun hf => ?_) rfl rfl
            · by_cases hcl : cap = l
              · left; omega
              · by_cases hne : es = []
                · left; subst hne; simp at hh'; omega
                · right; rw [if_neg hcl, headOk_k hk ho hne]
            · simp only [Bool.and_eq_true, beq_iff_eq] at hf
              have := hfull hf.1; omega
      · cases e
    · rename_i ks by_ z_ l hh m hsl e1 e2
      split at e
      · rename_i hc; obtain ⟨hl, hh', hm, ho, hsome⟩ := hc
        cases e
        obtain ⟨el, hu, rfl, hs⟩ := tslice_iff hsl
        obtain ⟨um, rfl, hum⟩ := hmx _ rfl
        obtain ⟨km, rfl⟩ := asInt_inv hm
        cases hum.val_inv
        obtain ⟨h1, _, h3⟩ := slice_case hlo hlo' e1 hhi hhi' e2
        obtain ⟨kh, rfl⟩ := h3 hsome
        cases ha with
        | slc0 full a0 =>
          simp at hh'; subst hh'
          have : l = 0 := by omega
          subst this
          refine ⟨.slice a0 0 0, ?_, by simpa using V.slc0 true a0⟩
          simp only [Instr.sliceAt, Instr.slice, Sem.run_bind, run_underlying hu, Result.andThen_ok, run_sliceBounds3 (P := P) (isS := true) (len := 0) (cap := 0) hl (Nat.zero_le _) h1, run_sizeOf_pos hs, Sem.run_pure]
          simp
        | slc full es b o cap k vals hcap hfull hk hc hv =>
          refine ⟨.slice (some ⟨b, if hh = l then o else o + l * tsize P el, none⟩) (hh - l) (hh - l), ?_, ?_⟩
          · simp only [Instr.sliceAt, Instr.slice, Sem.run_bind, run_underlying hu, Result.andThen_ok, run_sliceBounds3 (P := P) (isS := true) (len := es.length) (cap := cap) hl (by omega) h1, run_sizeOf_pos hs, Sem.run_pure, add_eq]
          · refine slc_piece (full := full) (cap := cap) hk hc hv _ ?_ (by omega) (by omega) (fun hf => rfl) rfl rfl
            by_cases hcl : hh = l
            · left; omega
            · by_cases hne : es = []
              · left; subst hne; simp at hh'; omega
              · right; rw [if_neg hcl, headOk_k hk ho hne]
      · cases e
    · cases e
  · rename_i id off len g k
    split at e
    · rename_i ks by_ z_ l hh hsl e1 e2
      obtain rfl := hmx' rfl
      obtain ⟨h1, h2, _⟩ := slice_case hlo hlo' e1 hhi hhi' e2
      split at e
      · rename_i hc; obtain ⟨hl, hh', rfl⟩ := hc
        cases e
        obtain ⟨el, hu, rfl, hs⟩ := tslice_iff hsl
        cases ha with
        | arr id off len g k b o cap o' hg hcap ho hrow =>
          obtain ⟨c, T, z, hh2, hsz⟩ := hrow
          refine ⟨.slice (some ⟨b, if cap = l then o' else o' + l * tsize P el, none⟩) (hh - l) (cap - l), ?_, ?_⟩
          · simp only [Instr.sliceAt, Instr.slice, Sem.run_bind, run_underlying hu, Result.andThen_ok, run_sliceBounds (P := P) (isS := true) (len := len) (cap := cap) hl (by omega) h1 h2, run_sizeOf_pos hs, Sem.run_pure, add_eq]
          · refine .arr _ _ _ _ _ b o _ _ hg (by omega) ?_ ⟨c, T, z, hh2, ?_⟩
            · by_cases hcl : cap = l
              · right; omega
              · left
                rw [if_neg hcl]
                rcases ho with rfl | h0
                · rw [Nat.add_mul]; omega
                · omega
            · rw [show off + l + (cap - l) = off + cap by omega]; exact hsz
      · cases e
    · rename_i ks l hh m hsl e1 e2
      split at e
      · rename_i hc; obtain ⟨rfl, hh', hm, hsome⟩ := hc
        cases e
        obtain ⟨el, hu, _, hs⟩ := tslice_iff (z := ks.2.2) (b := ks.2.1) (k := ks.1) hsl
        obtain ⟨um, rfl, hum⟩ := hmx _ rfl
        obtain ⟨km, rfl⟩ := asInt_inv hm
        cases hum.val_inv
        obtain ⟨h1, _, h3⟩ := slice_case hlo hlo' e1 hhi hhi' e2
        obtain ⟨kh, rfl⟩ := h3 hsome
        cases ha with
        | arr id off len g k b o cap o' hg hcap ho hrow =>
          refine ⟨.slice (some ⟨b, o', none⟩) (l - l) (l - l), ?_, ?_⟩
          · simp only [Instr.sliceAt, Instr.slice, Sem.run_bind, run_underlying hu, Result.andThen_ok, run_sliceBounds3 (P := P) (isS := true) (len := len) (cap := cap) (Nat.le_refl l) (by omega) h1, run_sizeOf_pos hs, Sem.run_pure, if_true]
          · rw [Nat.sub_self]
            exact .slc true [] b o' 0 0 (fun _ _ => undef) (Nat.le_refl _) (fun _ => rfl) (fun i e hi => by simp at hi) (fun i j e c hi => by simp at hi) (fun i j e c hi => by simp at hi)
      · cases e
    · cases e
  · cases e
theorem asliceArr_sound (r : R X h γ w) {t : TypeId} {id off : Nat} {v : AV} {u : Value} {lo hi mx : Option AV} {ulo uhi umx : Option Value} (ha : V w (Ow X h γ) γ (.ptr id off) u)
    (hlo : ∀ v, lo = some v → ∃ y, ulo = some y ∧ V w (Ow X h γ) γ v y) (hlo' : lo = none → ulo = none)
    (hhi : ∀ v, hi = some v → ∃ y, uhi = some y ∧ V w (Ow X h γ) γ v y) (hhi' : hi = none → uhi = none)
    (hmx' : mx = none → umx = none)
    (e : asliceArr P t h id off lo hi mx = some v) :
    ∃ x, (Instr.sliceAt t u ulo uhi umx).run P w = .ok x w ∧ V w (Ow X h γ) γ v x := by
  unfold asliceArr at e
  split at e
  · rename_i n el cs l hta hid e1
    split at e
    · rename_i hh e2
      obtain rfl := hmx' rfl
      obtain ⟨h1, h2, _⟩ := slice_case hlo hlo' e1 hhi hhi' e2
      split at e
      · rename_i hc; obtain ⟨hl, hh', hn0, hs, hlen⟩ := hc
        cases e
        cases ha with
        | ptr id off b o hg =>
          obtain ⟨⟨c, T, z, hb, hf⟩, hcells⟩ := r.vars hid hg
          have hu := tarr_iff hta
          have hsz : o + (off + n) ≤ c.size ∨ off + n = 0 := by
            rcases Nat.eq_zero_or_pos (off + n) with h0 | hp
            · exact .inr h0
            · left
              obtain ⟨_, v, hv, _⟩ := hcells (off + n - 1) cs[off + n - 1] (by simp)
              rw [cell_iff hb] at hv
              have := (Array.getElem?_eq_some_iff.1 hv).1
              omega
          refine ⟨.slice (some ⟨b, if n = l then o + off else o + off + l * 1, none⟩) (hh - l) (n - l), ?_, ?_⟩
          · have hsz1 := run_sizeOf_pos (P := P) (t := el) (by omega) w
            rw [hs] at hsz1
            simp only [Instr.sliceAt, Sem.run_bind, run_underlying hu, Result.andThen_ok, Instr.sureAddr, Sem.run_pure, run_sliceBounds (P := P) (isS := false) (len := n) (cap := n) hl hh' h1 h2, hsz1]
            congr 3
            split <;> simp [addr_add]
          · by_cases hz : off + n = 0
            · omega
            · refine .arr _ _ _ _ _ b o _ _ hg (by omega) ?_ ⟨c, T, z, hb, ?_⟩
              · by_cases hcl : n = l
                · right; omega
                · left; rw [if_neg hcl]; omega
              · rcases hsz with h | h
                · rw [show off + l + (n - l) = off + n by omega, Nat.mul_one]; exact h
                · omega
      · cases e
    · cases e
  · cases e
theorem asliceAt_sound (r : R X h γ w) {t : TypeId} {a v : AV} {u : Value} {lo hi mx : Option AV} {ulo uhi umx : Option Value} (ha : V w (Ow X h γ) γ a u)
    (hlo : ∀ v, lo = some v → ∃ y, ulo = some y ∧ V w (Ow X h γ) γ v y) (hlo' : lo = none → ulo = none)
    (hhi : ∀ v, hi = some v → ∃ y, uhi = some y ∧ V w (Ow X h γ) γ v y) (hhi' : hi = none → uhi = none)
    (hmx : ∀ v, mx = some v → ∃ y, umx = some y ∧ V w (Ow X h γ) γ v y) (hmx' : mx = none → umx = none)
    (e : asliceAt P t h a lo hi mx = some v) :
    ∃ x, (Instr.sliceAt t u ulo uhi umx).run P w = .ok x w ∧ V w (Ow X h γ) γ v x := by
  unfold asliceAt at e
  split at e
  · exact asliceArr_sound r ha hlo hlo' hhi hhi' hmx' e
  · exact aslice_sound ha hlo hlo' hhi hhi' hmx hmx' e
end
end Go.Ab
