/- Arguments as they are read. -/
import Derived.Test.YteheedbhmggcgaaVyI
import Derived.Carry
import Derived.Deep.Slices
import Derived.SizedLaws
import Derived.OpenShut
import Derived.JoinedCond
namespace Go.Vy
open Go Go.RowKit Go.ChangeShapes Go.WideShapes
set_option linter.unusedVariables false
section
variable {T : Type} {enc : TypeId × Value → T} {P : Program}
theorem Ext.below {W W' : World} (hs : Same W W') (he : Ext W.heap W'.heap) : Below W.heap.size W W' := ⟨hs.os, hs.tape, hs.output, he.size, fun k hk => he.blk k hk⟩
theorem trodAll_ext (hl : laidOutB P = true) {W W' : World} (hb : Below W.heap.size W W') {sp : Nat → Bool} : ∀ {ts : List TypeId} {vs : List Value} {ds : List (DataW T)} {ps : List MemPlace}, (∀ t ∈ ts, P.readableRec t = true ∧ t < P.types.size) →
    DataW.TrodAll enc P W 0 (fun _ => true) true ts vs ds ps → (∀ x ∈ ps, x.block < W.heap.size) → (∀ x ∈ ps, sp x.block = true) → DataW.TrodAll enc P W' 0 sp true ts vs ds ps
  | [], vs, ds, ps, _, h, _, _ => by
    obtain ⟨rfl, rfl, rfl⟩ := trodAll_nil h
    exact h
  | t :: ts, vs, ds, ps, hr, h, hlt, hsp => by
    obtain ⟨v, vs', d, ds', p, q, rfl, rfl, rfl, h1, h2⟩ := trodAll_cons h
    refine ⟨p, q, ?_, trodAll_ext hl hb (fun t ht => hr t (by simp [ht])) h2 (fun x hx => hlt x (by simp [hx])) (fun x hx => hsp x (by simp [hx])), rfl⟩
    exact WideElems.Trod_stays hl (hr t (by simp)).1 (hr t (by simp)).2 h1 (fun x hx => hb.same (hlt x (by simp [hx]))) (fun x hx => hsp x (by simp [hx]))
theorem post_same {f : Func} {s : ChangeSpec} {apart fresh handsOn again : Bool} {W W' : World} {args : Array Value} {v : Value} {ds gs : List (DataW T)} {before pa pv : List MemPlace}
    (hW : DataW.Whole enc P f.params.toList s.vars apart W args.toList ds gs before)
    (hres : ∀ (b : Nat) (sp : Nat → Bool) (hd : Bool), DataW.TrodAll enc P W' b sp hd f.resultTypes.toList (v.resultList f.resultTypes.size) (s.fn T (ds ++ gs)).results [])
    (hargs : ∀ sp : Nat → Bool, (∀ p ∈ before, sp p.block = true) → DataW.TrodAll enc P W' 0 sp true f.params.toList args.toList (s.fn T (ds ++ gs)).args pa)
    (hvars : ∀ sp : Nat → Bool, (∀ p ∈ before, sp p.block = true) → DataW.TrodVars enc P W' sp s.vars (s.fn T (ds ++ gs)).vars pv)
    (hps : before = pa ++ pv) (hk : W.keptBut W' (· ∈ before)) (hfz : ∀ a : Addr, a.block < W.heap.size → W'.frozen? a = W.frozen? a)
    (hok : ∀ (j : Nat) (t : TypeId) (r : Value), f.resultTypes[j]? = some t → (v.resultList f.resultTypes.size)[j]? = some r → Value.okWide P W' .any 0 t r) :
    s.post enc P f apart fresh handsOn again W args v W' := by
  have hlt := hW.lt
  have hold : ∀ p ∈ before, (fun b => decide (b < W.heap.size)) p.block = true := fun p hp => by simpa using hlt p hp
  refine ⟨ds, gs, before, [], pa, pv, hW, hres _ _ _, hargs _ hold, hvars _ hold, World.keptBut_mono (fun p hp => ⟨hp, ?_⟩) hk, fun _ => ?_⟩
  · rw [hps, List.mem_append] at hp
    exact Or.inr hp
  · obtain ⟨_, _, _, _, _, hz, hn⟩ := hW
    refine ⟨hok, _, _, ([] ++ pa) ++ pv, ⟨[] ++ pa, pv, trodAll_append (hargs _ (fun _ _ => rfl)) (hres _ _ _), hvars _ (fun _ _ => rfl), rfl, ?_, ?_⟩, ?_⟩
    · intro b off hp
      have hp' : MemPlace.cell b off ∈ before := by rw [hps]; simpa using hp
      rw [hfz _ (hlt _ hp')]
      exact hz b off hp'
    · intro ha
      have := hn ha
      rw [hps] at this
      simpa using this
    · intro p hp _
      rw [hps]
      simpa using hp
theorem post_true {f : Func} {s : ChangeSpec} {apart fresh handsOn again : Bool} {W W' : World} {args : Array Value} {ds gs : List (DataW T)} {before : List MemPlace} {tb : TypeId}
    (hl : laidOutB P = true) (hr : ∀ t ∈ f.params.toList, P.readableRec t = true ∧ t < P.types.size) (hv : s.vars = []) (hres : f.resultTypes = #[tb]) (htb : P.underlying tb = some .bool)
    (hW : DataW.Whole enc P f.params.toList s.vars apart W args.toList ds gs before) (hfn : s.fn T (ds ++ gs) = { results := [.lit (.bool true)], args := ds }) (hs : Same W W') (he : Ext W.heap W'.heap) :
    s.post enc P f apart fresh handsOn again W args (.bool true) W' := by
  have hB := Ext.below hs he
  have hlt := hW.lt
  have hW' := hW
  obtain ⟨p, q, hA, hV, rfl, hfz, hnd⟩ := hW'
  rw [hv] at hV
  have hV' := hV
  cases gs with
  | cons g gs => exact hV.elim
  | nil =>
    have hq : q = [] := hV
    subst hq
    refine post_same (pa := p) (pv := []) hW ?_ ?_ ?_ rfl (hB.frame _) (fun a ha => hB.frozen ha) ?_
    · intro b sp hd
      rw [hfn, hres]
      exact trodAll_cons_mk (p := []) (p' := []) (shut_bool htb true) trodAll_mk0
    · intro sp hsp
      rw [hfn]
      exact trodAll_ext hl hB hr hA (fun x hx => hlt x (by simp [hx])) (fun x hx => hsp x (by simp [hx]))
    · intro sp hsp
      rw [hfn, hv]; exact rfl
    · exact ok_one hres rfl (okWide_bool_mk htb true)
/-- All that a reading holds is of a size that a machine can hold. -/
def Fit (P : Program) (t : TypeId) (d : DataW T) : Prop := ∀ w ∈ d.weights P t, w ≤ reachBytes
theorem cell_none {w : World} {a : Addr} {v : Value} (h : w.cell? a = some v) : a.spot = none := by
  obtain ⟨b, o, s⟩ := a
  cases s with
  | none => rfl
  | some s =>
    exfalso
    unfold World.cell? at h
    split at h
    · simp at h
    · simp at h
theorem weightsAll_mem {e : TypeId} {d : DataW T} : ∀ {l : List (DataW T)}, d ∈ l → ∀ w ∈ d.weights P e, w ∈ DataW.weightsAll P e l
  | [], h, _, _ => by cases h
  | x :: l, h, w, hw => by
    rw [DataW.weightsAll, List.mem_append]
    rcases List.mem_cons.1 h with rfl | h
    · exact .inl hw
    · exact .inr (weightsAll_mem h w hw)
theorem ldn_of_cells {W : World} {b o sz : Nat} {cs : List Value} (hsz : 0 < sz) (h : W.cells? 0 ⟨b, o, none⟩ sz = some cs) : ldn W.heap sz ⟨b, o, none⟩ = some cs := by
  obtain ⟨_, hl, hc⟩ := World.cells?_some h
  unfold ldn
  simp only
  have key : ∀ i, i < sz → ∃ c E r, W.heap[b]? = some (.cells c E r) ∧ c[o + i]? = cs[i]? := by
    intro i hi
    have := hc i hi
    rw [add_none] at this
    unfold World.cell? at this
    split at this
    · rename_i c E r hb
      exact ⟨c, E, r, hb, by simpa using this⟩
    · rw [List.getElem?_eq_getElem (by omega)] at this; cases this
  obtain ⟨c, E, r, hb, _⟩ := key 0 hsz
  have hk : ∀ i, i < sz → c[o + i]? = cs[i]? := by
    intro i hi
    obtain ⟨c', E', r', hb', h2⟩ := key i hi
    rw [hb] at hb'
    injection hb' with hb'; injection hb' with h1 _ _; subst h1
    exact h2
  simp only [hb]
  have hlast := hk (sz - 1) (by omega)
  rw [List.getElem?_eq_getElem (show sz - 1 < cs.length by omega)] at hlast
  have hle := (Array.getElem?_eq_some_iff.1 hlast).1
  rw [if_pos (by omega)]
  congr 1
  apply List.ext_getElem?
  intro i
  rw [List.getElem?_take]
  split
  · rename_i hi
    rw [List.getElem?_drop, Array.getElem?_toList]
    exact hk i hi
  · rw [List.getElem?_eq_none (by omega)]
theorem open_sl {W : World} {t e : TypeId} {sz fuel : Nat} {held : Bool} {sp : Nat → Bool} {v : Value} {x : DataW T × List MemPlace} (ht : P.underlying t = some (.slice e)) (hc : P.cellsOf e = sz) (hsz : 0 < sz)
    (h : DataW.trod enc P W 0 sp held fuel t [v] = some x) (hf : Fit P t x.1) :
    ∃ (es : List (List Value)) (D : Nat → DataW T × List MemPlace) (n : Nat), Rde W.heap v sz es ∧ es.length * P.bytesOf e ≤ reachBytes ∧ ∀ i (hi : i < es.length), DataW.trod enc P W 0 sp held n e es[i] = some (D i) ∧ Fit P e (D i).1 := by
  rcases Deep.open_slice ht h with ⟨h1, h2⟩ | ⟨a, len, cap, m, n, D, Pl, h1, hb, hl, hm, hmm, h2, hx⟩
  · injection h1 with h1 _
    subst h1
    exact ⟨[], fun _ => x, 0, Rde.nil _ _, by simp, fun i hi => by simp at hi⟩
  · injection h1 with h1 _
    subst h1
    have hle : len ≤ m := by rw [hmm]; split <;> omega
    obtain ⟨cs, hcs⟩ := Deep.choose_lt (n := len) (p := fun i (c : List Value) => W.cells? 0 (a.add (i * P.cellsOf e)) (P.cellsOf e) = some c ∧ DataW.trod enc P W 0 sp held n e c = some (D i, Pl i)) (fun i hi => hx i (by omega))
    have hw : ∀ w ∈ (DataW.slice ((List.range len).map D) ((List.range (m - len)).map fun j => D (len + j))).weights P t, w ≤ reachBytes := by
      unfold Fit at hf; rw [h2] at hf; exact hf
    simp only [DataW.weights, ht, List.mem_cons, List.mem_append] at hw
    have hspot : 0 < len → a.spot = none := by
      intro h0
      obtain ⟨g1, g2⟩ := hcs 0 h0
      rw [hc] at g1
      obtain ⟨_, hlen, hcell⟩ := World.cells?_some g1
      have h0 := hcell 0 hsz
      rw [List.getElem?_eq_getElem (by omega)] at h0
      have e0 : (a.add (0 * sz)).add 0 = a := by simp [Addr.add]
      rw [e0] at h0
      exact cell_none h0
    refine ⟨(List.range len).map cs, fun i => (D i, Pl i), n, ⟨some a, cap, by simp, by simpa using hl, fun i hi => ?_⟩, ?_, fun i hi => ?_⟩
    · have hi' : i < len := by simpa using hi
      obtain ⟨g1, g2⟩ := hcs i hi'
      rw [hc] at g1
      have hn := hspot (by omega)
      obtain ⟨b, o, s⟩ := a
      simp only at hn
      subst hn
      refine ⟨b, o, rfl, ?_⟩
      rw [add_none] at g1
      have := ldn_of_cells hsz g1
      rw [this]; simp
    · have := hw _ (.inl rfl)
      simp only [List.length_map, List.length_range] at this ⊢
      exact Nat.le_trans (Nat.mul_le_mul_right _ (by omega)) this
    · have hi' : i < len := by simpa using hi
      obtain ⟨g1, g2⟩ := hcs i hi'
      refine ⟨by simpa using g2, fun w hw' => hw w (.inr (.inl (weightsAll_mem (d := D i) ?_ w hw')))⟩
      exact List.mem_map.2 ⟨i, List.mem_range.2 hi', rfl⟩
/-- A struct's fields. -/
theorem weightsEach_mem : ∀ {ts : List TypeId} {ds : List (DataW T)} {i : Nat} {t : TypeId} {d : DataW T}, ts[i]? = some t → ds[i]? = some d → ∀ w ∈ d.weights P t, w ∈ DataW.weightsEach P ts ds
  | [], _, _, _, _, h, _, _, _ => by simp at h
  | _ :: _, [], _, _, _, _, h, _, _ => by simp at h
  | t :: ts, d :: ds, 0, _, _, h1, h2, w, hw => by
    simp at h1 h2; subst h1; subst h2
    rw [DataW.weightsEach, List.mem_append]; exact .inl hw
  | t :: ts, d :: ds, i + 1, _, _, h1, h2, w, hw => by
    rw [DataW.weightsEach, List.mem_append]
    exact .inr (weightsEach_mem (by simpa using h1) (by simpa using h2) w hw)
theorem open_st {W : World} {t : TypeId} {fuel : Nat} {held : Bool} {sp : Nat → Bool} {fs : Array Field} {cs : List Value} {x : DataW T × List MemPlace} (ht : P.underlying t = some (.struct fs)) (h : DataW.trod enc P W 0 sp held fuel t cs = some x) (hf : Fit P t x.1) :
    cs.length = P.cellsOf t ∧ ∃ (n : Nat) (ys : List (DataW T × List MemPlace)), ∀ (i : Nat) (f : Field), fs[i]? = some f → ∃ y, DataW.trod enc P W 0 sp held n f.type ((cs.drop f.offset).take (P.cellsOf f.type)) = some y ∧ Fit P f.type y.1 := by
  obtain ⟨xs, n, hn, hx, hl, hxl, hall⟩ := DataW.trod_struct ht h
  refine ⟨hl, n, xs, fun i f hi => ?_⟩
  have hil : i < xs.length := by rw [hxl]; have := (Array.getElem?_eq_some_iff.1 hi).1; omega
  have := hall i f hi
  rw [List.getElem?_eq_getElem hil] at this
  refine ⟨_, this, fun w hw => ?_⟩
  rw [hx] at hf
  refine hf w ?_
  simp only [DataW.weights, ht]
  refine weightsEach_mem (i := i) (t := f.type) (d := xs[i].1) ?_ ?_ w hw
  · simp [hi]
  · simp [hil]
theorem args_fit {ts : List TypeId} {ds : List (DataW T)} (h : (DataW.weightsEach P ts ds).all (· ≤ reachBytes) = true) {i : Nat} {t : TypeId} {d : DataW T} (h1 : ts[i]? = some t) (h2 : ds[i]? = some d) : Fit P t d := by
  intro w hw
  have := List.all_eq_true.1 h w (weightsEach_mem h1 h2 w hw)
  simpa using this
/-- A slice of numbers. -/
theorem open_is {W : World} {t e : TypeId} {fuel : Nat} {held : Bool} {sp : Nat → Bool} {v : Value} {x : DataW T × List MemPlace} (ht : P.underlying t = some (.slice e)) (he : P.underlying e = some (.int .i64)) (hc : P.cellsOf e = 1) (hb : P.bytesOf e = 8)
    (h : DataW.trod enc P W 0 sp held fuel t [v] = some x) (hf : Fit P t x.1) : ∃ xs : List Int, RdI W.heap v xs ∧ xs.length ≤ 2 ^ 44 ∧ ∀ k ∈ xs, -9223372036854775808 ≤ k ∧ k ≤ 9223372036854775807 := by
  obtain ⟨es, D, n, h1, h2, h3⟩ := open_sl ht hc (by omega) h hf
  have hint : ∀ i, (hi : i < es.length) → ∃ k : Int, es[i] = [iv k] ∧ -9223372036854775808 ≤ k ∧ k ≤ 9223372036854775807 := by
    intro i hi
    obtain ⟨k, h4, h5, h6⟩ := DataW.trod_int he (h3 i hi).1
    refine ⟨k, h4, ?_⟩
    simp only [Lit.wf, Bool.and_eq_true, decide_eq_true_eq] at h6
    exact ⟨by simpa [IntKind.min, IntKind.signed, IntKind.bits] using h6.1, by simpa [IntKind.max, IntKind.signed, IntKind.bits] using h6.2⟩
  refine ⟨es.map fun l => match l with | [.int _ k] => k | _ => 0, ?_, ?_, ?_⟩
  · obtain ⟨xs, h4, h5⟩ := h1.rd
    have : xs = (es.map fun l => match l with | [.int _ k] => k | _ => 0).map iv := by
      apply List.ext_getElem
      · rw [h4]; simp
      · intro i hi1 hi2
        have hi : i < es.length := by rw [h4]; simpa using hi1
        obtain ⟨k, h6, _⟩ := hint i hi
        have h7 : es[i] = [xs[i]] := by simp [h4]
        rw [h6] at h7
        injection h7 with h7
        simp only [List.getElem_map, h6]
        exact h7.symm
    unfold RdI
    rw [← this]; exact h5
  · have : reachBytes = 140737488351232 := rfl
    rw [hb] at h2
    simp; omega
  · intro k hk
    obtain ⟨l, hl, rfl⟩ := List.mem_map.1 hk
    obtain ⟨i, hi, rfl⟩ := List.getElem_of_mem hl
    obtain ⟨k, h6, h7⟩ := hint i hi
    rw [h6]; exact h7
theorem okWide_sl {w : World} {r : Go.Reach} {b : Nat} {t e : TypeId} {v : Value} (ht : P.underlying t = some (.slice e)) (h : Value.okWide P w r b t v) : v.cells.toList = [v] := by
  unfold Value.okWide at h
  rw [ht] at h
  unfold Cell.okWide at h
  rw [ht] at h
  cases v <;> first | rfl | (simp [Cell.ok, ht] at h)
theorem okWide_st {w : World} {r : Go.Reach} {b : Nat} {t : TypeId} {fs : Array Field} {v : Value} (ht : P.underlying t = some (.struct fs)) (h : Value.okWide P w r b t v) : ∃ cs : List Value, v = .agg cs.toArray := by
  unfold Value.okWide at h
  rw [ht] at h
  obtain ⟨cs, rfl, _⟩ := h
  exact ⟨cs.toList, by simp⟩
theorem okWide_ar {w : World} {r : Go.Reach} {b n : Nat} {t e : TypeId} {v : Value} (ht : P.underlying t = some (.array n e)) (h : Value.okWide P w r b t v) : ∃ cs : List Value, v = .agg cs.toArray := by
  unfold Value.okWide at h
  rw [ht] at h
  obtain ⟨cs, rfl, _⟩ := h
  exact ⟨cs.toList, by simp⟩
end
end Go.Vy
