/- Regions whose order is drawn, with operations that make memory: what each operation yields is told by itself, stable as the heap grows. -/
import Derived.Test.YteheedbhmggcgaaVyD
namespace Go.Vy
open Go Go.RowKit
set_option linter.unusedVariables false
set_option linter.unusedSimpArgs false

/-- What an operation waits for. -/
def depsOf (o : Oper) : List Nat := o.after.toList.filterMap fun e => if Region.binds .any e then some e.on else none
/-- All that each operation waits for, directly and through others. -/
def befs : List Oper → List (List Nat) → List (List Nat)
  | [], acc => acc
  | o :: r, acc => befs r (acc ++ [(depsOf o).foldl (fun s j => j :: (acc.getD j [] ++ s)) []])
/-- The first n may come in many orders; behind them each waits for all ahead of it. Slots are written once. -/
def parOk (l : List Oper) (n : Nat) : Bool :=
  decide (n ≤ l.length) &&
  ((List.range l.length).all fun i => match l[i]? with | some o => (depsOf o).all fun j => decide (j < i) | none => false) &&
  ((List.range l.length).all fun t => decide (t < n) || ((List.range t).all fun j => ((befs l []).getD t []).contains j)) &&
  ((List.range n).all fun i => (List.range n).all fun j => decide (i = j) || (match l[i]?, l[j]? with | some a, some b => (match a.dst, b.dst with | some x, some y => decide (x ≠ y) | _, _ => true) | _, _ => false))
abbrev Fact := Nat → Value → Nat → Nat → Hp → Prop
def dstAt (l : List Oper) (j : Nat) : Option Tmp := (l[j]?).bind (·.dst)
def factAt (l : List Oper) (Φ : Fact) (j : Nat) (f : Nat → Value) (lo hi : Nat) (H : Hp) : Prop :=
  match dstAt l j with | some d => Φ j (f d) lo hi H | none => True
def DepFacts (l : List Oper) (Φ : Fact) (f : Nat → Value) (H : Hp) : List Nat → Prop
  | [] => True
  | j :: r => (∃ lo hi, factAt l Φ j f lo hi H) ∧ DepFacts l Φ f H r
/-- A slot that the first n do not write. -/
abbrev outside (l : List Oper) (n t : Nat) : Prop := ∀ j, j < n → dstAt l j ≠ some t
/-- How memory may have changed once the operation e, the only one that changes what was there, has come. -/
structure Pre (S : Hp → Hp → Prop) : Prop where
  size : ∀ H H', S H H' → H.size ≤ H'.size
  trans : ∀ H H' H'', S H H' → S H' H'' → S H H''
  ext : ∀ H H', Ext H H' → S H H'
theorem Pre.base : Pre Ext := ⟨fun _ _ h => h.size, fun _ _ _ h k => h.trans k, fun _ _ h => h⟩
def ParStep (P : Program) (l : List Oper) (n : Nat) (e : Nat) (S : Hp → Hp → Prop) (Φ : Fact) (f : Nat → Value) (H : Hp) (i : Nat) (o : Oper) : Prop :=
  ∀ f1 H1, (if i = e then Ext H H1 else S H H1) → (∀ t, outside l n t → f1 t = f t) → DepFacts l Φ f1 H1 (depsOf o) →
    if wantB l f1 o.guard = true then Bev P o.op f1 H1 (fun v H2 => (if i = e then S H1 H2 else Ext H1 H2) ∧ Φ i v H1.size H2.size H2) else Φ i undef H1.size H1.size H1
def ParSteps (P : Program) (l : List Oper) (n : Nat) (e : Nat) (S : Hp → Hp → Prop) (Φ : Fact) (f : Nat → Value) (H : Hp) : List Oper → Nat → Prop
  | [], _ => True
  | o :: r, i => ParStep P l n e S Φ f H i o ∧ ParSteps P l n e S Φ f H r (i + 1)

section
variable {P : Program} {Q : Exit → (Nat → Value) → Hp → Prop} {f : Nat → Value} {H : Hp} {l : List Oper} {n : Nat} {Φ : Fact} {e : Nat} {S : Hp → Hp → Prop}
theorem ParSteps.get : ∀ (r : List Oper) (k : Nat), ParSteps P l n e S Φ f H r k → ∀ i o, r[i]? = some o → ParStep P l n e S Φ f H (k + i) o
  | [], _, _, i, o, h => by simp at h
  | x :: r, k, hp, 0, o, h => by simp at h; subst h; exact hp.1
  | x :: r, k, hp, i + 1, o, h => by
    have := ParSteps.get r (k + 1) hp.2 i o (by simpa using h)
    rw [show k + (i + 1) = k + 1 + i by omega]; exact this
theorem DepFacts.of {f1 : Nat → Value} {H1 : Hp} : ∀ (js : List Nat), (∀ j ∈ js, ∃ lo hi, factAt l Φ j f1 lo hi H1) → DepFacts l Φ f1 H1 js
  | [], _ => trivial
  | j :: r, h => ⟨h j (by simp), DepFacts.of r fun k hk => h k (by simp [hk])⟩
theorem befs_length : ∀ (r : List Oper) (acc : List (List Nat)), (befs r acc).length = acc.length + r.length
  | [], acc => by simp [befs]
  | o :: r, acc => by rw [befs, befs_length]; simp; omega
/-- What is in an operation's list is reached by waiting. -/
inductive Reach (l : List Oper) : Nat → Nat → Prop
  | one {t j : Nat} {o : Oper} : l[t]? = some o → j ∈ depsOf o → Reach l t j
  | more {t j k : Nat} {o : Oper} : l[t]? = some o → k ∈ depsOf o → Reach l k j → Reach l t j
theorem foldl_mem {acc : List (List Nat)} : ∀ (js s : List Nat) (x : Nat), x ∈ js.foldl (fun s j => j :: (acc.getD j [] ++ s)) s → x ∈ s ∨ ∃ j ∈ js, x = j ∨ x ∈ acc.getD j []
  | [], s, x, h => .inl h
  | j :: js, s, x, h => by
    rcases foldl_mem js _ x h with h | ⟨k, hk, h⟩
    · rcases List.mem_cons.1 h with h | h
      · exact .inr ⟨j, by simp, .inl h⟩
      · rcases List.mem_append.1 h with h | h
        · exact .inr ⟨j, by simp, .inr h⟩
        · exact .inl h
    · exact .inr ⟨k, by simp [hk], h⟩
theorem befs_reach : ∀ (r pre : List Oper) (acc : List (List Nat)), l = pre ++ r → acc.length = pre.length → (∀ t j, j ∈ acc.getD t [] → Reach l t j) → ∀ t j, j ∈ (befs r acc).getD t [] → Reach l t j
  | [], pre, acc, _, _, h => h
  | o :: r, pre, acc, hl, hlen, h => by
    rw [befs]
    refine befs_reach r (pre ++ [o]) _ (by simp [hl]) (by simp [hlen]) ?_
    intro t j hj
    rw [List.getD_eq_getElem?_getD, List.getElem?_append] at hj
    split at hj
    · exact h t j (by rw [List.getD_eq_getElem?_getD]; exact hj)
    · rename_i hge
      by_cases ht : t = acc.length
      · subst ht
        simp at hj
        have ho : l[acc.length]? = some o := by rw [hl, hlen]; simp
        rcases foldl_mem _ _ j (by simpa using hj) with hx | ⟨k, hk, hx⟩
        · simp at hx
        · rcases hx with hx | hx
          · subst hx; exact .one ho hk
          · exact .more ho hk (h k j hx)
      · have : ([(depsOf o).foldl (fun s j => j :: (acc.getD j [] ++ s)) []] : List (List Nat))[t - acc.length]? = none := by
          rw [List.getElem?_eq_none]; simp; omega
        rw [this] at hj; simp at hj
structure ParOk (l : List Oper) (n : Nat) : Prop where
  le : n ≤ l.length
  acyc : ∀ (i : Nat) (o : Oper), l[i]? = some o → ∀ j ∈ depsOf o, j < i
  tail : ∀ t, n ≤ t → t < l.length → ∀ j, j < t → Reach l t j
  dist : ∀ i j, i < n → j < n → i ≠ j → ∀ d, dstAt l i = some d → dstAt l j ≠ some d
theorem ParOk.of (h : parOk l n = true) : ParOk l n := by
  unfold parOk at h
  simp only [Bool.and_eq_true] at h
  obtain ⟨⟨⟨h1, h2⟩, h3⟩, h4⟩ := h
  refine ⟨by simpa using h1, ?_, ?_, ?_⟩
  · intro i o ho j hj
    have hi : i < l.length := (List.getElem?_eq_some_iff.1 ho).1
    have := List.all_eq_true.1 h2 i (List.mem_range.2 hi)
    rw [ho] at this
    simpa using List.all_eq_true.1 this j hj
  · intro t ht hl j hj
    have := List.all_eq_true.1 h3 t (List.mem_range.2 hl)
    simp only [Bool.or_eq_true, decide_eq_true_eq] at this
    rcases this with h | h
    · omega
    · have := List.all_eq_true.1 h j (List.mem_range.2 hj)
      exact befs_reach l [] [] (by simp) rfl (by intro t j h; simp at h) t j (by simpa using this)
  · intro i j hi hj hne d hd hd'
    have := List.all_eq_true.1 h4 i (List.mem_range.2 hi)
    have := List.all_eq_true.1 this j (List.mem_range.2 hj)
    simp only [Bool.or_eq_true, decide_eq_true_eq] at this
    rcases this with h | h
    · exact hne h
    · unfold dstAt at hd hd'
      cases ha : l[i]? with
      | none => simp [ha] at hd
      | some a =>
        cases hb : l[j]? with
        | none => simp [hb] at hd'
        | some b =>
          simp only [ha, hb, Option.bind_some] at h hd hd'
          rw [hd, hd'] at h
          simp at h
theorem deps_mem {o : Oper} {e : Edge} (he : e ∈ o.after) (hb : Region.binds .any e = true) : e.on ∈ depsOf o := by
  unfold depsOf
  rw [List.mem_filterMap]
  exact ⟨e, by simpa using he, by rw [if_pos hb]⟩
theorem mem_deps {o : Oper} {j : Nat} (h : j ∈ depsOf o) : ∃ e ∈ o.after, Region.binds .any e = true ∧ e.on = j := by
  unfold depsOf at h
  rw [List.mem_filterMap] at h
  obtain ⟨e, he, h⟩ := h
  split at h
  · rename_i hb; injection h with h; exact ⟨e, by simpa using he, hb, h⟩
  · simp at h
theorem Reach.lt (hok : ParOk l n) {t j : Nat} (h : Reach l t j) : j < t := by
  induction h with
  | one ho hj => exact hok.acyc _ _ ho _ hj
  | more ho hk _ ih => exact Nat.lt_trans ih (hok.acyc _ _ ho _ hk)
/-- The operations behind the first ones come in the order of the text. -/
theorem tailAny {m : Nat} {w0 : World} (hok : ParOk l n) (hd : opsDst m l = true) : ∀ (fuel t : Nat) (listed : Array Bool) (a : Act) (w : World), t + fuel = l.length → n ≤ t → listed.size = l.length →
    (∀ j, j < l.length → listed.getD j true = decide (j < t)) → a.defers = [] → a.tmps.size = m → Same w0 w → AOps P l (l.drop t) (Q .normal) (slots a) w.heap →
    wpAny P .any l.toArray (lift m w0 Q) fuel listed a w
  | 0, t, listed, a, w, hf, hn, hsz, hl, h1, h2, h3, h => by
    have : l.drop t = [] := List.drop_eq_nil_of_le (by omega)
    rw [this] at h
    refine ⟨?_, h1, h2, h3, h⟩
    rw [List.eq_nil_iff_forall_not_mem]
    intro i hi
    obtain ⟨hu, o, ho, _⟩ := mem_ready.1 hi
    have hlt : i < l.length := by have := (Array.getElem?_eq_some_iff.1 ho).1; simpa using this
    rw [hl i hlt] at hu
    simp at hu; omega
  | fuel + 1, t, listed, a, w, hf, hn, hsz, hl, h1, h2, h3, h => by
    have htl : t < l.length := by omega
    have hdr : l.drop t = l[t] :: l.drop (t + 1) := (List.getElem_cons_drop htl).symm
    have hot : l.toArray[t]? = some l[t] := by simp [htl]
    have hot' : l[t]? = some l[t] := by simp [htl]
    have hfalse : ∀ j, j < l.length → listed.getD j false = decide (j < t) := by
      intro j hj
      have := hl j hj
      rw [Array.getD_eq_getD_getElem?, Array.getElem?_eq_getElem (by omega)] at this ⊢
      exact this
    have hready : t ∈ Region.ready .any l.toArray listed := by
      refine mem_ready.2 ⟨by rw [hl t htl]; simp, l[t], hot, fun e he hb => ?_⟩
      have hlt := hok.acyc t _ hot' _ (deps_mem he hb)
      rw [hfalse _ (by omega)]; simpa using hlt
    refine ⟨fun h0 => (by rw [h0] at hready; cases hready), fun i hi => ?_⟩
    obtain ⟨hu, o, ho, hall⟩ := mem_ready.1 hi
    have hil : i < l.length := by have := (Array.getElem?_eq_some_iff.1 ho).1; simpa using this
    rw [hl i hil] at hu
    simp only [decide_eq_false_iff_not] at hu
    have hit : i = t := by
      by_cases e : i = t
      · exact e
      · exfalso
        have hr := hok.tail i (by omega) hil t (by omega)
        have ho' : l[i]? = some o := by simpa using ho
        have key : ∀ k ∈ depsOf o, k < t := by
          intro k hk
          obtain ⟨e, he, hb, hon⟩ := mem_deps hk
          have := hall e he hb
          rw [hon, hfalse k (by have := hok.acyc i o ho' k hk; omega)] at this
          simpa using this
        cases hr with
        | one hx hj => rw [ho'] at hx; injection hx with hx; subst hx; have := key t hj; omega
        | more hx hk hr => rw [ho'] at hx; injection hx with hx; subst hx; have := key _ hk; have := Reach.lt hok hr; omega
    subst hit
    have hoo : o = l[i] := by rw [hot] at ho; injection ho with ho; exact ho.symm
    subst hoo
    have hdst : ∀ d, l[i].dst = some d → d < a.tmps.size := by
      intro d hdd
      have := List.all_eq_true.1 hd l[i] (List.getElem_mem hil)
      rw [hdd] at this; simpa [h2] using this
    have hl' : ∀ j, j < l.length → (listed.setIfInBounds i true).getD j true = decide (j < i + 1) := by
      intro j hj
      by_cases e : i = j
      · subst e; simp [hsz, hj]
      · rw [getD_set_ne true e, hl j hj]
        by_cases e2 : j < i
        · simp [e2]; omega
        · simp [e2]; omega
    have put_size : ∀ v, (a.put l[i].dst v).tmps.size = m := by intro v; cases l[i].dst <;> simp [Act.put, h2]
    have put_def : ∀ v, (a.put l[i].dst v).defers = [] := by intro v; cases l[i].dst <;> simp [Act.put, h1]
    rw [hdr] at h
    simp only [AOps] at h
    unfold wpOp
    rw [hot]
    simp only []
    rw [wanted_eq, List.toList_toArray]
    cases hw : wantB l (slots a) l[i].guard with
    | true =>
      rw [hw] at h
      simp only [if_true]
      refine .inl (wp_of_Aev h ?_)
      intro v w' hs hk
      exact tailAny hok hd fuel (i + 1) _ _ _ (by omega) (by omega) (by simpa using hsz) hl' (put_def v) (put_size v) (h3.trans hs) (by rw [slots_putO v hdst]; exact hk)
    | false =>
      rw [hw] at h
      simp only [Bool.false_eq_true, if_false]
      exact tailAny hok hd fuel (i + 1) _ _ _ (by omega) (by omega) (by simpa using hsz) hl' (put_def _) (put_size _) h3 (by rw [slots_putO _ hdst]; exact h)
/-- What holds while the first operations come, in whatever order. -/
structure Inv (l : List Oper) (n m : Nat) (e : Nat) (S : Hp → Hp → Prop) (Φ : Fact) (f : Nat → Value) (H : Hp) (w0 : World) (listed : Array Bool) (a : Act) (w : World) : Prop where
  size : listed.size = l.length
  closed : ∀ j o, l[j]? = some o → listed.getD j false = true → ∀ d ∈ depsOf o, listed.getD d false = true
  head : ∀ j, listed.getD j false = true → j < n
  ext : S H w.heap
  old : listed.getD e false = false → Ext H w.heap
  out : ∀ t, outside l n t → slots a t = f t
  defs : a.defers = []
  asize : a.tmps.size = m
  same : Same w0 w
  facts : ∃ lo hi : Nat → Nat, (∀ j, listed.getD j false = true → factAt l Φ j (slots a) (lo j) (hi j) w.heap ∧ H.size ≤ lo j ∧ lo j ≤ hi j ∧ hi j ≤ w.heap.size) ∧
    ∀ j k, listed.getD j false = true → listed.getD k false = true → j ≠ k → hi j ≤ lo k ∨ hi k ≤ lo j
def ParEnd (P : Program) (l : List Oper) (n : Nat) (S : Hp → Hp → Prop) (Φ : Fact) (f : Nat → Value) (H : Hp) (K : (Nat → Value) → Hp → Prop) : Prop :=
  ∀ f1 H1 (lo hi : Nat → Nat), S H H1 → (∀ t, outside l n t → f1 t = f t) → (∀ j, j < n → factAt l Φ j f1 (lo j) (hi j) H1 ∧ H.size ≤ lo j ∧ lo j ≤ hi j ∧ hi j ≤ H1.size) →
    (∀ j k, j < n → k < n → j ≠ k → hi j ≤ lo k ∨ hi k ≤ lo j) → BOps P (l.map (·.dst)) (l.drop n) K f1 H1
theorem factAt_stab {j lo hi : Nat} {f1 : Nat → Value} {H1 H2 : Hp} (hs : ∀ v lo hi, Φ j v lo hi H1 → Φ j v lo hi H2) (h : factAt l Φ j f1 lo hi H1) : factAt l Φ j f1 lo hi H2 := by
  unfold factAt at *
  split
  · rename_i d hd; rw [hd] at h; exact hs _ _ _ h
  · trivial
theorem setCount : ∀ (L : List Bool) (i : Nat), L[i]? = some false → (L.filter (fun b => !b)).length = ((L.set i true).filter (fun b => !b)).length + 1
  | [], i, h => by simp at h
  | b :: L, 0, h => by simp at h; subst h; simp
  | b :: L, i + 1, h => by
    have := setCount L i (by simpa using h)
    cases b
    · simp [this]
    · simpa using this
theorem headAny {m : Nat} {w0 : World} (hok : ParOk l n) (hd : opsDst m l = true) (hS : Pre S) (hs : ∀ i v lo hi H1 H2, (if i = e then Ext H1 H2 else S H1 H2) → Φ i v lo hi H1 → Φ i v lo hi H2)
    (hp : ParSteps P l n e S Φ f H (l.take n) 0) (he : ParEnd P l n S Φ f H (Q .normal)) : ∀ (fuel : Nat) (listed : Array Bool) (a : Act) (w : World),
    (listed.toList.filter (fun b => !b)).length = fuel → Inv l n m e S Φ f H w0 listed a w → wpAny P .any l.toArray (lift m w0 Q) fuel listed a w := by
  have both : ∀ (listed : Array Bool) j, j < listed.size → listed.getD j true = listed.getD j false := by
    intro listed j hj
    simp [hj]
  have count : ∀ (listed : Array Bool) i, i < listed.size → listed.getD i true = false → (listed.toList.filter (fun b => !b)).length = ((listed.setIfInBounds i true).toList.filter (fun b => !b)).length + 1 := by
    intro listed i hi hu
    rw [Array.toList_setIfInBounds]
    exact setCount _ _ (by rw [Array.getElem?_toList, Array.getElem?_eq_getElem hi]; simpa [hi] using hu)
  -- all of the first ones have come
  have done : ∀ (fuel : Nat) (listed : Array Bool) (a : Act) (w : World), (listed.toList.filter (fun b => !b)).length = fuel → Inv l n m e S Φ f H w0 listed a w → (∀ j, j < n → listed.getD j false = true) →
      wpAny P .any l.toArray (lift m w0 Q) fuel listed a w := by
    intro fuel listed a w hc inv hall
    have hlis : ∀ j, j < l.length → listed.getD j true = decide (j < n) := by
      intro j hj
      rw [both listed j (by rw [inv.size]; exact hj)]
      by_cases e : j < n
      · rw [hall j e]; simp [e]
      · have : listed.getD j false ≠ true := fun h => e (inv.head j h)
        simp [e] at this ⊢; simpa using this
    have hfuel : n + fuel = l.length := by
      have hL : listed.toList = List.replicate n true ++ List.replicate (l.length - n) false := by
        apply List.ext_getElem?
        intro j
        by_cases hj : j < l.length
        · have hj' : j < listed.size := by rw [inv.size]; exact hj
          have := hlis j hj
          rw [Array.getD_eq_getD_getElem?, Array.getElem?_eq_getElem hj'] at this
          simp only [Option.getD_some] at this
          rw [Array.getElem?_toList, Array.getElem?_eq_getElem hj', this]
          by_cases e : j < n
          · rw [List.getElem?_append_left (by simpa using e)]; simp [e]
          · rw [List.getElem?_append_right (by simp; omega), List.getElem?_replicate, List.length_replicate, if_pos (by omega)]; simp [e]
        · rw [List.getElem?_eq_none (by rw [Array.length_toList, inv.size]; omega), List.getElem?_eq_none (by simp; have := hok.le; omega)]
      rw [hL] at hc
      simp at hc
      have := hok.le; omega
    obtain ⟨lo, hi, hfacts, hdis⟩ := inv.facts
    refine tailAny hok hd fuel n listed a w hfuel (Nat.le_refl _) inv.size hlis inv.defs inv.asize inv.same (AOps_of_BOps _ _ _ ?_)
    exact he (slots a) w.heap lo hi inv.ext inv.out (fun j hj => hfacts j (hall j hj)) (fun j k hj hk hne => hdis j k (hall j hj) (hall k hk) hne)
  intro fuel
  induction fuel with
  | zero =>
    intro listed a w hc inv
    refine done 0 listed a w hc inv fun j hj => ?_
    have hj' : j < listed.size := by rw [inv.size]; have := hok.le; omega
    have : ∀ b ∈ listed.toList, b = true := by
      intro b hb
      have := List.eq_nil_of_length_eq_zero hc
      have := List.filter_eq_nil_iff.1 this b hb
      simpa using this
    have := this (listed[j]) (by simp)
    simp [hj', this]
  | succ fuel ih =>
    intro listed a w hc inv
    by_cases hall : ∀ j, j < n → listed.getD j false = true
    · exact done _ listed a w hc inv hall
    · have hex : ∃ j, j < n ∧ listed.getD j false = false := by
        refine Classical.byContradiction fun h => hall fun j hj => ?_
        cases e : listed.getD j false with
        | true => rfl
        | false => exact absurd ⟨j, hj, e⟩ h
      -- the least of them may come
      have hleast : ∃ j, j < n ∧ listed.getD j false = false ∧ ∀ i, i < j → listed.getD i false = true := by
        obtain ⟨j, hj, hf⟩ := hex
        induction j using Nat.strongRecOn with
        | _ j ihj =>
          by_cases e : ∃ i, i < j ∧ listed.getD i false = false
          · obtain ⟨i, hi, hif⟩ := e; exact ihj i hi (by omega) hif
          · exact ⟨j, hj, hf, fun i hi => by
              cases e2 : listed.getD i false with
              | true => rfl
              | false => exact absurd ⟨i, hi, e2⟩ e⟩
      obtain ⟨j, hj, hjf, hjall⟩ := hleast
      have hjl : j < l.length := by have := hok.le; omega
      have hready : j ∈ Region.ready .any l.toArray listed := by
        refine mem_ready.2 ⟨by rw [both listed j (by rw [inv.size]; exact hjl)]; exact hjf, l[j], by simp [hjl], fun e he hb => hjall _ (hok.acyc j l[j] (by simp [hjl]) _ (deps_mem he hb))⟩
      refine ⟨fun h0 => (by rw [h0] at hready; cases hready), fun i hi => ?_⟩
      obtain ⟨hu, o, ho, hdep⟩ := mem_ready.1 hi
      have ho' : l[i]? = some o := by simpa using ho
      have hil : i < l.length := (List.getElem?_eq_some_iff.1 ho').1
      have hdl : ∀ d ∈ depsOf o, listed.getD d false = true := by
        intro d hdd
        obtain ⟨e, he, hb, hon⟩ := mem_deps hdd
        rw [← hon]; exact hdep e he hb
      have reach : ∀ t k, Reach l t k → (∀ o', l[t]? = some o' → ∀ d ∈ depsOf o', listed.getD d false = true) → listed.getD k false = true := by
        intro t k hr
        induction hr with
        | one hx hj => intro hd; exact hd _ hx _ hj
        | more hx hk _ ihr => intro hd; exact ihr fun o' ho' => inv.closed _ _ ho' (hd _ hx _ hk)
      have hin : i < n := by
        by_cases e : i < n
        · exact e
        · exfalso
          have := reach i j (hok.tail i (by omega) hil j (by omega)) (fun o' h => by rw [ho'] at h; injection h with h; subst h; exact hdl)
          rw [this] at hjf; cases hjf
      have hun : listed.getD i false = false := by rw [← both listed i (by rw [inv.size]; exact hil)]; exact hu
      have hst := ParSteps.get (l.take n) 0 hp i o (by rw [List.getElem?_take, if_pos hin]; exact ho')
      rw [Nat.zero_add] at hst
      obtain ⟨lo, hi', hfacts, hdis⟩ := inv.facts
      have hst := hst (slots a) w.heap (by split; (rename_i hie; exact inv.old (hie ▸ hun)); exact inv.ext) inv.out (DepFacts.of _ fun d hdd => ⟨lo d, hi' d, (hfacts d (hdl d hdd)).1⟩)
      have hdst : ∀ d, o.dst = some d → d < a.tmps.size := by
        intro d hdd
        have := List.all_eq_true.1 hd o (List.mem_of_getElem? ho')
        rw [hdd] at this; simpa [inv.asize] using this
      have put_size : ∀ v, (a.put o.dst v).tmps.size = m := by intro v; cases o.dst <;> simp [Act.put, inv.asize]
      have put_def : ∀ v, (a.put o.dst v).defers = [] := by intro v; cases o.dst <;> simp [Act.put, inv.defs]
      have hnext : ∀ v (w' : World), Same w w' → (if i = e then S w.heap w'.heap else Ext w.heap w'.heap) → Φ i v w.heap.size w'.heap.size w'.heap → wpAny P .any l.toArray (lift m w0 Q) fuel (listed.setIfInBounds i true) (a.put o.dst v) w' := by
        intro v w' hsame hext hΦ
        have hSS : S w.heap w'.heap := by split at hext; exact hext; exact hS.ext _ _ hext
        have hsz := hS.size _ _ hSS
        have hslot : slots (a.put o.dst v) = updO (slots a) o.dst v := slots_putO v hdst
        have hget : ∀ k, (listed.setIfInBounds i true).getD k false = true → k = i ∨ (k ≠ i ∧ listed.getD k false = true) := by
          intro k hk
          by_cases e : k = i
          · exact .inl e
          · rw [getD_set_ne false (fun h => e h.symm)] at hk; exact .inr ⟨e, hk⟩
        have hdstAt : dstAt l i = o.dst := by simp [dstAt, ho']
        have hkeep : ∀ k, k ≠ i → k < n → ∀ d, dstAt l k = some d → slots (a.put o.dst v) d = slots a d := by
          intro k hk hkn d hdk
          rw [hslot]
          cases hod : o.dst with
          | none => rfl
          | some x =>
            simp only [updO, upd]
            rw [if_neg]
            intro e; subst e
            exact hok.dist i k hin hkn (fun e => hk e.symm) d (by rw [hdstAt, hod]) hdk
        refine ih _ _ _ ?_ ⟨by simpa using inv.size, ?_, ?_, hS.trans _ _ _ inv.ext hSS, ?_, ?_, put_def v, put_size v, inv.same.trans hsame, ?_⟩
        · have := count listed i (by rw [inv.size]; exact hil) hu; omega
        · intro k o' hk hkl d hdk
          rcases hget k hkl with rfl | ⟨_, hkl⟩
          · rw [ho'] at hk; injection hk with hk; subst hk
            exact getD_set_true (hdl d hdk)
          · exact getD_set_true (inv.closed k o' hk hkl d hdk)
        · intro k hkl
          rcases hget k hkl with rfl | ⟨_, hkl⟩
          · exact hin
          · exact inv.head k hkl
        · intro he
          have hne : i ≠ e := by
            intro h; subst h
            rw [show (listed.setIfInBounds i true).getD i false = true by simp [inv.size, hil]] at he; cases he
          rw [getD_set_ne false (fun h => hne h)] at he
          rw [if_neg hne] at hext
          exact (inv.old he).trans hext
        · intro t ht
          rw [hslot]
          have := ht i hin
          rw [hdstAt] at this
          cases hod : o.dst with
          | none => exact inv.out t ht
          | some x =>
            simp only [updO, upd]
            rw [if_neg (fun e => this (by rw [hod, e]))]
            exact inv.out t ht
        · refine ⟨fun k => if k = i then w.heap.size else lo k, fun k => if k = i then w'.heap.size else hi' k, ?_, ?_⟩
          · intro k hkl
            rcases hget k hkl with rfl | ⟨hne, hkl⟩
            · simp only [if_true]
              refine ⟨?_, hS.size _ _ inv.ext, hsz, Nat.le_refl _⟩
              unfold factAt
              rw [hdstAt]
              cases hod : o.dst with
              | none => trivial
              | some x => have h := hslot; rw [hod] at h; simp only []; rw [h]; simp only [updO, upd, if_true]; exact hΦ
            · simp only [if_neg hne]
              obtain ⟨g1, g2, g3, g4⟩ := hfacts k hkl
              refine ⟨?_, g2, g3, Nat.le_trans g4 hsz⟩
              have g1 := factAt_stab (fun v lo hi => hs k v lo hi _ _ (by
                split
                · rename_i hke; rw [if_neg (fun h => hne (hke.trans h.symm))] at hext; exact hext
                · exact hSS)) g1
              unfold factAt at g1 ⊢
              cases hdk : dstAt l k with
              | none => trivial
              | some d => rw [hdk] at g1; simp only [] at g1 ⊢; rw [hkeep k hne (inv.head k hkl) d hdk]; exact g1
          · intro k k' hk hk' hne
            rcases hget k hk with e1 | ⟨hne1, hk1⟩
            · rcases hget k' hk' with e2 | ⟨hne2, hk2⟩
              · exact absurd (e1.trans e2.symm) hne
              · simp only [if_pos e1, if_neg hne2]; exact .inr (hfacts k' hk2).2.2.2
            · rcases hget k' hk' with e2 | ⟨hne2, hk2⟩
              · simp only [if_pos e2, if_neg hne1]; exact .inl (hfacts k hk1).2.2.2
              · simp only [if_neg hne1, if_neg hne2]; exact hdis k k' hk1 hk2 hne
      unfold wpOp
      rw [ho]
      simp only []
      rw [wanted_eq, List.toList_toArray]
      cases hw : wantB l (slots a) o.guard with
      | true =>
        rw [hw] at hst
        simp only [if_true] at hst ⊢
        exact .inl (wp_of_Aev (Aev_of_Bev hst) fun v w' hsame hk => hnext v w' hsame hk.1 hk.2)
      | false =>
        rw [hw] at hst
        simp only [Bool.false_eq_true, if_false] at hst ⊢
        exact hnext undef w (.refl w) (by split; exact hS.ext _ _ (.refl _); exact .refl _) hst
/-- A region whose order is drawn: its first n operations in whatever order, then the others one by one. -/
theorem W_par {m id : Nat} (n e : Nat) (S : Hp → Hp → Prop) (Φ : Fact) (hm : P.follows .mixedOrders = true) (hB : parOk l n = true) (hS : Pre S) (hs : ∀ i v lo hi H1 H2, (if i = e then Ext H1 H2 else S H1 H2) → Φ i v lo hi H1 → Φ i v lo hi H2)
    (hp : ParSteps P l n e S Φ f H (l.take n) 0) (he : ParEnd P l n S Φ f H (Q .normal)) : W P m (.region id l.toArray true) Q f H := by
  intro hc a w h1 h2 h3 h4
  simp only [cok] at hc
  subst h3; subst h4
  have hrep : ∀ j, (Array.replicate l.toArray.size false).getD j false = false := by
    intro j; simp only [Array.getD_eq_getD_getElem?, Array.getElem?_replicate]; split <;> rfl
  refine wp_region_any hm (headAny (ParOk.of hB) hc hS hs hp he l.toArray.size _ a _ (by simp) ?_)
  refine ⟨by simp, fun j o _ hl => ?_, fun j hl => ?_, hS.ext _ _ (.refl _), fun _ => .refl _, fun _ _ => rfl, h1, h2, ⟨rfl, rfl, rfl⟩, fun _ => 0, fun _ => 0, fun j hl => ?_, fun j k hl => ?_⟩
  · rw [hrep] at hl; cases hl
  · rw [hrep] at hl; cases hl
  · rw [hrep] at hl; cases hl
  · rw [hrep] at hl; cases hl
theorem W_parK {m id : Nat} {y : Code} (n e : Nat) (S : Hp → Hp → Prop) (Φ : Fact) (hm : P.follows .mixedOrders = true) (hB : parOk l n = true) (hS : Pre S) (hs : ∀ i v lo hi H1 H2, (if i = e then Ext H1 H2 else S H1 H2) → Φ i v lo hi H1 → Φ i v lo hi H2)
    (hp : ParSteps P l n e S Φ f H (l.take n) 0) (he : ∀ K : (Nat → Value) → Hp → Prop, (∀ f H, W P m y Q f H → K f H) → ParEnd P l n S Φ f H K) : W P m (.seq (.region id l.toArray true) y) Q f H :=
  W_seq (W_par n e S Φ hm hB hS hs hp (he _ fun _ _ h => h))
end
end Go.Vy
