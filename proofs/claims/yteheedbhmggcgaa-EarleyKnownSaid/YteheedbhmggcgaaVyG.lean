/- Maps whose keys are told apart. -/
import Derived.Test.YteheedbhmggcgaaVyF
namespace Go.Vy
open Go Go.RowKit
set_option linter.unusedVariables false
set_option linter.unusedSimpArgs false
set_option linter.unusedSectionVars false

structure KeyT (P : Program) (kt : TypeId) {α : Type} [DecidableEq α] (enc : α → Value) : Prop where
  ck : ∀ a, ckey P 10000 kt (enc a) = true
  eq : ∀ a b, eqv P 10000 kt (enc a) (enc b) = some (decide (a = b))
  now : ∃ d, P.underlying kt = some d ∧ ∀ a b, Instr.sameNow d (enc a) (enc b) = none ∨ Instr.sameNow d (enc a) (enc b) = some (decide (a = b))
  bits : ∀ a, Instr.sameBits 10000 (enc a) (enc a) = true
section
variable {P : Program} {kt : TypeId} {α : Type} [DecidableEq α] {enc : α → Value}
def ents (enc : α → Value) : List (α × Value) → Nat → List MapEntry
  | [], _ => []
  | (a, v) :: r, i => ⟨enc a, v, i⟩ :: ents enc r (i + 1)
def mobj (enc : α → Value) (l : List (α × Value)) : Obj := .map (ents enc l 0).toArray l.length
def fnd (a : α) : List (α × Value) → Nat → Option (Nat × Value)
  | [], _ => none
  | (b, v) :: r, i => if a = b then some (i, v) else fnd a r (i + 1)
def aget : List (α × Value) → α → Option Value
  | [], _ => none
  | (b, v) :: r, a => if a = b then some v else aget r a
def aput (a : α) (x : Value) : List (α × Value) → List (α × Value)
  | [] => [(a, x)]
  | (b, v) :: r => if a = b then (a, x) :: r else (b, v) :: aput a x r
theorem ents_length : ∀ (l : List (α × Value)) (i : Nat), (ents enc l i).length = l.length
  | [], _ => rfl
  | (a, v) :: r, i => by simp [ents, ents_length r]
theorem ents_get : ∀ (l : List (α × Value)) (i j : Nat), (ents enc l i)[j]? = (l[j]?).map fun x => ⟨enc x.1, x.2, i + j⟩
  | [], i, j => by simp [ents]
  | (a, v) :: r, i, 0 => by simp [ents]
  | (a, v) :: r, i, j + 1 => by simp only [ents, List.getElem?_cons_succ, ents_get r]; rw [show i + 1 + j = i + (j + 1) by omega]
theorem fnd_aget (a : α) : ∀ (l : List (α × Value)) (i : Nat), (fnd a l i).map (·.2) = aget l a
  | [], _ => rfl
  | (b, v) :: r, i => by simp only [fnd, aget]; split; rfl; exact fnd_aget a r (i + 1)
theorem aget_aput (a b : α) (x : Value) : ∀ l : List (α × Value), aget (aput a x l) b = if b = a then some x else aget l b
  | [] => by simp [aput, aget]
  | (c, v) :: r => by
    simp only [aput]
    by_cases h : a = c
    · subst h; simp only [if_true, aget]
      by_cases e : b = a <;> simp [e]
    · rw [if_neg h]; simp only [aget]
      by_cases e : b = c
      · subst e; rw [if_pos rfl, if_neg (fun e => h e.symm)]; simp
      · rw [if_neg e, aget_aput a b x r, if_neg e]
theorem aput_none {a : α} {x : Value} : ∀ {l : List (α × Value)}, aget l a = none → aput a x l = l ++ [(a, x)]
  | [], _ => rfl
  | (c, v) :: r, h => by
    simp only [aget] at h
    simp only [aput]
    split at h
    · simp at h
    · rename_i hn; rw [if_neg hn, aput_none h]; rfl
theorem keys_aput (a : α) (x : Value) : ∀ l : List (α × Value), (aput a x l).map (·.1) = match aget l a with | none => l.map (·.1) ++ [a] | some _ => l.map (·.1)
  | [] => by simp [aput, aget]
  | (c, v) :: r => by
    simp only [aput, aget]
    by_cases h : a = c
    · subst h; simp
    · simp only [if_neg h, List.map_cons, keys_aput a x r]; cases aget r a <;> simp
theorem aget_none_iff {a : α} : ∀ {l : List (α × Value)}, aget l a = none ↔ a ∉ l.map (·.1)
  | [] => by simp [aget]
  | (c, v) :: r => by
    simp only [aget, List.map_cons, List.mem_cons, not_or]
    by_cases h : a = c
    · simp [h]
    · rw [if_neg h, aget_none_iff]; simp [h]
theorem nodup_aput {a : α} {x : Value} {l : List (α × Value)} (h : (l.map (·.1)).Nodup) : ((aput a x l).map (·.1)).Nodup := by
  rw [keys_aput]
  split
  · rename_i hn
    rw [List.nodup_append]
    refine ⟨h, by simp, ?_⟩
    intro b hb c hc
    simp at hc; subst hc
    intro e; subst e
    exact aget_none_iff.1 hn hb
  · exact h
theorem aget_of_get {l : List (α × Value)} (h : (l.map (·.1)).Nodup) {i : Nat} {a : α} {v : Value} (hi : l[i]? = some (a, v)) : aget l a = some v := by
  induction l generalizing i with
  | nil => simp at hi
  | cons b l ih =>
    obtain ⟨b, w⟩ := b
    simp only [List.map_cons, List.nodup_cons] at h
    cases i with
    | zero => simp at hi; obtain ⟨rfl, rfl⟩ := hi; simp [aget]
    | succ i =>
      simp only [List.getElem?_cons_succ] at hi
      simp only [aget]
      rw [if_neg, ih h.2 hi]
      intro e; subst e
      exact h.1 (List.mem_map.2 ⟨(a, v), List.mem_of_getElem? hi, rfl⟩)
theorem fnd_lt {a : α} : ∀ {l : List (α × Value)} {i j : Nat} {v : Value}, fnd a l i = some (j, v) → i ≤ j ∧ j < i + l.length ∧ l[j - i]? = some (a, v)
  | [], _, _, _, h => by simp [fnd] at h
  | (b, w) :: r, i, j, v, h => by
    simp only [fnd] at h
    split at h
    · rename_i e; subst e; injection h with h; injection h with h1 h2; subst h1; subst h2; simp
    · obtain ⟨h1, h2, h3⟩ := fnd_lt h
      refine ⟨by omega, by simp; omega, ?_⟩
      rw [show j - i = (j - (i + 1)) + 1 by omega]; simpa using h3
theorem fnd_modify {a : α} {x : Value} : ∀ {l : List (α × Value)} {i j : Nat} {v : Value}, fnd a l i = some (j, v) → l.modify (j - i) (fun y => (y.1, x)) = aput a x l
  | [], _, _, _, h => by simp [fnd] at h
  | (b, w) :: r, i, j, v, h => by
    simp only [fnd] at h
    simp only [aput]
    split at h
    · rename_i e; subst e; injection h with h; injection h with h1 h2; subst h1; simp
    · rename_i e
      obtain ⟨h1, _⟩ := fnd_lt h
      rw [if_neg e, show j - i = (j - (i + 1)) + 1 by omega, List.modify_succ_cons, fnd_modify h]
theorem mfindA_ents (K : KeyT P kt enc) (a : α) : ∀ (l : List (α × Value)) (i : Nat) (b : Nat), mfindA P kt (enc a) (ents enc l b) i = some (fnd a l i)
  | [], i, b => rfl
  | (c, v) :: r, i, b => by
    simp only [ents, mfindA, fnd, K.eq a c]
    by_cases h : a = c
    · simp [h]
    · simp only [h, decide_false, if_false]; exact mfindA_ents K a r (i + 1) (b + 1)
theorem findNow_ents {d : TypeDesc} (K : ∀ a b, Instr.sameNow d (enc a) (enc b) = none ∨ Instr.sameNow d (enc a) (enc b) = some (decide (a = b))) (a : α) :
    ∀ (l : List (α × Value)) (i : Nat) (b : Nat), Instr.findNow d (enc a) (ents enc l b) i = none ∨ Instr.findNow d (enc a) (ents enc l b) i = some (fnd a l i)
  | [], i, b => .inr rfl
  | (c, v) :: r, i, b => by
    simp only [ents, Instr.findNow, fnd]
    rcases K a c with h | h
    · rw [h]; exact .inl rfl
    · rw [h]
      by_cases e : a = c
      · simp [e]
      · simp only [e, decide_false, if_false]; exact findNow_ents K a r (i + 1) (b + 1)
theorem mfind_ents (K : KeyT P kt enc) (a : α) (l : List (α × Value)) (b : Nat) : mfind P kt (enc a) (ents enc l b) = some (fnd a l 0) := by
  obtain ⟨d, hu, hn⟩ := K.now
  unfold mfind
  rw [hu]
  simp only
  rcases findNow_ents hn a l 0 b with h | h
  · rw [h]; exact mfindA_ents K a l 0 b
  · rw [h]
theorem lkp_mobj {t et : TypeId} {H : Hp} {r : Nat} {l : List (α × Value)} {ok : Bool} (K : KeyT P kt enc) (hu : P.underlying t = some (.map kt et)) (hz : hasZero P et = true) (hr : H[r]? = some (mobj enc l)) (a : α) :
    lkp P t (.map (some r)) (enc a) ok H = some (lkv ok ((aget l a).getD (zv P et)) (aget l a).isSome) := by
  unfold lkp
  simp only [hu, mapEs, hr, mobj, Option.bind_some, K.ck, if_true, mfind_ents K, ← fnd_aget a l 0]
  cases fnd a l 0 with
  | none => simp [hz]
  | some x => rfl
theorem ents_modify (a : α) (x : Value) : ∀ (l : List (α × Value)) (b j : Nat), (ents enc l b).modify j (fun e => { e with val := x }) = ents enc (l.modify j fun y => (y.1, x)) b
  | [], b, j => by simp [ents]
  | (c, v) :: r, b, 0 => by simp [ents]
  | (c, v) :: r, b, j + 1 => by simp only [ents, List.modify_succ_cons]; rw [ents_modify a x r]
theorem ents_modkey (a : α) : ∀ (l : List (α × Value)) (b j : Nat), (∀ y, l[j]? = some y → y.1 = a) → (ents enc l b).modify j (fun e => { e with key := enc a }) = ents enc l b
  | [], b, j, _ => by simp [ents]
  | (c, v) :: r, b, 0, h => by simp [ents]; rw [← h (c, v) (by simp)]
  | (c, v) :: r, b, j + 1, h => by simp only [ents, List.modify_succ_cons]; rw [ents_modkey a r _ _ (fun y hy => h y (by simpa using hy))]
theorem ents_push (l : List (α × Value)) (a : α) (x : Value) : ∀ b, ents enc l b ++ [⟨enc a, x, b + l.length⟩] = ents enc (l ++ [(a, x)]) b := by
  induction l with
  | nil => intro b; simp [ents]
  | cons c l ih => intro b; obtain ⟨c, v⟩ := c; simp only [ents, List.cons_append]; rw [← ih]; simp; omega
theorem mobj_push (l : List (α × Value)) (a : α) (x : Value) : Obj.map ((ents enc l 0).toArray.push ⟨enc a, x, l.length⟩) (l.length + 1) = mobj enc (l ++ [(a, x)]) := by
  unfold mobj
  rw [← ents_push]; simp
theorem same_key {a : α} {l : List (α × Value)} {i : Nat} {v : Value} (h : fnd a l 0 = some (i, v)) : (((ents enc l 0).toArray[i]?).map (·.key)).getD (enc a) = enc a := by
  obtain ⟨h1, h2, h3⟩ := fnd_lt h
  rw [List.getElem?_toArray, ents_get]
  simp at h3; rw [h3]; rfl
theorem mapPut_mobj {t et : TypeId} {H : Hp} {r : Nat} {l : List (α × Value)} {K : Value → Hp → Prop} {v : Value} (KT : KeyT P kt enc) (hu : P.underlying t = some (.map kt et)) (hr : H[r]? = some (mobj enc l)) (a : α)
    (hk : K undef (H.setIfInBounds r (mobj enc (aput a v l)))) : mapPut P t (.map (some r)) (enc a) v H K := by
  unfold mapPut
  simp only [hu, hr, mobj, KT.ck, true_and]
  refine ⟨_, mfind_ents KT a l 0, ?_⟩
  cases hf : fnd a l 0 with
  | none =>
    simp only []
    rw [mobj_push, ← aput_none (by rw [← fnd_aget a l 0, hf]; rfl)]; exact hk
  | some x =>
    obtain ⟨i, y⟩ := x
    simp only [same_key hf, KT.bits, true_and]
    have e : ((ents enc l 0).toArray.modify i fun e => { e with key := enc a, val := v }) = (ents enc (aput a v l) 0).toArray := by
      apply Array.ext'
      rw [Array.toList_modify, List.toList_toArray, List.toList_toArray, ← fnd_modify hf, Nat.sub_zero, ← ents_modify a]
      obtain ⟨h1, h2, h3⟩ := fnd_lt hf
      rw [← ents_modkey (enc := enc) a l 0 i (fun y hy => by simp at h3; rw [h3] at hy; injection hy with hy; rw [← hy])]
      conv => rhs; rw [List.modify_modify_eq]
      rw [List.modify_modify_eq]; rfl
    rw [e]
    have : l.length = (aput a v l).length := by rw [← fnd_modify hf]; simp
    rw [this]; exact hk
/-- A map's entry at a key, made where it's missing. -/
def atouch (z : Value) (a : α) (l : List (α × Value)) : List (α × Value) := match aget l a with | none => l ++ [(a, z)] | some _ => l
def apos (a : α) (l : List (α × Value)) : Nat := ((fnd a l 0).map (·.1)).getD l.length
theorem mapEnt_mobj {t et : TypeId} {H : Hp} {r : Nat} {l : List (α × Value)} {K : Value → Hp → Prop} (KT : KeyT P kt enc) (hu : P.underlying t = some (.map kt et)) (hz : hasZero P et = true) (hr : H[r]? = some (mobj enc l)) (a : α)
    (hk : K (.tuple #[(aget l a).getD (zv P et), .int .i64 (apos a l)]) (H.setIfInBounds r (mobj enc (atouch (zv P et) a l)))) : mapEntK P t (.map (some r)) (enc a) H K := by
  unfold mapEntK
  simp only [hu, hr, mobj, KT.ck, true_and]
  refine ⟨_, mfind_ents KT a l 0, ?_⟩
  unfold atouch apos at hk
  rw [← fnd_aget a l 0] at hk
  cases hf : fnd a l 0 with
  | none =>
    rw [hf] at hk
    simp only [hz, true_and]
    rw [mobj_push]; exact hk
  | some x =>
    obtain ⟨i, y⟩ := x
    rw [hf] at hk
    simp only [same_key hf, KT.bits, true_and]
    have e : ((ents enc l 0).toArray.modify i fun e => { e with key := enc a }) = (ents enc l 0).toArray := by
      apply Array.ext'
      rw [Array.toList_modify, List.toList_toArray]
      obtain ⟨h1, h2, h3⟩ := fnd_lt hf
      exact ents_modkey (enc := enc) a l 0 i (fun y hy => by simp at h3; rw [h3] at hy; injection hy with hy; rw [← hy])
    have e2 : (((ents enc l 0).toArray[i]?).map (·.born)).getD 0 = i := by
      obtain ⟨h1, h2, h3⟩ := fnd_lt hf
      rw [List.getElem?_toArray, ents_get]
      simp at h3; rw [h3]; simp
    rw [e, e2]; exact hk
theorem findIdx_ents : ∀ (l : List (α × Value)) (b i : Nat), i < l.length → (ents enc l b).findIdx? (fun e => (e.born : Int) == ((b + i : Nat) : Int)) = some i
  | [], b, i, h => by simp at h
  | (c, v) :: r, b, 0, h => by simp [ents, List.findIdx?_cons]
  | (c, v) :: r, b, i + 1, h => by
    simp only [ents, List.findIdx?_cons]
    rw [if_neg (by simp; omega)]
    have := findIdx_ents r (b + 1) i (by simpa using h)
    rw [show b + (i + 1) = b + 1 + i by omega, this]; rfl
theorem apos_lt (z : Value) (a : α) (l : List (α × Value)) : apos a l < (atouch z a l).length := by
  unfold apos atouch
  rw [← fnd_aget a l 0]
  cases hf : fnd a l 0 with
  | none => simp
  | some x => obtain ⟨i, y⟩ := x; have := fnd_lt hf; simp; omega
theorem modify_last {β : Type} : ∀ (l : List β) (y : β) (g : β → β), (l ++ [y]).modify l.length g = l ++ [g y]
  | [], y, g => by simp
  | c :: l, y, g => by simp [modify_last l]
theorem touch_put (z x : Value) (a : α) (l : List (α × Value)) : (atouch z a l).modify (apos a l) (fun y => (y.1, x)) = aput a x l := by
  unfold apos atouch
  rw [← fnd_aget a l 0]
  cases hf : fnd a l 0 with
  | none =>
    rw [aput_none (by rw [← fnd_aget a l 0, hf]; rfl)]
    simp only [hf, Option.map_none, Option.getD_none]
    exact modify_last l (a, z) fun y => (y.1, x)
  | some y => obtain ⟨i, y⟩ := y; simp; rw [← fnd_modify hf]; simp
theorem entSt_mobj {H : Hp} {r : Nat} {l : List (α × Value)} {K : Value → Hp → Prop} {k : IntKind} {z x : Value} {a : α} (hr : H[r]? = some (mobj enc (atouch z a l)))
    (hk : K undef (H.setIfInBounds r (mobj enc (aput a x l)))) : entStK (.map (some r)) (.int k (apos a l)) x H K := by
  unfold entStK
  have := findIdx_ents (enc := enc) (atouch z a l) 0 (apos a l) (apos_lt z a l)
  rw [Nat.zero_add] at this
  simp only [hr, mobj, List.findIdx?_toArray, this]
  have e : ((ents enc (atouch z a l) 0).toArray.modify (apos a l) fun e => { e with val := x }) = (ents enc (aput a x l) 0).toArray := by
    apply Array.ext'
    rw [Array.toList_modify, List.toList_toArray, List.toList_toArray, ents_modify a, touch_put]
  rw [e]
  have : (atouch z a l).length = (aput a x l).length := by rw [← touch_put z x a l]; simp
  rw [this]; exact hk
theorem aget_touch {z : Value} {a b : α} {l : List (α × Value)} : (aget (atouch z a l) b).getD z = (aget l b).getD z := by
  unfold atouch
  split
  · rename_i h
    rw [← aput_none h, aget_aput]
    split
    · rename_i e; subst e; rw [h]; rfl
    · rfl
  · rfl
/-- A step of an iterator over a map that isn't changed. -/
theorem nextK_mobj {H : Hp} {r m : Nat} {l : List (α × Value)} {seen : Array Nat} {K : Value → Hp → Prop} (hr : H[r]? = some (.mapIter (some m) l.length seen l.length)) (hm : H[m]? = some (mobj enc l))
    (h1 : ∀ i, (h : i < l.length) → i ∉ seen → K (.tuple #[.bool true, enc l[i].1, l[i].2]) (H.setIfInBounds r (.mapIter (some m) l.length (seen.push i) l.length)))
    (h2 : (∀ i, i < l.length → i ∈ seen) → K (.tuple #[.bool false]) H) : nextK (.pointer (some ⟨r, 0, none⟩)) false H K := by
  unfold nextK
  simp only [hr, hm, mobj]
  have born : ∀ e ∈ ents enc l 0, ∃ i, ∃ h : i < l.length, e = ⟨enc l[i].1, l[i].2, i⟩ := by
    intro e he
    obtain ⟨j, hj⟩ := List.mem_iff_getElem?.1 he
    rw [ents_get] at hj
    cases hl : l[j]? with
    | none => simp [hl] at hj
    | some y =>
      obtain ⟨hlt, hy⟩ := List.getElem?_eq_some_iff.1 hl
      rw [hl] at hj; simp at hj
      exact ⟨j, hlt, by rw [hy, ← hj]⟩
  refine ⟨?_, ?_⟩
  · cases hl : l with
    | nil => simp [ents]
    | cons c r =>
      have : (ents enc l 0).toArray.all (fun e => decide (e.born ≥ l.length)) = false := by
        rw [List.all_toArray, List.all_eq_false]
        refine ⟨⟨enc c.1, c.2, 0⟩, by simp [hl, ents], by simp [hl]⟩
      rw [hl] at this
      simp only [this, Bool.and_false]
  · intro c hc
    unfold cands at hc
    simp only [Array.mem_append, Array.mem_map] at hc
    rcases hc with hc | ⟨e, he, rfl⟩
    · split at hc
      · rename_i hemp
        simp at hc; subst hc
        refine h2 fun i hi => ?_
        refine Classical.byContradiction fun hn => ?_
        have hmem : (⟨enc l[i].1, l[i].2, i⟩ : MapEntry) ∈ ents enc l 0 := by
          rw [List.mem_iff_getElem?]; exact ⟨i, by rw [ents_get, List.getElem?_eq_getElem hi]; simp⟩
        have : (⟨enc l[i].1, l[i].2, i⟩ : MapEntry) ∈ Array.filter (fun x => decide (x.born < l.length)) (Array.filter (fun e => !seen.contains e.born) (ents enc l 0).toArray) := by
          simp only [Array.mem_filter, List.mem_toArray]
          exact ⟨⟨hmem, by simpa using hn⟩, by simpa using hi⟩
        rw [Array.isEmpty_iff] at hemp
        rw [hemp] at this; simp at this
      · simp at hc
    · have he' : e ∈ ents enc l 0 ∧ e.born ∉ seen := by
        rcases he with he | he <;> (simp only [Array.mem_filter, List.mem_toArray] at he; exact ⟨he.1.1, by simpa using he.1.2⟩)
      obtain ⟨i, hi, rfl⟩ := born e he'.1
      exact h1 i hi he'.2
theorem entryK_mobj {H : Hp} {r m i : Nat} {l : List (α × Value)} {seen : Array Nat} (hr : H[r]? = some (.mapIter (some m) l.length (seen.push i) l.length)) (hm : H[m]? = some (mobj enc l)) (hi : i < l.length) :
    entryK (.pointer (some ⟨r, 0, none⟩)) H = some (.tuple #[enc l[i].1, l[i].2]) := by
  unfold entryK
  simp only [hr, hm, mobj, Array.back?_push, if_true, List.find?_toArray]
  have : ∀ (l : List (α × Value)) (b i : Nat) (h : i < l.length), (ents enc l b).find? (fun e => e.born == b + i) = some ⟨enc l[i].1, l[i].2, b + i⟩ := by
    intro l
    induction l with
    | nil => intro b i h; simp at h
    | cons c r ih =>
      obtain ⟨c, v⟩ := c
      intro b i h
      cases i with
      | zero => simp [ents]
      | succ i =>
        simp only [ents, List.find?_cons]
        rw [show (b == b + (i + 1)) = false by simp]
        have := ih (b + 1) i (by simpa using h)
        simp only [show b + (i + 1) = b + 1 + i by omega, this]; simp
  have := this l 0 i hi
  simp only [Nat.zero_add] at this
  rw [this]; rfl
theorem rangeK_mobj {t et : TypeId} {H : Hp} {m : Nat} {l : List (α × Value)} {K : Value → Hp → Prop} (hu : P.underlying t = some (.map kt et)) (hm : H[m]? = some (mobj enc l))
    (hk : K (.pointer (some ⟨H.size, 0, none⟩)) (H.push (.mapIter (some m) l.length #[] l.length))) : rangeK P t (.map (some m)) H K := by
  unfold rangeK
  simp only [hu, hm, mobj]
  exact hk
theorem nodup_bound : ∀ (N : Nat) (l : List Nat), l.Nodup → (∀ x ∈ l, x < N) → l.length ≤ N
  | 0, l, _, h => by
    cases l with
    | nil => simp
    | cons a l => have := h a (by simp); omega
  | N + 1, l, hd, h => by
    by_cases hm : N ∈ l
    · have := nodup_bound N (l.erase N) (hd.erase N) (fun x hx => by
        have h1 := h x (List.mem_of_mem_erase hx)
        have h2 : x ≠ N := by intro e; subst e; exact (List.Nodup.mem_erase_iff hd).1 hx |>.1 rfl
        omega)
      rw [List.length_erase_of_mem hm] at this
      omega
    · have := nodup_bound N l hd (fun x hx => by
        have h1 := h x hx
        have h2 : x ≠ N := fun e => hm (e ▸ hx)
        omega)
      omega
end
end Go.Vy
