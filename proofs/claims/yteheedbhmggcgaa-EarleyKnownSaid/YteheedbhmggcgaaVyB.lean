/- Heaps: extensions, rows, slices that are read, slices of one's own. -/
import Derived.Test.YteheedbhmggcgaaVyA
namespace Go.Vy
open Go Go.RowKit
set_option linter.unusedVariables false
set_option linter.unusedSimpArgs false

/-- What was there is as it was. -/
structure Ext (H H' : Hp) : Prop where
  size : H.size ≤ H'.size
  blk : ∀ b, b < H.size → H'[b]? = H[b]?
/-- What was there, but for one block, is as it was. -/
structure Frm (H H' : Hp) (B : Option Nat) : Prop where
  size : H.size ≤ H'.size
  blk : ∀ b, b < H.size → B ≠ some b → H'[b]? = H[b]?
section
variable {P : Program} {H H' H'' : Hp} {b b' o n : Nat} {E : TypeId} {l vs : List Value} {v : Value} {x : Obj} {B : Option Nat}
theorem Ext.refl (H : Hp) : Ext H H := ⟨Nat.le_refl _, fun _ _ => rfl⟩
theorem Ext.trans (h : Ext H H') (k : Ext H' H'') : Ext H H'' := ⟨Nat.le_trans h.size k.size, fun b hb => (k.blk b (Nat.lt_of_lt_of_le hb h.size)).trans (h.blk b hb)⟩
theorem Ext.push (h : Ext H H') (x : Obj) : Ext H (H'.push x) :=
  ⟨by have := h.size; simp; omega, fun b hb => by rw [Array.getElem?_push, if_neg (by have := h.size; omega)]; exact h.blk b hb⟩
theorem Ext.set (h : Ext H H') (hb : H.size ≤ b) (x : Obj) : Ext H (H'.setIfInBounds b x) :=
  ⟨by have := h.size; simpa using this, fun c hc => by rw [Array.getElem?_setIfInBounds, if_neg (by omega)]; exact h.blk c hc⟩
theorem Ext.frm (h : Ext H H') (k : Frm H' H'' B) (hB : ∀ b, B = some b → H.size ≤ b) : Ext H H'' :=
  ⟨Nat.le_trans h.size k.size, fun b hb => (k.blk b (Nat.lt_of_lt_of_le hb h.size) (fun e => by have := hB b e; omega)).trans (h.blk b hb)⟩
theorem Ext.get (h : Ext H H') (hb : H[b]? = some x) : H'[b]? = some x := by
  have : b < H.size := (Array.getElem?_eq_some_iff.1 hb).1
  rw [h.blk b this, hb]
theorem Frm.get (h : Frm H H' B) (hb : H[b]? = some x) (hn : B ≠ some b) : H'[b]? = some x := by
  have : b < H.size := (Array.getElem?_eq_some_iff.1 hb).1
  rw [h.blk b this hn, hb]
theorem Frm.refl (H : Hp) (B : Option Nat) : Frm H H B := ⟨Nat.le_refl _, fun _ _ _ => rfl⟩
theorem Frm.ext (h : Frm H H' none) : Ext H H' := ⟨h.size, fun b hb => h.blk b hb (by simp)⟩
theorem lt_of_get (hb : H[b]? = some x) : b < H.size := (Array.getElem?_eq_some_iff.1 hb).1
theorem get_push (hb : H[b]? = some x) (y : Obj) : (H.push y)[b]? = some x := (Ext.refl H).push y |>.get hb
theorem get_new (H : Hp) (x : Obj) : (H.push x)[H.size]? = some x := by simp
theorem get_set (hb : b < H.size) (x : Obj) : (H.setIfInBounds b x)[b]? = some x := by rw [Array.getElem?_setIfInBounds]; simp [hb]
theorem get_set_ne (hn : b ≠ b') (x : Obj) : (H.setIfInBounds b x)[b']? = H[b']? := by rw [Array.getElem?_setIfInBounds, if_neg hn]

theorem ldc_row (h : H[b]? = some (row E l)) (o : Nat) : ldc H ⟨b, o, none⟩ = l[o]? := by simp [ldc, h, row]
theorem ldn_row (h : H[b]? = some (row E l)) (n o : Nat) : ldn H n ⟨b, o, none⟩ = if o + n ≤ l.length then some ((l.drop o).take n) else none := by simp [ldn, h, row]
theorem stn_row (h : H[b]? = some (row E l)) (h1 : o + vs.length ≤ l.length) (h2 : vs.all (·.oneCell') = true) : stn H ⟨b, o, none⟩ vs = some (H.setIfInBounds b (row E (ow l o vs))) := by
  simp only [stn, h, row]
  rw [if_pos ⟨by simpa using h1, h2⟩]
theorem ldc_blk (h : H'[b]? = H[b]?) (o : Nat) : ldc H' ⟨b, o, none⟩ = ldc H ⟨b, o, none⟩ := by simp [ldc, h]
theorem ldc_lt {a : Addr} (h : ldc H a = some v) : a.block < H.size := by
  unfold ldc at h
  split at h
  · rename_i hb; exact lt_of_get hb
  · simp at h
theorem ldn_lt {a : Addr} (h : ldn H n a = some l) : a.block < H.size := by
  unfold ldn at h
  split at h
  · rename_i hb; exact lt_of_get hb
  · simp at h
theorem ldc_ext {a : Addr} (e : Ext H H') (h : ldc H a = some v) : ldc H' a = some v := by
  have hb := e.blk _ (ldc_lt h)
  unfold ldc at *
  rw [hb]; exact h
theorem ldn_ext {a : Addr} (e : Ext H H') (h : ldn H n a = some l) : ldn H' n a = some l := by
  have hb := e.blk _ (ldn_lt h)
  unfold ldn at *
  rw [hb]; exact h

/-- A slice of elements of one cell each, as it reads. -/
def Rd (H : Hp) (v : Value) (xs : List Value) : Prop :=
  ∃ a cap, v = .slice a xs.length cap ∧ xs.length ≤ cap ∧ ∀ i, i < xs.length → ∃ b o, a = some ⟨b, o, none⟩ ∧ ldc H ⟨b, o + i, none⟩ = xs[i]?
theorem Rd.ext {xs : List Value} (e : Ext H H') (h : Rd H v xs) : Rd H' v xs := by
  obtain ⟨a, cap, h1, h2, h3⟩ := h
  refine ⟨a, cap, h1, h2, fun i hi => ?_⟩
  obtain ⟨b, o, h4, h5⟩ := h3 i hi
  refine ⟨b, o, h4, ?_⟩
  rw [List.getElem?_eq_getElem hi] at h5 ⊢
  exact ldc_ext e h5
theorem Rd.nil (H : Hp) : Rd H (.slice none 0 0) [] := ⟨none, 0, rfl, Nat.le_refl _, fun i hi => by simp at hi⟩
/-- One slice reads in one way alone. -/
theorem Rd.inj {xs ys : List Value} (h : Rd H v xs) (k : Rd H v ys) : xs = ys := by
  obtain ⟨a, cap, h1, h2, h3⟩ := h
  obtain ⟨a', cap', k1, k2, k3⟩ := k
  rw [h1] at k1
  injection k1 with e1 e2 e3
  subst e1
  apply List.ext_getElem? 
  intro i
  by_cases hi : i < xs.length
  · obtain ⟨b, o, h4, h5⟩ := h3 i hi
    obtain ⟨b', o', h6, h7⟩ := k3 i (by omega)
    rw [h4] at h6; injection h6 with h6; injection h6 with e4 e5; subst e4; subst e5
    rw [← h5, ← h7]
  · rw [List.getElem?_eq_none (by omega), List.getElem?_eq_none (by omega)]
abbrev iv (n : Int) : Value := .int .i64 n
def RdI (H : Hp) (v : Value) (xs : List Int) : Prop := Rd H v (xs.map iv)
def RdII (H : Hp) (v : Value) (xss : List (List Int)) : Prop := ∃ vs, Rd H v vs ∧ vs.length = xss.length ∧ ∀ (i : Nat) (h : i < vs.length) (k : i < xss.length), RdI H vs[i] xss[i]
theorem RdI.ext {xs : List Int} (e : Ext H H') (h : RdI H v xs) : RdI H' v xs := Rd.ext e h
theorem RdII.ext {xs : List (List Int)} (e : Ext H H') (h : RdII H v xs) : RdII H' v xs := by
  obtain ⟨vs, h1, h2, h3⟩ := h
  exact ⟨vs, h1.ext e, h2, fun i h k => (h3 i h k).ext e⟩

/-- A slice of one's own: nil, or from the beginning of a block on; its cells, and room behind them. -/
def Own (H : Hp) (v : Value) (E : TypeId) (sz n : Nat) (l : List Value) (B : Option Nat) : Prop :=
  l.length = n * sz ∧ ((B = none ∧ v = .slice none 0 0 ∧ n = 0) ∨ ∃ k cap sp, B = some k ∧ v = .slice (some ⟨k, 0, none⟩) n cap ∧ n ≤ cap ∧ H[k]? = some (row E (l ++ sp)) ∧ cap * sz = l.length + sp.length)
theorem Own.nil (H : Hp) (E : TypeId) (sz : Nat) : Own H (.slice none 0 0) E sz 0 [] none := ⟨by simp, .inl ⟨rfl, rfl, rfl⟩⟩
theorem Own.keep {sz : Nat} (h : Own H v E sz n l B) (hk : ∀ b, B = some b → H'[b]? = H[b]?) : Own H' v E sz n l B := by
  obtain ⟨h1, h2 | ⟨k, cap, sp, rfl, h3, h4, h5, h6⟩⟩ := h
  · exact ⟨h1, .inl h2⟩
  · exact ⟨h1, .inr ⟨k, cap, sp, rfl, h3, h4, by rw [hk k rfl]; exact h5, h6⟩⟩
theorem Own.lt {sz : Nat} (h : Own H v E sz n l B) (b : Nat) (e : B = some b) : b < H.size := by
  obtain ⟨h1, ⟨rfl, _⟩ | ⟨k, cap, sp, rfl, h3, h4, h5, h6⟩⟩ := h
  · simp at e
  · injection e with e; subst e; exact lt_of_get h5
theorem Own.push {sz : Nat} (h : Own H v E sz n l B) (x : Obj) : Own (H.push x) v E sz n l B :=
  h.keep fun b e => by have := h.lt b e; rw [Array.getElem?_push, if_neg (by omega)]
theorem Own.rd (h : Own H v E 1 n l B) : Rd H v l := by
  obtain ⟨h1, ⟨rfl, rfl, rfl⟩ | ⟨k, cap, sp, rfl, rfl, h4, h5, h6⟩⟩ := h
  · have : l = [] := List.eq_nil_of_length_eq_zero (by simpa using h1)
    subst this; exact Rd.nil H
  · refine ⟨some ⟨k, 0, none⟩, cap, by simp at h1; rw [h1], by omega, fun i hi => ⟨k, 0, rfl, ?_⟩⟩
    rw [ldc_row h5]; simp [List.getElem?_append_left hi]

theorem zeros_of_zc {m : Nat} : (rep m (zc P E)).length = m * (zc P E).length := rep_length _ _
theorem cells_own {sz k : Nat} {ys : List Value} (h : Own H v E sz k ys B) : cellsOfSl H sz v = some (k, ys) := by
  obtain ⟨h1, ⟨rfl, rfl, rfl⟩ | ⟨b, cap, sp, rfl, rfl, h4, h5, h6⟩⟩ := h
  · have : ys = [] := List.eq_nil_of_length_eq_zero (by simpa using h1)
    subst this; rfl
  · simp only [cellsOfSl, h5, row]
    rw [if_pos (by simp; omega)]
    simp [h1]
theorem appK_own {t : TypeId} {K : Value → Hp → Prop} {sz by_ n k : Nat} {s x : Value} {l ys : List Value} (ht : slT P t = some (E, sz, by_)) (hs : Own H s E sz n l B) (hx : cellsOfSl H sz x = some (k, ys)) (hyl : ys.length = k * sz)
    (h1 : ∀ y ∈ ys, y.oneCell' = true) (hz : hasZero P E = true) (hzl : (zc P E).length = sz) (hb : (2 * (n + k) + 1024) * by_ ≤ 2 ^ 48) (hb2 : n + k ≤ 2 ^ 48)
    (hK : ∀ v' H' B', Own H' v' E sz (n + k) (l ++ ys) B' → Frm H H' B → (B' = B ∨ B' = some H.size) → K v' H') : appK P t s x H K := by
  have hc := cells_own hs
  obtain ⟨hl, ⟨rfl, rfl, rfl⟩ | ⟨b, cap, sp, rfl, rfl, h4, h5, h6⟩⟩ := hs
  · have : l = [] := List.eq_nil_of_length_eq_zero (by simpa using hl)
    subst this
    simp only [appK, ht]
    refine ⟨k, ys, hx, fun hle => ?_, fun hgt => ⟨Nat.le_trans (Nat.mul_le_mul_right _ (nextcap_le _ _ hgt)) hb, hb2, hz, [], hc, fun nc hnc => ?_⟩⟩
    · have hk : k = 0 := by omega
      subst hk
      have : ys = [] := List.eq_nil_of_length_eq_zero (by simpa using hyl)
      subst this
      exact ⟨rfl, hK _ _ none (Own.nil H E sz) (Frm.refl H _) (.inl rfl)⟩
    · refine hK _ _ (some H.size) ⟨by simp [Nat.add_mul, hyl], .inr ⟨H.size, nc, rep (nc - (0 + k)) (zc P E), rfl, rfl, hnc, get_new _ _, ?_⟩⟩ ⟨by simp, fun b hb _ => by rw [Array.getElem?_push, if_neg (by omega)]⟩ (.inr rfl)
      rw [rep_length, hzl]; simp only [List.nil_append, hyl]
      rw [← Nat.add_mul]; congr 1; omega
  · simp only [appK, ht]
    refine ⟨k, ys, hx, fun hle => ?_, fun hgt => ⟨Nat.le_trans (Nat.mul_le_mul_right _ (nextcap_le _ _ hgt)) hb, hb2, hz, l, hc, fun nc hnc => ?_⟩⟩
    · refine ⟨_, _, h5, ?_, h1, ?_⟩
      · simp; have := Nat.mul_le_mul_right sz hle; omega
      · have hlt := lt_of_get h5
        refine hK _ _ (some b) ⟨by simp [Nat.add_mul, hyl, hl], .inr ⟨b, cap, sp.drop ys.length, rfl, rfl, hle, ?_, ?_⟩⟩ ⟨by simp, fun c hc hn => by rw [Array.getElem?_setIfInBounds, if_neg (fun e => hn (by rw [e]))]⟩ (.inl rfl)
        · rw [get_set hlt]
          congr 1
          simp only [row]
          congr 2
          simp only [ow, Nat.zero_add, ← hl, List.take_left']
          rw [List.drop_append, List.drop_eq_nil_of_le (by omega)]
          simp
        · simp; have := Nat.mul_le_mul_right sz hle; rw [Nat.add_mul] at this; omega
    · refine hK _ _ (some H.size) ⟨by simp [Nat.add_mul, hyl, hl], .inr ⟨H.size, nc, rep (nc - (n + k)) (zc P E), rfl, rfl, hnc, get_new _ _, ?_⟩⟩ ⟨by simp, fun b hb _ => by rw [Array.getElem?_push, if_neg (by omega)]⟩ (.inr rfl)
      rw [rep_length, hzl]; simp only [List.length_append, hyl, hl]
      rw [← Nat.add_mul, ← Nat.add_mul]; congr 1; omega
end
end Go.Vy
