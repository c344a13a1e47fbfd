/- Slices of elements of several cells. -/
import Derived.Test.YteheedbhmggcgaaVyG
namespace Go.Vy
open Go Go.RowKit
set_option linter.unusedVariables false
set_option linter.unusedSimpArgs false
set_option linter.unusedSectionVars false
section
variable {P : Program} {H H' : Hp} {v : Value} {sz : Nat} {es : List (List Value)} {α : Type}
theorem ldc_of_ldn {n i : Nat} {b o : Nat} {l : List Value} (h : ldn H n ⟨b, o, none⟩ = some l) (hi : i < n) : ldc H ⟨b, o + i, none⟩ = l[i]? := by
  unfold ldn at h
  unfold ldc
  split at h
  · rename_i c E x hb
    split at h
    · rename_i hle
      injection h with h; subst h
      simp only [hb]
      simp at hle ⊢
      rw [List.getElem?_take, if_pos hi, List.getElem?_drop]
      simp
    · simp at h
  · simp at h
theorem ldn_length {n : Nat} {a : Addr} {l : List Value} (h : ldn H n a = some l) : l.length = n := by
  unfold ldn at h
  split at h
  · split at h
    · rename_i hle; injection h with h; subst h; simp at hle ⊢; omega
    · simp at h
  · simp at h
/-- A slice of elements of sz cells, as it reads. -/
def Rde (H : Hp) (v : Value) (sz : Nat) (es : List (List Value)) : Prop :=
  ∃ a cap, v = .slice a es.length cap ∧ es.length ≤ cap ∧ ∀ i, (h : i < es.length) → ∃ b o, a = some ⟨b, o, none⟩ ∧ ldn H sz ⟨b, o + i * sz, none⟩ = some es[i]
theorem Rde.ext (e : Ext H H') (h : Rde H v sz es) : Rde H' v sz es := by
  obtain ⟨a, cap, h1, h2, h3⟩ := h
  refine ⟨a, cap, h1, h2, fun i hi => ?_⟩
  obtain ⟨b, o, h4, h5⟩ := h3 i hi
  exact ⟨b, o, h4, ldn_ext e h5⟩
theorem Rde.nil (H : Hp) (sz : Nat) : Rde H (.slice none 0 0) sz [] := ⟨none, 0, rfl, Nat.le_refl _, fun i hi => by simp at hi⟩
theorem Rde.opn' (h : Rde H v sz es) : ∃ a cap, v = .slice a es.length cap := by
  obtain ⟨a, cap, h1, h2, h3⟩ := h
  exact ⟨a, cap, h1⟩
theorem Rde.opn (h : Rde H v sz es) (hp : 0 < es.length) : ∃ b o cap, v = .slice (some ⟨b, o, none⟩) es.length cap ∧ es.length ≤ cap ∧ ∀ j : Int, 0 ≤ j → j < es.length → ldn H sz ⟨b, o + j.toNat * sz, none⟩ = some (es.getD j.toNat []) := by
  obtain ⟨a, cap, h1, h2, h3⟩ := h
  obtain ⟨b, o, rfl, -⟩ := h3 0 hp
  refine ⟨b, o, cap, h1, h2, fun j h0 hj => ?_⟩
  have hlt : j.toNat < es.length := by omega
  obtain ⟨b', o', h4, h5⟩ := h3 j.toNat hlt
  injection h4 with h4; injection h4 with e1 e2; subst e1; subst e2
  rw [h5]; simp [hlt]
theorem Rde.len (h : Rde H v sz es) (i : Nat) (hi : i < es.length) : es[i].length = sz := by
  obtain ⟨a, cap, h1, h2, h3⟩ := h
  obtain ⟨b, o, _, h5⟩ := h3 i hi
  exact ldn_length h5
theorem Rde.rd (h : Rde H v 1 es) : ∃ xs, es = xs.map (fun x => [x]) ∧ Rd H v xs := by
  refine ⟨es.map (fun l => l.getD 0 undef), ?_, ?_⟩
  · apply List.ext_getElem
    · simp
    · intro i h1 h2
      have := h.len i h1
      simp only [List.getElem_map]
      generalize es[i] = l at *
      match l, this with
      | [x], _ => rfl
  · obtain ⟨a, cap, h1, h2, h3⟩ := h
    refine ⟨a, cap, by simpa using h1, by simpa using h2, fun i hi => ?_⟩
    have hi' : i < es.length := by simpa using hi
    obtain ⟨b, o, h4, h5⟩ := h3 i hi'
    refine ⟨b, o, h4, ?_⟩
    have := ldc_of_ldn h5 (Nat.zero_lt_one)
    rw [Nat.mul_one, Nat.add_zero] at this
    rw [this]
    have hl := ldn_length h5
    simp [hi']
    generalize es[i] = l at *
    match l, hl with
    | [x], _ => rfl
theorem Rd.rde {xs : List Value} (h : Rd H v xs) : Rde H v 1 (xs.map fun x => [x]) := by
  obtain ⟨a, cap, h1, h2, h3⟩ := h
  refine ⟨a, cap, by simpa using h1, by simpa using h2, fun i hi => ?_⟩
  have hi' : i < xs.length := by simpa using hi
  obtain ⟨b, o, h4, h5⟩ := h3 i hi'
  refine ⟨b, o, h4, ?_⟩
  rw [Nat.mul_one]
  simp only [List.getElem_map]
  rw [List.getElem?_eq_getElem hi'] at h5
  unfold ldc at h5
  unfold ldn
  split at h5
  · rename_i c E x _ hb
    simp only [hb]
    simp at h5
    obtain ⟨h6, h7⟩ := Array.getElem?_eq_some_iff.1 h5
    rw [if_pos (by show o + i + 1 ≤ c.size; omega)]
    congr 1
    rw [List.take_one, List.head?_drop]
    simp [h6, h7]
  · simp at h5
theorem Rde.cells (h : Rde H v sz es) : ∃ ys, cellsOfSl H sz v = some (es.length, ys) ∧ ys = es.flatten := by
  obtain ⟨a, cap, rfl, h2, h3⟩ := h
  by_cases hn : es.length = 0
  · have : es = [] := List.eq_nil_of_length_eq_zero hn
    subst this
    cases a with
    | none => exact ⟨_, rfl, rfl⟩
    | some x =>
      obtain ⟨b, o, s⟩ := x
      refine ⟨[], ?_, rfl⟩
      cases s with
      | none =>
        simp only [cellsOfSl, List.length_nil, Nat.zero_mul, Nat.add_zero, List.take_zero, if_true]
        split
        · split <;> rfl
        · rfl
      | some s => simp [cellsOfSl]
  · obtain ⟨b, o, rfl, h0⟩ := h3 0 (by omega)
    have key : ∀ i, (h : i < es.length) → ldn H sz ⟨b, o + i * sz, none⟩ = some es[i] := by
      intro i hi
      obtain ⟨b', o', h4, h5⟩ := h3 i hi
      injection h4 with h4; injection h4 with e1 e2; subst e1; subst e2
      exact h5
    clear h3
    unfold ldn at h0
    split at h0
    · rename_i c E x _ hb
      simp only [ldn, hb] at key
      have hlast := key (es.length - 1) (by omega)
      split at hlast
      · rename_i hle
        simp only [cellsOfSl, hb]
        have hmul : (es.length - 1) * sz + sz = es.length * sz := by
          rw [← Nat.succ_mul]; congr 1; omega
        have hle : o + (es.length - 1) * sz + sz ≤ c.size := hle
        have hsz : o + es.length * sz ≤ c.size := by omega
        rw [if_pos hsz]
        refine ⟨_, rfl, ?_⟩
        have : ∀ k, k ≤ es.length → (c.toList.drop o).take (k * sz) = (es.take k).flatten := by
          intro k
          induction k with
          | zero => intro; simp
          | succ k ih =>
            intro hk
            have hk' := key k (by omega)
            split at hk'
            · injection hk' with hk'
              rw [Nat.succ_mul, List.take_add, ih (by omega), List.take_add_one, List.getElem?_eq_getElem (by omega), List.flatten_append]
              simp [← hk']
            · simp at hk'
        have := this es.length (Nat.le_refl _)
        rw [this]; simp
      · simp at hlast
    · simp at h0
end
end Go.Vy
