/- What single operations come to, as conditions on values and the heap; each is shown of the model's own meaning. -/
import Derived.Test.YteheedbhmggcgaaVy1
import Derived.Laws.CopyRow
namespace Go.Vy
open Go Go.RowKit
set_option linter.unusedVariables false
set_option linter.unusedSimpArgs false

section types
variable (P : Program)
/-- Is a type's value an aggregate; its cells. -/
def tk (t : TypeId) : Option (Bool × Nat) :=
  match P.underlying t, P.info? t with
  | some (.struct _), some i | some (.array _ _), some i => some (true, i.size)
  | some _, some i => some (false, i.size)
  | _, _ => none
/-- An array's length (none: a slice), the cells of an element. -/
def ixk (t : TypeId) : Option (Option Nat × Nat) :=
  match P.underlying t with
  | some (.array n e) => (P.info? e).map fun i => (some n, i.size)
  | some (.slice e) => (P.info? e).map fun i => (none, i.size)
  | _ => none
/-- Where a field lies: is it an aggregate, its first cell, its cells. -/
def fld (t : TypeId) (i : Nat) : Option (Bool × Nat × Nat) :=
  match P.underlying t with
  | some (.struct fs) => match fs[i]? with
    | some x => (tk P x.type).bind fun (b, s) => if s = 0 then none else some (b, x.offset, s)
    | none => none
  | _ => none
/-- The cells of a type's zero. -/
def zc (t : TypeId) : List Value := match (P.info? t).bind (·.zero) with | some v => v.cells.toList | none => []
end types

/-- Cells from a place on are written anew. -/
def ow (l : List Value) (o : Nat) (vs : List Value) : List Value := l.take o ++ vs ++ l.drop (o + vs.length)
theorem ow_length {l : List Value} {o : Nat} {vs : List Value} (h : o + vs.length ≤ l.length) : (ow l o vs).length = l.length := by
  simp [ow]; omega
theorem ow_one {l : List Value} {o : Nat} {v : Value} (h : o < l.length) : ow l o [v] = l.set o v := by
  rw [ow, List.set_eq_take_append_cons_drop, if_pos h]; simp
theorem ow_all {l : List Value} {vs : List Value} (h : vs.length = l.length) : ow l 0 vs = vs := by
  rw [ow]; simp [h]

/-- One cell. -/
def ldc (H : Hp) (a : Addr) : Option Value :=
  match a.spot, H[a.block]? with
  | none, some (.cells c _ _) => c[a.off]?
  | _, _ => none
/-- So many cells. -/
def ldn (H : Hp) (n : Nat) (a : Addr) : Option (List Value) :=
  match a.spot, H[a.block]? with
  | none, some (.cells c _ _) => if a.off + n ≤ c.size then some ((c.toList.drop a.off).take n) else none
  | _, _ => none
def stn (H : Hp) (a : Addr) (vs : List Value) : Option Hp :=
  match a.spot, H[a.block]? with
  | none, some (.cells c E (0, 0)) => if a.off + vs.length ≤ c.size ∧ vs.all (·.oneCell') = true then some (H.setIfInBounds a.block (.cells (ow c.toList a.off vs).toArray E (0, 0))) else none
  | _, _ => none
def ld (P : Program) (H : Hp) (t : TypeId) (a : Addr) : Option Value :=
  match tk P t with
  | some (true, n) => (ldn H n a).map fun l => .agg l.toArray
  | some (false, _) => ldc H a
  | none => none
def st (P : Program) (H : Hp) (t : TypeId) (a : Addr) (v : Value) : Option Hp :=
  match tk P t with
  | some (_, n) => if v.cells.size = n then stn H a v.cells.toList else none
  | none => none

section
variable {P : Program} {f : Nat → Value} {H : Hp} {K : Value → Hp → Prop} {ty : TypeId}
theorem modify_set {α : Type} (xs : Array α) (b : Nat) (x : α) (g : α → α) (h : xs[b]? = some x) : xs.modify b g = xs.setIfInBounds b (g x) := by
  apply Array.ext_getElem?
  intro i
  rw [Array.getElem?_modify, Array.getElem?_setIfInBounds]
  by_cases e : b = i
  · subst e
    have hb : b < xs.size := by have := (Array.getElem?_eq_some_iff.1 h).1; exact this
    have hx : xs[b] = x := (Array.getElem?_eq_some_iff.1 h).2
    simp [hb, hx]
  · simp [e]
theorem bind_ok {α β : Type} {s : Sem α} {k : α → Sem β} {w w' : World} {x : α} (h : s.run P w = .ok x w') : (s >>= k).run P w = (k x).run P w' := by
  rw [Sem.run_bind, h]; rfl
theorem pure_run {α : Type} (x : α) (w : World) : (pure x : Sem α).run P w = .ok x w := rfl
theorem underlying_run {t : TypeId} {d : TypeDesc} (h : P.underlying t = some d) (w : World) : (underlying t).run P w = .ok d w := by
  simp [underlying, h, go_sem, program, Sem.run]
theorem typeInfo_run {t : TypeId} {i : TypeInfo} (h : P.info? t = some i) (w : World) : (typeInfo t).run P w = .ok i w := by
  simp [typeInfo, h, go_sem, program, Sem.run]
theorem sizeOf_run {t : TypeId} {i : TypeInfo} (h : P.info? t = some i) (w : World) : (sizeOf t).run P w = .ok i.size w := by
  simp [sizeOf, typeInfo_run h, go_sem]
theorem ld_run {t : TypeId} {a : Addr} {v : Value} (w : World) (h : ld P w.heap t a = some v) : (loadVar t a).run P w = .ok v w := by
  obtain ⟨b, o, sp⟩ := a
  unfold ld at h
  split at h
  · rename_i n h3
    unfold ldn at h
    simp only at h
    split at h
    rotate_left
    · simp at h
    rename_i c E fr h2
    split at h
    · rename_i hle
      simp only [Option.map_some] at h
      injection h with h; subst h
      have hag : (isAgg t).run P w = .ok true w ∧ ∃ i, P.info? t = some i ∧ i.size = n := by
        unfold tk at h3
        split at h3
        · rename_i i hu hi; injection h3 with h3; injection h3 with _ h3
          exact ⟨by simp [isAgg, underlying_run hu, go_sem], i, hi, h3⟩
        · rename_i i hu hi; injection h3 with h3; injection h3 with _ h3
          exact ⟨by simp [isAgg, underlying_run hu, go_sem], i, hi, h3⟩
        · simp at h3
        · simp at h3
      obtain ⟨ha, i, hi, rfl⟩ := hag
      have hl : ((c.toList.drop o).take i.size).length = i.size := by simp; omega
      have := run_loadCells_list (P := P) (w := w) ⟨b, o, none⟩ ((c.toList.drop o).take i.size) (by
        intro j v hj
        have hjl : j < i.size := by
          have := (List.getElem?_eq_some_iff.1 hj).1; omega
        rw [List.getElem?_take, if_pos hjl, List.getElem?_drop] at hj
        have hadd : (⟨b, o, none⟩ : Addr).add j = ⟨b, o + j, none⟩ := by unfold Addr.add; split <;> simp_all
        rw [hadd]
        simp [World.cell?, h2]
        simpa using hj)
      rw [hl] at this
      unfold loadVar
      rw [bind_ok ha, if_pos rfl, bind_ok (sizeOf_run hi w), bind_ok this]; rfl
    · simp at h
  · rename_i n h3
    unfold ldc at h
    simp only at h
    split at h
    rotate_left
    · simp at h
    rename_i c E fr h2
    have ha : (isAgg t).run P w = .ok false w := by
      unfold tk at h3
      split at h3
      · simp at h3
      · simp at h3
      · rename_i d i hns hna hu hi
        unfold isAgg
        rw [bind_ok (underlying_run hu w)]
        cases d <;> first | rfl | (exfalso; exact hns _ _ rfl hi) | (exfalso; exact hna _ _ _ rfl) | (exfalso; simp_all)
      · simp at h3
    have hc : w.cell? ⟨b, o, none⟩ = some v := by simp [World.cell?, h2, h]
    unfold loadVar
    rw [bind_ok ha]
    simp [load, Sem.run, hc]
  · simp at h
theorem st_run {t : TypeId} {a : Addr} {v : Value} {H' : Hp} (w : World) (h : st P w.heap t a v = some H') : (storeVar t a v).run P w = .ok () { w with heap := H' } := by
  obtain ⟨b, o, sp⟩ := a
  unfold st at h
  split at h
  · rename_i bb n h3
    split at h
    rotate_left
    · simp at h
    rename_i g1
    unfold stn at h
    simp only at h
    split at h
    rotate_left
    · simp at h
    rename_i c E h2
    split at h
    · rename_i hle
      injection h with h; subst h
      obtain ⟨g2, g3⟩ := hle
      have hi : ∃ i, P.info? t = some i ∧ i.size = n := by
        unfold tk at h3
        split at h3 <;> simp_all
      obtain ⟨i, hi, rfl⟩ := hi
      have := run_storeCells_at (P := P) b o E v.cells.toList 0 c w h2 (by simpa [g1] using g2) (by
        intro x hx; exact List.all_eq_true.1 g3 x hx)
      unfold storeVar
      rw [bind_ok (sizeOf_run hi w)]
      show (if v.cells.size ≠ i.size then _ else storeCells ⟨b, o, none⟩ v.cells.toList).run P w = _
      rw [if_neg (by simp [g1]), this]
      simp only [Nat.add_zero, World.setRow, ow]
      rw [modify_set _ _ _ _ h2]
    · simp at h
  · simp at h
end
end Go.Vy
