/- Maps that are touched at a key while a region's order is drawn. -/
import Derived.Test.YteheedbhmggcgaaVyJ
namespace Go.Vy
open Go Go.RowKit
set_option linter.unusedVariables false
section
variable {α : Type} [DecidableEq α] {enc : α → Value}
/-- Memory as it was, but a map's entry at a key may have come. -/
structure Tch (enc : α → Value) (m : Nat) (a : α) (z : Value) (l : List (α × Value)) (H H' : Hp) : Prop where
  size : H.size ≤ H'.size
  blk : ∀ b, b < H.size → b ≠ m → H'[b]? = H[b]?
  at_ : m < H.size → H'[m]? = H[m]? ∨ (H[m]? = some (mobj enc l) ∧ H'[m]? = some (mobj enc (atouch z a l)))
theorem Tch.pre (enc : α → Value) (m : Nat) (a : α) (z : Value) (l : List (α × Value)) : Pre (Tch enc m a z l) := by
  refine ⟨fun _ _ h => h.size, fun _ _ _ h k => ⟨Nat.le_trans h.size k.size, fun b hb hn => (k.blk b (Nat.lt_of_lt_of_le hb h.size) hn).trans (h.blk b hb hn), fun hm => ?_⟩, fun _ _ h => ⟨h.size, fun b hb _ => h.blk b hb, fun hm => .inl (h.blk m hm)⟩⟩
  rcases h.at_ hm with e | ⟨e1, e2⟩
  · rcases k.at_ (Nat.lt_of_lt_of_le hm h.size) with e' | ⟨e1', e2'⟩
    · exact .inl (e'.trans e)
    · exact .inr ⟨e.symm.trans e1', e2'⟩
  · rcases k.at_ (Nat.lt_of_lt_of_le hm h.size) with e' | ⟨e1', e2'⟩
    · exact .inr ⟨e1, e'.trans e2⟩
    · exact .inr ⟨e1, e2'⟩
theorem Tch.get {m : Nat} {a : α} {z : Value} {l : List (α × Value)} {H H' : Hp} (h : Tch enc m a z l H H') {b : Nat} {x : Obj} (hb : H[b]? = some x) (hn : b ≠ m) : H'[b]? = some x := by
  rw [h.blk b (by have := lt_of_get hb; omega) hn]; exact hb
theorem Tch.map {m : Nat} {a : α} {z : Value} {l : List (α × Value)} {H H' : Hp} (h : Tch enc m a z l H H') (hb : H[m]? = some (mobj enc l)) : H'[m]? = some (mobj enc l) ∨ H'[m]? = some (mobj enc (atouch z a l)) := by
  rcases h.at_ (lt_of_get hb) with e | ⟨_, e⟩
  · exact .inl (e.trans hb)
  · exact .inr e
end
end Go.Vy
