/- Scopes with one label. -/
import Derived.Test.YteheedbhmggcgaaVyI
import Derived.ScopeJumps
namespace Go.Vy
open Go Go.RowKit
set_option linter.unusedVariables false
def jumpQ (l : Nat) (J : (Nat → Value) → Hp → Prop) (Q : Exit → (Nat → Value) → Hp → Prop) : Exit → (Nat → Value) → Hp → Prop
  | .goto l', f, H => l' = l ∧ J f H
  | e, f, H => Q e f H
section
variable {P : Program} {n : Nat} {Q : Exit → (Nat → Value) → Hp → Prop} {f : Nat → Value} {H : Hp}
theorem W_scope {c rest : Code} (l : Nat) (hf : findLabel c l = some rest) (hr : cok n rest = true) (I : Nat → (Nat → Value) → Hp → Prop)
    (first : W P n c (jumpQ l (fun f' H' => ∃ k, I k f' H') Q) f H) (pass : ∀ k f H, I k f H → W P n rest (jumpQ l (fun f' H' => ∃ j, j < k ∧ I j f' H') Q) f H) : W P n (.scope c) Q f H := by
  intro hc a w h1 h2 h3 h4
  classical
  have hc : cok n c = true := by simpa only [cok] using hc
  let J : Act → World → Prop := fun a' w' => a'.defers = [] ∧ a'.tmps.size = n ∧ Same w w' ∧ ∃ k, I k (slots a') w'.heap
  let M : Act → World → Nat := fun a' w' => if h : ∃ k, I k (slots a') w'.heap then (Classical.choose (p := fun k => I k (slots a') w'.heap ∧ ∀ j, I j (slots a') w'.heap → k ≤ j) (by
    obtain ⟨k, hk⟩ := h
    induction k using Nat.strongRecOn with
    | _ k ih =>
      by_cases e : ∃ j, j < k ∧ I j (slots a') w'.heap
      · obtain ⟨j, hj, hI⟩ := e; exact ih j hj hI
      · exact ⟨k, hk, fun j hj => Nat.le_of_not_lt fun hl => e ⟨j, hl, hj⟩⟩)) else 0
  refine wp_scope_jumps l J M hf ?_ ?_
  · refine wp_mono (first hc a w h1 h2 h3 h4) ?_
    rintro e a2 w2 ⟨q1, q2, q3, q4⟩
    cases e with
    | goto l' => exact ⟨q4.1, q1, q2, q3, q4.2⟩
    | normal => exact ⟨q1, q2, q3, q4⟩
    | exit id => exact ⟨q1, q2, q3, q4⟩
    | ret => exact ⟨q1, q2, q3, q4⟩
    | panic ch => exact ⟨q1, q2, q3, q4⟩
    | outgrown => exact ⟨q1, q2, q3, q4⟩
  · rintro a' w' ⟨k1, k2, k3, hex⟩
    have hM : I (M a' w') (slots a') w'.heap := by
      simp only [M, dif_pos hex]
      exact (Classical.choose_spec (p := fun k => I k (slots a') w'.heap ∧ ∀ j, I j (slots a') w'.heap → k ≤ j) _).1
    refine wp_mono (pass _ _ _ hM hr a' w' k1 k2 rfl rfl) ?_
    rintro e a2 w2 ⟨q1, q2, q3, q4⟩
    cases e with
    | goto l' =>
      obtain ⟨e, j, hj, hI⟩ := q4
      refine ⟨e, ⟨q1, q2, k3.trans q3, j, hI⟩, Nat.lt_of_le_of_lt ?_ hj⟩
      have hex2 : ∃ k, I k (slots a2) w2.heap := ⟨j, hI⟩
      simp only [M, dif_pos hex2]
      exact (Classical.choose_spec (p := fun k => I k (slots a2) w2.heap ∧ ∀ j, I j (slots a2) w2.heap → k ≤ j) _).2 j hI
    | normal => exact ⟨q1, q2, k3.trans q3, q4⟩
    | exit id => exact ⟨q1, q2, k3.trans q3, q4⟩
    | ret => exact ⟨q1, q2, k3.trans q3, q4⟩
    | panic ch => exact ⟨q1, q2, k3.trans q3, q4⟩
    | outgrown => exact ⟨q1, q2, k3.trans q3, q4⟩
/-- A scope that begins with a region and a label. -/
theorem W_scopeL {b : Code} {l id : Nat} {ops : Array Oper} {dr : Bool} (I : Nat → (Nat → Value) → Hp → Prop)
    (first : W P n (.region id ops dr) (thenQ (fun f' H' => ∃ k, I k f' H') fun _ _ _ => False) f H)
    (pass : ∀ k f H, I k f H → W P n b (jumpQ l (fun f' H' => ∃ j, j < k ∧ I j f' H') Q) f H) : W P n (.scope (.seq (.region id ops dr) (.seq (.label l) b))) Q f H := by
  intro hc
  have hb : cok n b = true := by
    simp only [cok, Bool.and_eq_true] at hc; exact hc.2.2
  refine W_scope (rest := .seq .skip b) l (by simp [findLabel]) (by simp [cok, hb]) I ?_ ?_ hc
  · refine W_seq (W_mono first ?_)
    rintro e f' H' hq
    cases e <;> simp only [thenQ] at hq ⊢
    obtain ⟨k, hk⟩ := hq
    refine W_seq (W_label ?_)
    refine W_mono (pass k f' H' hk) ?_
    intro e f2 H2 h2
    cases e <;> simp only [jumpQ] at h2 ⊢ <;> first | exact h2 | exact ⟨h2.1, _, h2.2.choose_spec.2⟩
  · intro k f' H' hk
    exact W_seq (W_skip (pass k f' H' hk))
end
end Go.Vy
