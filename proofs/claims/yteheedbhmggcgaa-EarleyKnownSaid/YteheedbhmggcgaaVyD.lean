/- Small rules for the walks. -/
import Derived.Test.YteheedbhmggcgaaVyC
namespace Go.Vy
open Go Go.RowKit
set_option linter.unusedVariables false
set_option linter.unusedSimpArgs false
section
variable {P : Program} {H H' H'' : Hp} {b b' o n : Nat} {E : TypeId} {l vs : List Value} {v : Value} {x : Obj} {B : Option Nat}
theorem vtf : (true == false) = false := rfl
theorem vft : (false == true) = false := rfl
theorem vtt : (true == true) = true := rfl
theorem vff : (false == false) = true := rfl
theorem inI_pos {α : Type} {j : Int} {n : Nat} {a b : α} (h0 : 0 ≤ j) (h1 : j < n) : (if inI j n then a else b) = a := if_pos ⟨h0, h1⟩
def gi (xs : List Int) (j : Int) : Int := xs.getD j.toNat 0
def gl {α : Type} (xs : List (List α)) (j : Int) : List α := xs.getD j.toNat []
theorem gi_nat (xs : List Int) (i : Nat) (h : i < xs.length) : gi xs i = xs[i] := by simp [gi, h]
theorem RdI.opn {xs : List Int} (h : RdI H v xs) (hp : 0 < xs.length) : ∃ b o cap, v = .slice (some ⟨b, o, none⟩) xs.length cap ∧ xs.length ≤ cap ∧ ∀ j : Int, 0 ≤ j → j < xs.length → ldc H ⟨b, o + j.toNat * 1, none⟩ = some (.int .i64 (gi xs j)) := by
  obtain ⟨a, cap, h1, h2, h3⟩ := h
  obtain ⟨b, o, rfl, -⟩ := h3 0 (by simpa using hp)
  refine ⟨b, o, cap, by simpa using h1, by simpa using h2, fun j h0 hj => ?_⟩
  obtain ⟨b', o', h4, h5⟩ := h3 j.toNat (by simp; omega)
  injection h4 with h4; injection h4 with e1 e2; subst e1; subst e2
  rw [Nat.mul_one, h5]
  have : j.toNat < xs.length := by omega
  simp [gi, this]
theorem RdI.opn' {xs : List Int} (h : RdI H v xs) : ∃ a cap, v = .slice a xs.length cap := by
  obtain ⟨a, cap, h1, h2, h3⟩ := h
  exact ⟨a, cap, by simpa using h1⟩
theorem Rd.opn {xs : List Value} (h : Rd H v xs) (hp : 0 < xs.length) : ∃ b o cap, v = .slice (some ⟨b, o, none⟩) xs.length cap ∧ xs.length ≤ cap ∧ ∀ j : Int, 0 ≤ j → j < xs.length → ldc H ⟨b, o + j.toNat * 1, none⟩ = some (xs.getD j.toNat undef) := by
  obtain ⟨a, cap, h1, h2, h3⟩ := h
  obtain ⟨b, o, rfl, -⟩ := h3 0 hp
  refine ⟨b, o, cap, h1, h2, fun j h0 hj => ?_⟩
  obtain ⟨b', o', h4, h5⟩ := h3 j.toNat (by omega)
  injection h4 with h4; injection h4 with e1 e2; subst e1; subst e2
  rw [Nat.mul_one, h5]
  have : j.toNat < xs.length := by omega
  simp [this]
theorem ldS {t s : Nat} (h : tk P t = some (false, s)) (H : Hp) (a : Addr) : ld P H t a = ldc H a := by simp [ld, h]
theorem ldA {t s : Nat} (h : tk P t = some (true, s)) (H : Hp) (a : Addr) : ld P H t a = (ldn H s a).map fun l => .agg l.toArray := by simp [ld, h]
theorem st_ {t s : Nat} {g : Bool} (h : tk P t = some (g, s)) (H : Hp) (a : Addr) (v : Value) : st P H t a v = if v.cells.size = s then stn H a v.cells.toList else none := by simp [st, h]
theorem wrapi {n : Int} (h1 : -9223372036854775808 ≤ n) (h2 : n ≤ 9223372036854775807) : IntKind.i64.wrap n = n := wrap64_id h1 h2
theorem resV1 {t : Tmp} {f : Nat → Value} : resV P [.tmp t] f H = some (f t) := rfl
theorem resV2 {t u : Tmp} {f : Nat → Value} : resV P [.tmp t, .tmp u] f H = some (.tuple #[f t, f u]) := rfl
theorem resV3 {t u w : Tmp} {f : Nat → Value} : resV P [.tmp t, .tmp u, .tmp w] f H = some (.tuple #[f t, f u, f w]) := rfl
theorem resV0 {f : Nat → Value} : resV P [] f H = some (.tuple #[]) := rfl
theorem resVc {a t : Tmp} {f : Nat → Value} {p : Addr} {v : Value} (h : f a = .pointer (some p)) (hv : ld P H t p = some v) : resV P [.cell a t] f H = some v := by
  simp [resV, resOne, h, hv]
theorem W_cond_t {n : Nat} {Q : Exit → (Nat → Value) → Hp → Prop} {f : Nat → Value} {c : Operand} {x y : Code} (hb : ev f c = .bool true) (h : W P n x Q f H) : W P n (.cond c x y) Q f H :=
  W_cond hb (fun _ => h) (fun h => by simp at h)
theorem W_cond_f {n : Nat} {Q : Exit → (Nat → Value) → Hp → Prop} {f : Nat → Value} {c : Operand} {x y : Code} (hb : ev f c = .bool false) (h : W P n y Q f H) : W P n (.cond c x y) Q f H :=
  W_cond hb (fun h => by simp at h) (fun _ => h)
/-- A test that skips on. -/
theorem W_if {n : Nat} {Q : Exit → (Nat → Value) → Hp → Prop} {f : Nat → Value} {c : Operand} {x y z : Code} {t : Bool} (hb : ev f c = .bool t) (h1 : t = true → W P n x (thenQ (W P n z Q) Q) f H) (h2 : t = false → W P n y (thenQ (W P n z Q) Q) f H) : W P n (.seq (.cond c x y) z) Q f H :=
  W_seq (W_cond hb h1 h2)
theorem W_skipK {n : Nat} {Q : Exit → (Nat → Value) → Hp → Prop} {f : Nat → Value} {z : Code} (h : W P n z Q f H) : W P n .skip (thenQ (W P n z Q) Q) f H := W_skip h
theorem W_retK {n : Nat} {Q : Exit → (Nat → Value) → Hp → Prop} {K : (Nat → Value) → Hp → Prop} {f : Nat → Value} (h : Q .ret f H) : W P n .ret (thenQ K Q) f H := W_ret h
theorem W_retB {n : Nat} {Q : Exit → (Nat → Value) → Hp → Prop} {id : Nat} {f : Nat → Value} (h : Q .ret f H) : W P n .ret (blockQ id Q) f H := W_ret h
theorem RdII.opn {xss : List (List Int)} (h : RdII H v xss) (hp : 0 < xss.length) : ∃ (b o cap : Nat) (ra : Int → Option Addr) (rb ro rc : Int → Nat), v = .slice (some ⟨b, o, none⟩) xss.length cap ∧
    (∀ j : Int, 0 ≤ j → j < xss.length → ldc H ⟨b, o + j.toNat * 1, none⟩ = some (.slice (ra j) (gl xss j).length (rc j))) ∧
    (∀ j : Int, 0 ≤ j → j < xss.length → 0 < (gl xss j).length → ra j = some ⟨rb j, ro j, none⟩) ∧
    (∀ j i : Int, 0 ≤ j → j < xss.length → 0 ≤ i → i < (gl xss j).length → ldc H ⟨rb j, ro j + i.toNat * 1, none⟩ = some (.int .i64 (gi (gl xss j) i))) ∧
    (∀ j : Int, 0 ≤ j → j < xss.length → RdI H (.slice (ra j) (gl xss j).length (rc j)) (gl xss j)) := by
  obtain ⟨vs, h1, h2, h3⟩ := h
  obtain ⟨b, o, cap, e, -, hc⟩ := h1.opn (by omega)
  have key : ∀ j : Int, ∃ (a : Option Addr) (x : Nat × Nat × Nat), 0 ≤ j → j < xss.length → (vs.getD j.toNat undef = .slice a (gl xss j).length x.2.2 ∧ (0 < (gl xss j).length → a = some ⟨x.1, x.2.1, none⟩) ∧
      (∀ i : Int, 0 ≤ i → i < (gl xss j).length → ldc H ⟨x.1, x.2.1 + i.toNat * 1, none⟩ = some (.int .i64 (gi (gl xss j) i))) ∧ RdI H (.slice a (gl xss j).length x.2.2) (gl xss j)) := by
    intro j
    by_cases hj : 0 ≤ j ∧ j < xss.length
    · have hr := h3 j.toNat (by omega) (by omega)
      have e1 : vs[j.toNat]'(by omega) = vs.getD j.toNat undef := by simp [show j.toNat < vs.length by omega]
      have e2 : xss[j.toNat]'(by omega) = gl xss j := by simp [gl, show j.toNat < xss.length by omega]
      rw [e1, e2] at hr
      by_cases hz : 0 < (gl xss j).length
      · obtain ⟨b', o', c', g1, g2, g3⟩ := hr.opn hz
        exact ⟨some ⟨b', o', none⟩, (b', o', c'), fun _ _ => ⟨g1, fun _ => rfl, g3, by rw [← g1]; exact hr⟩⟩
      · obtain ⟨a, c', g1⟩ := hr.opn'
        exact ⟨a, (0, 0, c'), fun _ _ => ⟨g1, fun h => absurd h hz, fun i h0 h1 => by omega, by rw [← g1]; exact hr⟩⟩
    · exact ⟨none, (0, 0, 0), fun h0 h1 => absurd ⟨h0, h1⟩ hj⟩
  have k1 := fun j => Classical.choose_spec (key j)
  have k2 := fun j => Classical.choose_spec (k1 j)
  refine ⟨b, o, cap, fun j => Classical.choose (key j), fun j => (Classical.choose (k1 j)).1, fun j => (Classical.choose (k1 j)).2.1, fun j => (Classical.choose (k1 j)).2.2, by rw [e, h2], ?_, ?_, ?_, ?_⟩
  · intro j h0 h1; rw [hc j h0 (by omega)]; exact congrArg some (k2 j h0 h1).1
  · intro j h0 h1 hz; exact (k2 j h0 h1).2.1 hz
  · intro j i h0 h1 g0 g1; exact (k2 j h0 h1).2.2.1 i g0 g1
  · intro j h0 h1; exact (k2 j h0 h1).2.2.2
end
end Go.Vy
