/- Grammars as plain data, and as they lie in the heap. -/
import Derived.Test.YteheedbhmggcgaaVyH
namespace Go.Vy
open Go Go.RowKit
set_option linter.unusedVariables false
structure Pr where
  left : Int
  rhs : List Int
  ln : Int
  lk : Int
  deriving Inhabited, DecidableEq
structure Gm where
  ts : List Value
  lev : List (Int × Int)
  pats : List (List Value)
  ns : List Value
  prods : List Pr
def Gm.nt (g : Gm) : Nat := g.ts.length
def Gm.nn (g : Gm) : Nat := g.ns.length
def gp (g : Gm) (j : Int) : Pr := g.prods.getD j.toNat default
theorem gp_nat (g : Gm) (i : Nat) (h : i < g.prods.length) : gp g i = g.prods[i] := by simp [gp, h]
theorem gp_mem {g : Gm} {j : Int} (h0 : 0 ≤ j) (h1 : j < g.prods.length) : gp g j ∈ g.prods := by
  have : j.toNat < g.prods.length := by omega
  simp [gp, this]
theorem mem_gp {g : Gm} {p : Pr} (h : p ∈ g.prods) : ∃ j : Int, 0 ≤ j ∧ j < g.prods.length ∧ gp g j = p := by
  obtain ⟨i, hi, rfl⟩ := List.getElem_of_mem h
  exact ⟨i, by omega, by omega, gp_nat g i hi⟩
structure Gm.Fits (g : Gm) : Prop where
  t : g.ts.length ≤ 2 ^ 45
  l : g.lev.length ≤ 2 ^ 45
  p : g.pats.length ≤ 2 ^ 45
  n : g.ns.length ≤ 2 ^ 45
  d : g.prods.length ≤ 2 ^ 45
  r : ∀ p ∈ g.prods, p.rhs.length ≤ 2 ^ 45
  t1 : ∀ y ∈ g.ts, y.oneCell' = true
  n1 : ∀ y ∈ g.ns, y.oneCell' = true
  p1 : ∀ y ∈ g.pats.flatten, y.oneCell' = true
def PrV (H : Hp) (c : List Value) (p : Pr) : Prop := ∃ r, c = [iv p.left, r, iv p.ln, iv p.lk] ∧ RdI H r p.rhs
structure GV (H : Hp) (vt vl vp vn vd : Value) (g : Gm) : Prop where
  fits : g.Fits
  t : Rd H vt g.ts
  l : Rde H vl 2 (g.lev.map fun x => [iv x.1, iv x.2])
  p : Rde H vp 2 g.pats
  n : Rd H vn g.ns
  d : ∃ es, Rde H vd 4 es ∧ es.length = g.prods.length ∧ ∀ (i : Nat) (h : i < es.length) (k : i < g.prods.length), PrV H es[i] g.prods[i]
section
variable {H H' : Hp} {vt vl vp vn vd : Value} {g : Gm}
theorem PrV.ext {c : List Value} {p : Pr} (e : Ext H H') (h : PrV H c p) : PrV H' c p := by
  obtain ⟨r, h1, h2⟩ := h
  exact ⟨r, h1, h2.ext e⟩
theorem GV.ext (e : Ext H H') (h : GV H vt vl vp vn vd g) : GV H' vt vl vp vn vd g := by
  obtain ⟨es, h1, h2, h3⟩ := h.d
  exact ⟨h.fits, h.t.ext e, h.l.ext e, h.p.ext e, h.n.ext e, es, h1.ext e, h2, fun i h k => (h3 i h k).ext e⟩
/-- The five slices' lengths. -/
theorem GV.lens (h : GV H vt vl vp vn vd g) : ∃ at_ ct al cl ap cp an cn ad cd, vt = .slice at_ g.nt ct ∧ vl = .slice al g.lev.length cl ∧ vp = .slice ap g.pats.length cp ∧ vn = .slice an g.nn cn ∧ vd = .slice ad g.prods.length cd := by
  obtain ⟨a1, c1, e1, -⟩ := h.t
  obtain ⟨a2, c2, e2⟩ := h.l.opn'
  obtain ⟨a3, c3, e3⟩ := h.p.opn'
  obtain ⟨a4, c4, e4, -⟩ := h.n
  obtain ⟨es, h1, h2, -⟩ := h.d
  obtain ⟨a5, c5, e5⟩ := h1.opn'
  exact ⟨a1, c1, a2, c2, a3, c3, a4, c4, a5, c5, e1, by simpa using e2, e3, e4, by rw [e5, h2]⟩
structure PrIn (H : Hp) (g : Gm) (bp op : Nat) (ra : Int → Option Addr) (rb ro rc : Int → Nat) : Prop where
  all : ∀ j : Int, 0 ≤ j → j < g.prods.length → ldn H 4 ⟨bp, op + j.toNat * 4, none⟩ = some [.int .i64 (gp g j).left, .slice (ra j) (gp g j).rhs.length (rc j), .int .i64 (gp g j).ln, .int .i64 (gp g j).lk]
  left : ∀ j : Int, 0 ≤ j → j < g.prods.length → ldc H ⟨bp, op + j.toNat * 4, none⟩ = some (.int .i64 (gp g j).left)
  right : ∀ j : Int, 0 ≤ j → j < g.prods.length → ldc H ⟨bp, op + j.toNat * 4 + 1, none⟩ = some (.slice (ra j) (gp g j).rhs.length (rc j))
  at_ : ∀ j : Int, 0 ≤ j → j < g.prods.length → 0 < (gp g j).rhs.length → ra j = some ⟨rb j, ro j, none⟩
  sym : ∀ j i : Int, 0 ≤ j → j < g.prods.length → 0 ≤ i → i < (gp g j).rhs.length → ldc H ⟨rb j, ro j + i.toNat * 1, none⟩ = some (.int .i64 (gi (gp g j).rhs i))
  rd : ∀ j : Int, 0 ≤ j → j < g.prods.length → RdI H (.slice (ra j) (gp g j).rhs.length (rc j)) (gp g j).rhs
theorem PrIn.ext {bp op : Nat} {ra : Int → Option Addr} {rb ro rc : Int → Nat} (e : Ext H H') (h : PrIn H g bp op ra rb ro rc) : PrIn H' g bp op ra rb ro rc :=
  ⟨fun j a b => ldn_ext e (h.all j a b), fun j a b => ldc_ext e (h.left j a b), fun j a b => ldc_ext e (h.right j a b), h.at_, fun j i a b c d => ldc_ext e (h.sym j i a b c d), fun j a b => (h.rd j a b).ext e⟩
theorem GV.prods (h : GV H vt vl vp vn vd g) (hp : 0 < g.prods.length) : ∃ (bp op cap : Nat) (ra : Int → Option Addr) (rb ro rc : Int → Nat), vd = .slice (some ⟨bp, op, none⟩) g.prods.length cap ∧ PrIn H g bp op ra rb ro rc := by
  obtain ⟨es, h1, h2, h3⟩ := h.d
  obtain ⟨b, o, cap, e, -, hc⟩ := h1.opn (by omega)
  have key : ∀ j : Int, ∃ (a : Option Addr) (x : Nat × Nat × Nat), 0 ≤ j → j < g.prods.length → (es.getD j.toNat [] = [.int .i64 (gp g j).left, .slice a (gp g j).rhs.length x.2.2, .int .i64 (gp g j).ln, .int .i64 (gp g j).lk] ∧ (0 < (gp g j).rhs.length → a = some ⟨x.1, x.2.1, none⟩) ∧
      (∀ i : Int, 0 ≤ i → i < (gp g j).rhs.length → ldc H ⟨x.1, x.2.1 + i.toNat * 1, none⟩ = some (.int .i64 (gi (gp g j).rhs i))) ∧ RdI H (.slice a (gp g j).rhs.length x.2.2) (gp g j).rhs) := by
    intro j
    by_cases hj : 0 ≤ j ∧ j < g.prods.length
    · have hlt : j.toNat < es.length := by omega
      have hlt' : j.toNat < g.prods.length := by omega
      obtain ⟨r, hr1, hr2⟩ := h3 j.toNat hlt hlt'
      have e1 : es[j.toNat]'hlt = es.getD j.toNat [] := by simp [hlt]
      have e2 : g.prods[j.toNat]'hlt' = gp g j := by simp [gp, hlt']
      rw [e1, e2] at hr1
      rw [e2] at hr2
      by_cases hz : 0 < (gp g j).rhs.length
      · obtain ⟨b', o', c', g1, g2, g3⟩ := hr2.opn hz
        exact ⟨some ⟨b', o', none⟩, (b', o', c'), fun _ _ => ⟨by rw [hr1, g1], fun _ => rfl, g3, by rw [← g1]; exact hr2⟩⟩
      · obtain ⟨a, c', g1⟩ := hr2.opn'
        exact ⟨a, (0, 0, c'), fun _ _ => ⟨by rw [hr1, g1], fun h => absurd h hz, fun i h0 h1 => by omega, by rw [← g1]; exact hr2⟩⟩
    · exact ⟨none, (0, 0, 0), fun h0 h1 => absurd ⟨h0, h1⟩ hj⟩
  have k1 := fun j => Classical.choose_spec (key j)
  have k2 := fun j => Classical.choose_spec (k1 j)
  have hall : ∀ j : Int, 0 ≤ j → j < g.prods.length → ldn H 4 ⟨b, o + j.toNat * 4, none⟩ = some [.int .i64 (gp g j).left, .slice (Classical.choose (key j)) (gp g j).rhs.length (Classical.choose (k1 j)).2.2, .int .i64 (gp g j).ln, .int .i64 (gp g j).lk] := by
    intro j h0 h1
    rw [hc j h0 (by omega)]; exact congrArg some (k2 j h0 h1).1
  refine ⟨b, o, cap, fun j => Classical.choose (key j), fun j => (Classical.choose (k1 j)).1, fun j => (Classical.choose (k1 j)).2.1, fun j => (Classical.choose (k1 j)).2.2, by rw [e, h2], hall, ?_, ?_, ?_, ?_, ?_⟩
  · intro j h0 h1
    have := ldc_of_ldn (i := 0) (hall j h0 h1) (by omega)
    simpa using this
  · intro j h0 h1
    have := ldc_of_ldn (i := 1) (hall j h0 h1) (by omega)
    simpa using this
  · intro j h0 h1 hz; exact (k2 j h0 h1).2.1 hz
  · intro j i h0 h1 g0 g1; exact (k2 j h0 h1).2.2.1 i g0 g1
  · intro j h0 h1; exact (k2 j h0 h1).2.2.2
theorem stn_new {E : TypeId} {l vs : List Value} (h : vs.length = l.length) (h1 : vs.all (·.oneCell') = true) : stn (H.push (row E l)) ⟨H.size, 0, none⟩ vs = some (H.push (row E vs)) := by
  rw [stn_row (get_new H (row E l)) (by omega) h1]
  congr 1
  apply Array.ext'
  rw [Array.toList_setIfInBounds]
  have : ow l 0 vs = vs := by simp [ow, h]
  rw [this]
  simp [List.set_append_right]
theorem stn_new_i {E : TypeId} {a : Value} {k : IntKind} {n : Int} : stn (H.push (row E [a])) ⟨H.size, 0, none⟩ [.int k n] = some (H.push (row E [.int k n])) := stn_new rfl rfl
theorem stn_new_p {E : TypeId} {a : Value} {p : Option Addr} : stn (H.push (row E [a])) ⟨H.size, 0, none⟩ [.pointer p] = some (H.push (row E [.pointer p])) := stn_new rfl rfl
theorem stn_new_ii {E : TypeId} {a b : Value} {k j : IntKind} {n m : Int} : stn (H.push (row E [a, b])) ⟨H.size, 0, none⟩ [.int k n, .int j m] = some (H.push (row E [.int k n, .int j m])) := stn_new rfl rfl
theorem stn_new_iii {E : TypeId} {a b c : Value} {k j i : IntKind} {n m o : Int} : stn (H.push (row E [a, b, c])) ⟨H.size, 0, none⟩ [.int k n, .int j m, .int i o] = some (H.push (row E [.int k n, .int j m, .int i o])) := stn_new rfl rfl
theorem stn_new_isii {E : TypeId} {a b c d : Value} {k j i : IntKind} {n m o : Int} {p : Option Addr} {x y : Nat} : stn (H.push (row E [a, b, c, d])) ⟨H.size, 0, none⟩ [.int k n, .slice p x y, .int j m, .int i o] = some (H.push (row E [.int k n, .slice p x y, .int j m, .int i o])) := stn_new rfl rfl
end
end Go.Vy
