/- Grammars as they are read. -/
import Derived.Test.YteheedbhmggcgaaVyL
import Derived.Test.YteheedbhmggcgaaEyT
namespace Go.Vy
open Go Go.RowKit
/-- A struct's fields: types, and where they lie. -/
def flds (P : Program) (t : TypeId) : Option (List (TypeId × Nat)) :=
  match P.underlying t with
  | some (.struct fs) => some (fs.toList.map fun f => (f.type, f.offset))
  | _ => none
section
variable {T : Type} {enc : TypeId × Value → T} {P : Program}
theorem open_fs {W : World} {t : TypeId} {fuel : Nat} {held : Bool} {sp : Nat → Bool} {l : List (TypeId × Nat)} {cs : List Value} {x : DataW T × List MemPlace} (ht : flds P t = some l) (h : DataW.trod enc P W 0 sp held fuel t cs = some x) (hf : Fit P t x.1) :
    cs.length = P.cellsOf t ∧ ∃ n : Nat, ∀ (i : Nat) (e : TypeId) (o : Nat), l[i]? = some (e, o) → ∃ y, DataW.trod enc P W 0 sp held n e ((cs.drop o).take (P.cellsOf e)) = some y ∧ Fit P e y.1 := by
  unfold flds at ht
  split at ht
  · rename_i fs hu
    injection ht with ht
    obtain ⟨h1, n, ys, h2⟩ := open_st hu h hf
    refine ⟨h1, n, fun i e o hi => ?_⟩
    rw [← ht, List.getElem?_map] at hi
    cases hfi : fs.toList[i]? with
    | none => rw [hfi] at hi; cases hi
    | some f =>
      rw [hfi] at hi
      injection hi with hi
      injection hi with e1 e2
      subst e1; subst e2
      exact h2 i f (by simpa using hfi)
  · cases ht
theorem okWide_fs {w : World} {r : Go.Reach} {b : Nat} {t : TypeId} {l : List (TypeId × Nat)} {v : Value} (ht : flds P t = some l) (h : Value.okWide P w r b t v) : ∃ cs : List Value, v = .agg cs.toArray := by
  unfold flds at ht
  split at ht
  · rename_i fs hu; exact okWide_st hu h
  · cases ht
end
end Go.Vy
namespace Go.Proofs.Yteheedbhmggcgaa
open Go Go.Vy Go.Proofs
theorem f27 : flds Try.prog 27 = some [(22, 0), (23, 1), (24, 2), (22, 3), (25, 4)] := by kernel_rfl
theorem f42 : flds Try.prog 42 = some [(3, 0), (3, 1)] := by kernel_rfl
theorem f44 : flds Try.prog 44 = some [(3, 0), (28, 1), (42, 2)] := by kernel_rfl
theorem f110 : flds Try.prog 110 = some [(3, 0), (9, 1)] := by kernel_rfl
theorem cl3 : Try.prog.cellsOf 3 = 1 := by kernel_rfl
theorem cl9 : Try.prog.cellsOf 9 = 1 := by kernel_rfl
theorem cl22 : Try.prog.cellsOf 22 = 1 := by kernel_rfl
theorem cl23 : Try.prog.cellsOf 23 = 1 := by kernel_rfl
theorem cl24 : Try.prog.cellsOf 24 = 1 := by kernel_rfl
theorem cl25 : Try.prog.cellsOf 25 = 1 := by kernel_rfl
theorem cl27 : Try.prog.cellsOf 27 = 5 := by kernel_rfl
theorem cl28 : Try.prog.cellsOf 28 = 1 := by kernel_rfl
theorem cl42 : Try.prog.cellsOf 42 = 2 := by kernel_rfl
theorem cl44 : Try.prog.cellsOf 44 = 4 := by kernel_rfl
theorem cl110 : Try.prog.cellsOf 110 = 2 := by kernel_rfl
theorem by3 : Try.prog.bytesOf 3 = 8 := by kernel_rfl
theorem by9 : Try.prog.bytesOf 9 = 16 := by kernel_rfl
theorem by42 : Try.prog.bytesOf 42 = 16 := by kernel_rfl
theorem by44 : Try.prog.bytesOf 44 = 48 := by kernel_rfl
theorem by110 : Try.prog.bytesOf 110 = 24 := by kernel_rfl
section
variable {T : Type} {enc : TypeId × Value → T} {W : World} {sp : Nat → Bool} {held : Bool} {fuel : Nat}
theorem open_strs9 {v : Value} {x : DataW T × List MemPlace} (h : DataW.trod enc Try.prog W 0 sp held fuel 22 [v] = some x) (hf : Fit Try.prog 22 x.1) : ∃ xs, Rd W.heap v xs ∧ xs.length ≤ 2 ^ 45 ∧ ∀ y ∈ xs, y.oneCell' = true := by
  obtain ⟨es, D, n, h1, h2, h3⟩ := open_sl u22 cl9 (by decide) h hf
  obtain ⟨xs, h4, h5⟩ := h1.rd
  refine ⟨xs, h5, ?_, ?_⟩
  · have : es.length = xs.length := by rw [h4]; simp
    have : reachBytes = 140737488351232 := rfl
    rw [by9] at h2
    omega
  · intro y hy
    obtain ⟨i, hi, rfl⟩ := List.getElem_of_mem hy
    have hi' : i < es.length := by rw [h4]; simpa using hi
    obtain ⟨s, h6, _⟩ := DataW.trod_string u9 (h3 i hi').1
    have h7 : es[i] = [xs[i]] := by simp [h4]
    rw [h6] at h7
    injection h7 with h7
    rw [← h7]; rfl
theorem open_int1 {cs : List Value} {x : DataW T × List MemPlace} (h : DataW.trod enc Try.prog W 0 sp held fuel 3 cs = some x) : ∃ k : Int, cs = [iv k] ∧ -9223372036854775808 ≤ k ∧ k ≤ 9223372036854775807 := by
  obtain ⟨k, h4, h5, h6⟩ := DataW.trod_int u3 h
  refine ⟨k, h4, ?_⟩
  simp only [Lit.wf, Bool.and_eq_true, decide_eq_true_eq] at h6
  exact ⟨by simpa [IntKind.min, IntKind.signed, IntKind.bits] using h6.1, by simpa [IntKind.max, IntKind.signed, IntKind.bits] using h6.2⟩
theorem two_of {cs : List Value} {a b : Value} (hl : cs.length = 2) (h1 : (cs.drop 0).take 1 = [a]) (h2 : (cs.drop 1).take 1 = [b]) : cs = [a, b] := by
  match cs, hl with
  | [x, y], _ => simp at h1 h2; subst h1; subst h2; rfl
theorem open_level {cs : List Value} {x : DataW T × List MemPlace} (h : DataW.trod enc Try.prog W 0 sp held fuel 42 cs = some x) (hf : Fit Try.prog 42 x.1) : ∃ a b : Int, cs = [iv a, iv b] := by
  obtain ⟨hl, n, hall⟩ := open_fs f42 h hf
  obtain ⟨y0, h0, _⟩ := hall 0 3 0 rfl
  obtain ⟨y1, h1, _⟩ := hall 1 3 1 rfl
  rw [cl42] at hl
  rw [cl3] at h0 h1
  obtain ⟨a, ha, _⟩ := open_int1 h0
  obtain ⟨b, hb, _⟩ := open_int1 h1
  exact ⟨a, b, two_of hl ha hb⟩
theorem open_pat {cs : List Value} {x : DataW T × List MemPlace} (h : DataW.trod enc Try.prog W 0 sp held fuel 110 cs = some x) (hf : Fit Try.prog 110 x.1) : ∀ y ∈ cs, y.oneCell' = true := by
  obtain ⟨hl, n, hall⟩ := open_fs f110 h hf
  obtain ⟨y0, h0, _⟩ := hall 0 3 0 rfl
  obtain ⟨y1, h1, _⟩ := hall 1 9 1 rfl
  rw [cl110] at hl
  rw [cl3] at h0
  rw [cl9] at h1
  obtain ⟨a, ha, _⟩ := open_int1 h0
  obtain ⟨b, hb, _⟩ := DataW.trod_string u9 h1
  rw [two_of hl ha hb]
  intro y hy
  simp at hy
  rcases hy with rfl | rfl <;> rfl
theorem open_prod {cs : List Value} {x : DataW T × List MemPlace} (h : DataW.trod enc Try.prog W 0 sp held fuel 44 cs = some x) (hf : Fit Try.prog 44 x.1) : ∃ p : Pr, PrV W.heap cs p ∧ p.rhs.length ≤ 2 ^ 45 := by
  obtain ⟨hl, n, hall⟩ := open_fs f44 h hf
  obtain ⟨y0, h0, _⟩ := hall 0 3 0 rfl
  obtain ⟨y1, h1, hf1⟩ := hall 1 28 1 rfl
  obtain ⟨y2, h2, hf2⟩ := hall 2 42 2 rfl
  rw [cl44] at hl
  rw [cl3] at h0
  rw [cl28] at h1
  rw [cl42] at h2
  obtain ⟨a, ha, _⟩ := open_int1 h0
  match cs, hl with
  | [c0, c1, c2, c3], _ =>
    simp at ha h1 h2
    subst ha
    obtain ⟨xs, hx, hx2, _⟩ := open_is u28 u3 cl3 by3 h1 hf1
    obtain ⟨b, c, hbc⟩ := open_level h2 hf2
    injection hbc with e1 e2
    injection e2 with e2 _
    subst e1; subst e2
    exact ⟨⟨a, xs, b, c⟩, ⟨c1, rfl, hx⟩, by simp only; omega⟩
theorem open_gram2 {cs : List Value} {x : DataW T × List MemPlace} (h : DataW.trod enc Try.prog W 0 sp held fuel 27 cs = some x) (hf : Fit Try.prog 27 x.1) : ∃ g vt vl vp vn vd, cs = [vt, vl, vp, vn, vd] ∧ GV W.heap vt vl vp vn vd g ∧ g.pats.length ≤ 2 ^ 43 := by
  obtain ⟨hl, n, hall⟩ := open_fs f27 h hf
  obtain ⟨y0, h0, g0⟩ := hall 0 22 0 rfl
  obtain ⟨y1, h1, g1⟩ := hall 1 23 1 rfl
  obtain ⟨y2, h2, g2⟩ := hall 2 24 2 rfl
  obtain ⟨y3, h3, g3⟩ := hall 3 22 3 rfl
  obtain ⟨y4, h4, g4⟩ := hall 4 25 4 rfl
  rw [cl27] at hl
  rw [cl22] at h0 h3
  rw [cl23] at h1
  rw [cl24] at h2
  rw [cl25] at h4
  have hrb : reachBytes = 140737488351232 := rfl
  match cs, hl with
  | [vt, vl, vp, vn, vd], _ =>
    simp at h0 h1 h2 h3 h4
    obtain ⟨ts, t1, t2, t3⟩ := open_strs9 h0 g0
    obtain ⟨ns, n1, n2, n3⟩ := open_strs9 h3 g3
    obtain ⟨ls, DL, k1, l1, l2, l3⟩ := open_sl u23 cl42 (by decide) h1 g1
    obtain ⟨ps, DP, k2, p1, p2, p3⟩ := open_sl u24 cl110 (by decide) h2 g2
    obtain ⟨ds, DD, k3, d1, d2, d3⟩ := open_sl u25 cl44 (by decide) h4 g4
    obtain ⟨lf, hlf⟩ := Deep.choose_lt (n := ls.length) (p := fun i (y : Int × Int) => ls[i]? = some [iv y.1, iv y.2]) (fun i hi => by
      obtain ⟨a, b, e⟩ := open_level (l3 i hi).1 (l3 i hi).2
      exact ⟨(a, b), by rw [List.getElem?_eq_getElem hi, e]⟩)
    obtain ⟨df, hdf⟩ := Deep.choose_lt (n := ds.length) (p := fun i (p : Pr) => ∃ hi : i < ds.length, PrV W.heap ds[i] p ∧ p.rhs.length ≤ 2 ^ 45) (fun i hi => by
      obtain ⟨p, h5, h6⟩ := open_prod (d3 i hi).1 (d3 i hi).2
      exact ⟨p, hi, h5, h6⟩)
    rw [by42] at l2
    rw [by110] at p2
    rw [by44] at d2
    refine ⟨⟨ts, (List.range ls.length).map lf, ps, ns, (List.range ds.length).map df⟩, vt, vl, vp, vn, vd, rfl, ⟨⟨t2, by simp; omega, by simp only; omega, n2, by simp; omega, ?_, t3, n3, ?_⟩, t1, ?_, p1, n1, ds, d1, by simp, ?_⟩, by simp only; omega⟩
    · intro p hp
      simp only [List.mem_map, List.mem_range] at hp
      obtain ⟨i, hi, rfl⟩ := hp
      obtain ⟨_, _, h6⟩ := hdf i hi
      exact h6
    · intro y hy
      obtain ⟨l, hl, hy⟩ := List.mem_flatten.1 hy
      obtain ⟨i, hi, rfl⟩ := List.getElem_of_mem hl
      exact open_pat (p3 i hi).1 (p3 i hi).2 y hy
    · have : ((List.range ls.length).map lf).map (fun x => [iv x.1, iv x.2]) = ls := by
        apply List.ext_getElem?
        intro i
        by_cases hi : i < ls.length
        · rw [hlf i hi]; simp [hi]
        · rw [List.getElem?_eq_none (by simp; omega), List.getElem?_eq_none (by omega)]
      rw [this]; exact l1
    · intro i h h'
      obtain ⟨_, h5, _⟩ := hdf i h
      simpa using h5
theorem open_gram {cs : List Value} {x : DataW T × List MemPlace} (h : DataW.trod enc Try.prog W 0 sp held fuel 27 cs = some x) (hf : Fit Try.prog 27 x.1) : ∃ g vt vl vp vn vd, cs = [vt, vl, vp, vn, vd] ∧ GV W.heap vt vl vp vn vd g := by
  obtain ⟨g, vt, vl, vp, vn, vd, h1, h2, _⟩ := open_gram2 h hf
  exact ⟨g, vt, vl, vp, vn, vd, h1, h2⟩
end
end Go.Proofs.Yteheedbhmggcgaa
