import Derived.Test.YteheedbhmggcgaaEB
import Derived.Test.YteheedbhmggcgaaVyJ
namespace Go.Proofs.Yteheedbhmggcgaa
open Go Go.Vy Go.Proofs
set_option linter.unusedSimpArgs false
set_option linter.unusedVariables false
def adv (y : It) : It := ⟨y.p, y.d + 1, y.f⟩
/-- The chart. -/
inductive Cht (g : Gm) (ks : List Int) : Nat → It → Prop
  | init : Cht g ks 0 ⟨0, 0, 0⟩
  | pred {i : Nat} {y : It} {s k : Int} : Cht g ks i y → nxt g y = some s → 0 ≤ k → k < g.prods.length → (gp g k).left = s - g.nt → s ≥ g.nt → Cht g ks i ⟨k, 0, i⟩
  | scan {i : Nat} {y : It} {s : Int} : Cht g ks i y → nxt g y = some s → i < ks.length → gi ks i = s → Cht g ks (i + 1) (adv y)
  | comp {i : Nat} {x y : It} : Cht g ks i x → nxt g x = none → Cht g ks x.f.toNat y → nxt g y = some (g.nt + (gp g x.p).left) → Cht g ks i (adv y)
structure Good (g : Gm) (ks : List Int) (R : Nat → List It) : Prop where
  cht : ∀ i x, x ∈ R i → Cht g ks i x
  ok : ∀ i x, x ∈ R i → ItOk g x
  fr : ∀ i x, x ∈ R i → x.f ≤ i
  nd : ∀ i, (R i).Nodup
theorem mem_addR {R : Nat → List It} {i j : Nat} {x y : It} : y ∈ addR R i x j ↔ y ∈ R j ∨ (j = i ∧ y = x) := by
  unfold addR
  by_cases e : j = i
  · subst e
    by_cases h : x ∈ R j
    · simp [h]; intro e; subst e; exact h
    · simp [h]
  · simp [e]
theorem Good.add {g : Gm} {ks : List Int} {R : Nat → List It} (h : Good g ks R) {i : Nat} {x : It} (h1 : Cht g ks i x) (h2 : ItOk g x) (h3 : x.f ≤ i) : Good g ks (addR R i x) := by
  refine ⟨fun j y hy => ?_, fun j y hy => ?_, fun j y hy => ?_, fun j => ?_⟩
  · rcases mem_addR.1 hy with hy | ⟨rfl, rfl⟩
    · exact h.cht j y hy
    · exact h1
  · rcases mem_addR.1 hy with hy | ⟨rfl, rfl⟩
    · exact h.ok j y hy
    · exact h2
  · rcases mem_addR.1 hy with hy | ⟨rfl, rfl⟩
    · exact h.fr j y hy
    · exact h3
  · unfold addR
    split
    · rename_i e; subst e
      split
      · exact h.nd j
      · rename_i hn
        rw [List.nodup_append]
        refine ⟨h.nd j, by simp, ?_⟩
        intro a ha b hb e; simp at hb; subst hb; subst e; exact hn ha
    · exact h.nd j
/-- Items of a place are few. -/
theorem Good.few {g : Gm} {ks : List Int} {R : Nat → List It} (h : Good g ks R) (hs : Shape g) (i : Nat) : (R i).length ≤ 101504 := by
  have hinj : ∀ x ∈ R i, ∀ y ∈ R i, (x.p * 793 + x.d * 61 + x.f).toNat = (y.p * 793 + y.d * 61 + y.f).toNat → x = y := by
    intro x hx y hy e
    have a := h.ok i x hx
    have b := h.ok i y hy
    have := a.p0; have := a.d0; have := a.f0; have := a.f1; have := a.d1
    have := b.p0; have := b.d0; have := b.f0; have := b.f1; have := b.d1
    have := hs.rl _ (gp_mem a.p0 a.p1)
    have := hs.rl _ (gp_mem b.p0 b.p1)
    obtain ⟨xp, xd, xf⟩ := x
    obtain ⟨yp, yd, yf⟩ := y
    simp only at *
    have e : xp * 793 + xd * 61 + xf = yp * 793 + yd * 61 + yf := by omega
    simp only [It.mk.injEq]
    omega
  have hnd : ((R i).map fun x => (x.p * 793 + x.d * 61 + x.f).toNat).Nodup := by
    have : ∀ l : List It, l.Nodup → (∀ x ∈ l, x ∈ R i) → (l.map fun x => (x.p * 793 + x.d * 61 + x.f).toNat).Nodup := by
      intro l
      induction l with
      | nil => intros; simp
      | cons x l ih =>
        intro hn hm
        rw [List.nodup_cons] at hn
        rw [List.map_cons, List.nodup_cons]
        refine ⟨?_, ih hn.2 fun y hy => hm y (by simp [hy])⟩
        intro hx
        obtain ⟨y, hy, e⟩ := List.mem_map.1 hx
        have := hinj y (hm y (by simp [hy])) x (hm x (by simp)) e
        subst this; exact hn.1 hy
    exact this _ (h.nd i) fun x hx => hx
  have := nodup_bound 101504 _ hnd (by
    intro n hn
    obtain ⟨x, hx, rfl⟩ := List.mem_map.1 hn
    have a := h.ok i x hx
    have := a.p0; have := a.p1; have := a.d0; have := a.f0; have := a.f1; have := a.d1
    have := hs.rl _ (gp_mem a.p0 a.p1)
    have := hs.np
    omega)
  simpa using this
section
variable {H0 H H' : Hp} {c : Nat} {cs : List Value} {R : Nat → List It} {mb : Nat → Nat} {B : Nat → Option Nat} {rv : Nat → Value}
/-- A block of one's own changes. -/
theorem Ch.setOff (h : Ch H0 H c cs R mb B rv) {b : Nat} (ho : Off c mb B b) (hb : H0.size ≤ b) (x : Obj) : Ch H0 (H.setIfInBounds b x) c cs R mb B rv := by
  obtain ⟨l, h1, h2⟩ := h.cb
  exact ⟨h.ext.set hb _, h.hc, ⟨l, by rw [get_set_ne ho.1]; exact h1, h2⟩, fun i hi => (h.own i hi).keep fun k hk => get_set_ne (fun e => ho.2.2 i hi (by rw [hk, e])) _, h.hB, h.dB, h.hm, h.dm, h.dBm, fun i hi => by rw [get_set_ne (fun e => ho.2.1 i hi e.symm)]; exact h.maps i hi, h.nd⟩
end
/-- Places grow at their ends. -/
def Gr (R R' : Nat → List It) : Prop := ∀ j, ∃ t, R' j = R j ++ t
theorem Gr.refl (R : Nat → List It) : Gr R R := fun j => ⟨[], by simp⟩
theorem Gr.trans {R R' R'' : Nat → List It} (h : Gr R R') (k : Gr R' R'') : Gr R R'' := fun j => by
  obtain ⟨t, ht⟩ := h j
  obtain ⟨u, hu⟩ := k j
  exact ⟨t ++ u, by rw [hu, ht]; simp⟩
theorem Gr.add (R : Nat → List It) (i : Nat) (x : It) : Gr R (addR R i x) := fun j => by
  unfold addR
  split
  · rename_i e; subst e
    split
    · exact ⟨[], by simp⟩
    · exact ⟨[x], rfl⟩
  · exact ⟨[], by simp⟩
theorem Gr.mem {R R' : Nat → List It} (h : Gr R R') {j : Nat} {x : It} (hx : x ∈ R j) : x ∈ R' j := by
  obtain ⟨t, ht⟩ := h j
  rw [ht]; simp [hx]
theorem Gr.get {R R' : Nat → List It} (h : Gr R R') {i j : Nat} {x : It} (hx : (R i)[j]? = some x) : (R' i)[j]? = some x := by
  obtain ⟨t, ht⟩ := h i
  have := (List.getElem?_eq_some_iff.1 hx).1
  rw [ht, List.getElem?_append_left this]; exact hx
theorem Gr.len {R R' : Nat → List It} (h : Gr R R') (i : Nat) : (R i).length ≤ (R' i).length := by
  obtain ⟨t, ht⟩ := h i
  rw [ht]; simp
/-- All but two places stay. -/
def Oth (a : Nat) (R R' : Nat → List It) : Prop := ∀ j, j ≠ a → j ≠ a + 1 → R' j = R j
structure RowInv (g : Gm) (ks : List Int) (R0 R : Nat → List It) (a n : Nat) : Prop where
  good : Good g ks R
  gr : Gr R0 R
  oth : Oth a R0 R
  le : n ≤ (R a).length
  P : ∀ j y s, j < n → (R a)[j]? = some y → nxt g y = some s → s ≥ g.nt → ∀ k : Int, 0 ≤ k → k < g.prods.length → (gp g k).left = s - g.nt → (⟨k, 0, a⟩ : It) ∈ R a
  S : ∀ j y s, j < n → (R a)[j]? = some y → nxt g y = some s → a < ks.length → gi ks a = s → adv y ∈ R (a + 1)
  C1 : ∀ j x, j < n → (R a)[j]? = some x → nxt g x = none → x.f ≠ a → ∀ y ∈ R x.f.toNat, nxt g y = some (g.nt + (gp g x.p).left) → adv y ∈ R a
  C2 : ∀ j j' x y, j < n → j' < n → (R a)[j]? = some x → (R a)[j']? = some y → nxt g x = none → x.f = a → nxt g y = some (g.nt + (gp g x.p).left) → adv y ∈ R a
theorem RowInv.step {g : Gm} {ks : List Int} {R0 R1 R2 : Nat → List It} {a n : Nat} {x : It} (h : RowInv g ks R0 R1 a n) (hx : (R1 a)[n]? = some x) (hg : Good g ks R2) (hr : Gr R1 R2) (ho : Oth a R1 R2)
    (hP : ∀ s, nxt g x = some s → s ≥ g.nt → ∀ k : Int, 0 ≤ k → k < g.prods.length → (gp g k).left = s - g.nt → (⟨k, 0, a⟩ : It) ∈ R2 a)
    (hS : ∀ s, nxt g x = some s → a < ks.length → gi ks a = s → adv x ∈ R2 (a + 1))
    (hC1 : nxt g x = none → ∀ y ∈ R1 x.f.toNat, nxt g y = some (g.nt + (gp g x.p).left) → adv y ∈ R2 a)
    (hC2 : ∀ x' ∈ R1 a, nxt g x' = none → x'.f = a → nxt g x = some (g.nt + (gp g x'.p).left) → adv x ∈ R2 a) : RowInv g ks R0 R2 a (n + 1) := by
  have hn : n < (R1 a).length := (List.getElem?_eq_some_iff.1 hx).1
  have old : ∀ j y, j < n → (R2 a)[j]? = some y → (R1 a)[j]? = some y := by
    intro j y hj hy
    have : (R1 a)[j]? = some (R1 a)[j] := List.getElem?_eq_getElem (by omega)
    rw [hr.get this] at hy; rw [this]; exact hy
  have new : ∀ y, (R2 a)[n]? = some y → y = x := by
    intro y hy
    rw [hr.get hx] at hy; injection hy with hy; exact hy.symm
  refine ⟨hg, h.gr.trans hr, fun j h1 h2 => (ho j h1 h2).trans (h.oth j h1 h2), by have := hr.len a; omega, ?_, ?_, ?_, ?_⟩
  · intro j y s hj hy hs hge k k0 k1 hk
    by_cases e : j = n
    · subst e; have := new y hy; subst this; exact hP s hs hge k k0 k1 hk
    · exact hr.mem (h.P j y s (by omega) (old j y (by omega) hy) hs hge k k0 k1 hk)
  · intro j y s hj hy hs h1 h2
    by_cases e : j = n
    · subst e; have := new y hy; subst this; exact hS s hs h1 h2
    · exact hr.mem (h.S j y s (by omega) (old j y (by omega) hy) hs h1 h2)
  · intro j y hj hy hs hf z hz hnz
    have hfa := hg.fr a y (List.mem_of_getElem? hy)
    have hf0 := (hg.ok a y (List.mem_of_getElem? hy)).f0
    rw [ho _ (by omega) (by omega)] at hz
    by_cases e : j = n
    · subst e; have := new y hy; subst this; exact hC1 hs z hz hnz
    · exact hr.mem (h.C1 j y (by omega) (old j y (by omega) hy) hs hf z hz hnz)
  · intro j j' y z hj hj' hy hz hs hf hnz
    by_cases e : j = n
    · subst e; have := new y hy; subst this
      by_cases e' : j' = j
      · subst e'; have := new z hz; subst this; rw [hs] at hnz; cases hnz
      · have := old j' z (by omega) hz
        refine hC1 hs z ?_ hnz
        rw [show y.f.toNat = a by omega]
        exact List.mem_of_getElem? this
    · have hy1 := old j y (by omega) hy
      by_cases e' : j' = n
      · subst e'; have := new z hz; subst this
        exact hC2 y (List.mem_of_getElem? hy1) hs hf hnz
      · exact hr.mem (h.C2 j j' y z (by omega) (by omega) hy1 (old j' z (by omega) hz) hs hf hnz)
/-- A place from which nothing more comes. -/
structure Clo (g : Gm) (ks : List Int) (R : Nat → List It) (a : Nat) : Prop where
  P : ∀ y ∈ R a, ∀ s, nxt g y = some s → s ≥ g.nt → ∀ k : Int, 0 ≤ k → k < g.prods.length → (gp g k).left = s - g.nt → (⟨k, 0, a⟩ : It) ∈ R a
  S : ∀ y ∈ R a, ∀ s, nxt g y = some s → a < ks.length → gi ks a = s → adv y ∈ R (a + 1)
  C : ∀ x ∈ R a, nxt g x = none → ∀ y ∈ R x.f.toNat, nxt g y = some (g.nt + (gp g x.p).left) → adv y ∈ R a
theorem RowInv.clo {g : Gm} {ks : List Int} {R0 R : Nat → List It} {a : Nat} (h : RowInv g ks R0 R a (R a).length) : Clo g ks R a := by
  have ix : ∀ y ∈ R a, ∃ j, j < (R a).length ∧ (R a)[j]? = some y := by
    intro y hy
    obtain ⟨j, hj, rfl⟩ := List.getElem_of_mem hy
    exact ⟨j, hj, List.getElem?_eq_getElem hj⟩
  refine ⟨fun y hy s hs hge => ?_, fun y hy s hs => ?_, fun x hx hs y hy hn => ?_⟩
  · obtain ⟨j, hj, hy⟩ := ix y hy; exact h.P j y s hj hy hs hge
  · obtain ⟨j, hj, hy⟩ := ix y hy; exact h.S j y s hj hy hs
  · obtain ⟨j, hj, hx'⟩ := ix x hx
    by_cases e : x.f = a
    · rw [e] at hy
      obtain ⟨j', hj', hy⟩ := ix y (by simpa using hy)
      exact h.C2 j j' x y hj hj' hx' hy hs e hn
    · exact h.C1 j x hj hx' hs e y hy hn
end Go.Proofs.Yteheedbhmggcgaa
