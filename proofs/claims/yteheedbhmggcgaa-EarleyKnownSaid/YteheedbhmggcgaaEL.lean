import Derived.Test.YteheedbhmggcgaaEK
namespace Go.Proofs.Yteheedbhmggcgaa
open Go Go.Vy Go.Proofs
set_option linter.unusedSimpArgs false
set_option linter.unusedVariables false
/-! Grammars and charts that are told by a reckoning. -/
def useB (g : Gm) : List Nat → List Int → List Int
  | [], known => known
  | i :: r, known => if (gp g i).rhs.all (fun s => decide (s < g.nt) || known.contains (s - g.nt)) = true ∧ i < g.prods.length then useB g r ((gp g i).left :: known) else useB g r known
theorem useB_spec {g : Gm} : ∀ (l : List Nat) (known : List Int), (∀ A ∈ known, Useful g A) → ∀ A ∈ useB g l known, Useful g A
  | [], known, h, A, hA => h A hA
  | i :: r, known, h, A, hA => by
    unfold useB at hA
    split at hA
    · rename_i hc
      refine useB_spec r _ (fun B hB => ?_) A hA
      rcases List.mem_cons.1 hB with rfl | hB
      · refine .mk _ (gp_mem (by omega) (by omega)) fun s hs hge => ?_
        have := List.all_eq_true.1 hc.1 s hs
        simp only [Bool.or_eq_true, decide_eq_true_eq] at this
        rcases this with h1 | h1
        · omega
        · exact h _ (by simpa using h1)
      · exact h B hB
    · exact useB_spec r _ h A hA
def gokB (g : Gm) (ord : List Nat) : Bool :=
  decide (g.nt ≤ 48) && decide (g.nn ≤ 48) && decide (1 ≤ g.nt) && decide (2 ≤ g.nn) && decide (g.prods.length ≤ 128) && decide (0 < g.prods.length) &&
  g.prods.all (fun p => decide (p.rhs.length ≤ 12) && decide (0 ≤ p.left) && decide (p.left < g.nn) && p.rhs.all (fun s => decide (1 ≤ s) && decide (s < g.nt + g.nn) && decide (s ≠ g.nt)) && mayBindB p.ln p.lk) &&
  decide (g.lev.length = g.nt) && g.lev.all (fun x => mayBindB x.1 x.2) && (List.range g.prods.length).all (fun i => decide ((gp g i).left = 0) == decide (i = 0)) &&
  decide ((gp g 0).rhs.length = 1) && decide (gi (gp g 0).rhs 0 ≥ g.nt) && (List.range g.nn).all (fun A => (useB g ord []).contains (A : Int))
theorem gokB_spec {g : Gm} {ord : List Nat} (h : gokB g ord = true) : GOk g := by
  unfold gokB at h
  simp only [Bool.and_eq_true, decide_eq_true_eq] at h
  obtain ⟨⟨⟨⟨⟨⟨⟨⟨⟨⟨⟨⟨h1, h2⟩, h3⟩, h4⟩, h5⟩, h6⟩, h7⟩, h8⟩, h9⟩, h10⟩, h11⟩, h12⟩, h13⟩ := h
  have hp : ∀ p ∈ g.prods, p.rhs.length ≤ 12 ∧ 0 ≤ p.left ∧ p.left < g.nn ∧ (∀ s ∈ p.rhs, 1 ≤ s ∧ s < g.nt + g.nn ∧ s ≠ g.nt) ∧ mayBindB p.ln p.lk = true := by
    intro p hp
    have := List.all_eq_true.1 h7 p hp
    simp only [Bool.and_eq_true, decide_eq_true_eq, List.all_eq_true] at this
    obtain ⟨⟨⟨⟨a, b⟩, c⟩, d⟩, e⟩ := this
    exact ⟨a, b, c, fun s hs => ⟨(d s hs).1.1, (d s hs).1.2, (d s hs).2⟩, e⟩
  refine ⟨⟨h1, h2, h3, h4, h5, h6, fun p q => (hp p q).1, fun p q => ⟨(hp p q).2.1, (hp p q).2.2.1⟩, fun p q => (hp p q).2.2.2.1⟩, h8, fun x hx => List.all_eq_true.1 h9 x hx, ?_, fun p q => (hp p q).2.2.2.2, h11, h12, ?_⟩
  · intro i i0 i1
    have := List.all_eq_true.1 h10 i.toNat (List.mem_range.2 (by omega))
    have e : ((i.toNat : Nat) : Int) = i := by omega
    rw [e] at this
    simp only [beq_iff_eq, decide_eq_decide] at this
    rw [this]; omega
  · intro A a0 a1
    have := List.all_eq_true.1 h13 A.toNat (List.mem_range.2 (by omega))
    have e : ((A.toNat : Nat) : Int) = A := by omega
    rw [e] at this
    exact useB_spec ord [] (by simp) A (by simpa using this)
/-- Is an item of a place a reason for one more? -/
def justB (g : Gm) (ks : List Int) (pre : List (Nat × It)) (i : Nat) (x : It) : Bool :=
  (decide (i = 0) && decide (x = ⟨0, 0, 0⟩)) ||
  pre.any (fun y => decide (y.1 = i) && decide (x.d = 0) && decide (x.f = (i : Int)) && decide (0 ≤ x.p) && decide (x.p < g.prods.length) && (match nxt g y.2 with | some s => decide (s ≥ g.nt) && decide ((gp g x.p).left = s - g.nt) | none => false)) ||
  pre.any (fun y => decide (y.1 + 1 = i) && decide (x = adv y.2) && decide (y.1 < ks.length) && decide (nxt g y.2 = some (gi ks y.1))) ||
  pre.any (fun z => decide (z.1 = i) && decide (nxt g z.2 = none) && pre.any (fun y => decide (y.1 = z.2.f.toNat) && decide (x = adv y.2) && decide (nxt g y.2 = some (g.nt + (gp g z.2.p).left))))
def justAll (g : Gm) (ks : List Int) : List (Nat × It) → List (Nat × It) → Bool
  | _, [] => true
  | pre, y :: r => justB g ks pre y.1 y.2 && justAll g ks (y :: pre) r
theorem justB_spec {g : Gm} {ks : List Int} {pre : List (Nat × It)} (h : ∀ y ∈ pre, Cht g ks y.1 y.2) {i : Nat} {x : It} (hj : justB g ks pre i x = true) : Cht g ks i x := by
  unfold justB at hj
  simp only [Bool.or_eq_true, Bool.and_eq_true, decide_eq_true_eq, List.any_eq_true] at hj
  rcases hj with ((⟨h1, h2⟩ | ⟨y, hy, h1⟩) | ⟨y, hy, h1⟩) | ⟨z, hz, ⟨h1, h2⟩, y, hy, h3⟩
  · subst h1; subst h2; exact .init
  · obtain ⟨⟨⟨⟨⟨h2, h3⟩, h4⟩, h5⟩, h6⟩, h7⟩ := h1
    split at h7
    · rename_i s hs
      simp only [Bool.and_eq_true, decide_eq_true_eq] at h7
      have hc := h y hy
      rw [h2] at hc
      obtain ⟨p, d, f⟩ := x
      simp only at h3 h4 h5 h6 h7
      subst h3; subst h4
      exact .pred hc hs h5 h6 h7.2 h7.1
    · cases h7
  · obtain ⟨⟨⟨h2, h3⟩, h4⟩, h5⟩ := h1
    have hc := h y hy
    subst h2; subst h3
    exact .scan hc h5 h4 rfl
  · obtain ⟨⟨h4, h5⟩, h6⟩ := h3
    have hc := h z hz
    have hc2 := h y hy
    rw [h1] at hc
    rw [h4] at hc2
    subst h5
    exact .comp hc h2 hc2 h6
theorem justAll_spec {g : Gm} {ks : List Int} : ∀ (l pre : List (Nat × It)), (∀ y ∈ pre, Cht g ks y.1 y.2) → justAll g ks pre l = true → ∀ y ∈ l, Cht g ks y.1 y.2
  | [], _, _, _, y, hy => by cases hy
  | z :: r, pre, h, hj, y, hy => by
    simp only [justAll, Bool.and_eq_true] at hj
    have hz := justB_spec h hj.1
    rcases List.mem_cons.1 hy with rfl | hy
    · exact hz
    · refine justAll_spec r (z :: pre) (fun w hw => ?_) hj.2 y hy
      rcases List.mem_cons.1 hw with rfl | hw
      · exact hz
      · exact h w hw
def closB (g : Gm) (ks : List Int) (l : List (Nat × It)) : Bool :=
  l.contains (0, ⟨0, 0, 0⟩) && l.all fun y => match nxt g y.2 with
    | some s => (!decide (s ≥ g.nt) || (List.range g.prods.length).all fun k => !decide ((gp g k).left = s - g.nt) || l.contains (y.1, ⟨k, 0, y.1⟩)) &&
      (!decide (y.1 < ks.length ∧ gi ks y.1 = s) || l.contains (y.1 + 1, adv y.2))
    | none => l.all fun z => !decide (z.1 = y.2.f.toNat ∧ nxt g z.2 = some (g.nt + (gp g y.2.p).left)) || l.contains (y.1, adv z.2)
theorem closB_spec {g : Gm} {ks : List Int} {l : List (Nat × It)} (h : closB g ks l = true) {i : Nat} {x : It} (hc : Cht g ks i x) : (i, x) ∈ l := by
  unfold closB at h
  simp only [Bool.and_eq_true, List.all_eq_true] at h
  obtain ⟨h0, h1⟩ := h
  induction hc with
  | init => simpa using h0
  | @pred i y s k _ hn k0 k1 hk hs ih =>
    have := h1 _ ih
    simp only [hn, Bool.and_eq_true, Bool.or_eq_true, Bool.not_eq_true', decide_eq_false_iff_not] at this
    rcases this.1 with h2 | h2
    · exact absurd hs h2
    · have h3 := List.all_eq_true.1 h2 k.toNat (List.mem_range.2 (by omega))
      have e : ((k.toNat : Nat) : Int) = k := by omega
      rw [e] at h3
      simp only [Bool.or_eq_true, Bool.not_eq_true', decide_eq_false_iff_not] at h3
      rcases h3 with h3 | h3
      · exact absurd hk h3
      · simpa using h3
  | @scan i y s _ hn hi hk ih =>
    have := h1 _ ih
    simp only [hn, Bool.and_eq_true, Bool.or_eq_true, Bool.not_eq_true', decide_eq_false_iff_not] at this
    rcases this.2 with h2 | h2
    · exact absurd ⟨hi, hk⟩ h2
    · simpa using h2
  | @comp i x y _ hn _ hm ih1 ih2 =>
    have := h1 _ ih1
    simp only [hn, List.all_eq_true] at this
    have := this _ ih2
    simp only [Bool.or_eq_true, Bool.not_eq_true', decide_eq_false_iff_not] at this
    rcases this with h2 | h2
    · exact absurd ⟨trivial, hm⟩ h2
    · simpa using h2
/-! Ways, reckoned. -/
def lkA : List (It × Int) → Ways
  | [], _ => 0
  | (y, v) :: r, x => if x = y then v else lkA r x
def okA (l : List (It × Int)) : Bool := l.all fun y => decide (0 ≤ y.2) && decide (y.2 ≤ 2)
theorem okA_spec : ∀ {l : List (It × Int)}, okA l = true → WOk (lkA l)
  | [], _ => ⟨fun _ => Int.le_refl 0, fun _ => by simp [lkA]⟩
  | (y, v) :: r, h => by
    simp only [okA, List.all_cons, Bool.and_eq_true, decide_eq_true_eq] at h
    have ih := okA_spec (l := r) h.2
    refine ⟨fun x => ?_, fun x => ?_⟩
    · simp only [lkA]; split
      · exact h.1.1
      · exact ih.lo x
    · simp only [lkA]; split
      · exact h.1.2
      · exact ih.hi x
def upB (g : Gm) (ks : List Int) (l : List (It × Int)) : Bool :=
  okA l && (List.range g.nn).all fun p => (List.range (ks.length + 1)).all fun d => (List.range (ks.length + 1)).all fun f => decide (mn (opW g ks (lkA l) ⟨p, d, f⟩) ≤ lkA l ⟨p, d, f⟩)
theorem upB_spec {g : Gm} {ks : List Int} {l : List (It × Int)} (hs : Shape g) (h : upB g ks l = true) : WOk (lkA l) ∧ Pre g ks (lkA l) := by
  unfold upB at h
  simp only [Bool.and_eq_true, List.all_eq_true, List.mem_range, decide_eq_true_eq] at h
  have hok := okA_spec h.1
  refine ⟨hok, fun x hx => ?_⟩
  by_cases hp : 0 < opW g ks (lkA l) x
  · obtain ⟨p, hp, h2⟩ := sumP_pos hok x _ hp
    have hl := hs.left p hp
    rw [opP_left h2] at hl
    obtain ⟨xp, xd, xf⟩ := x
    obtain ⟨h3, h4, h5, h6⟩ := hx
    simp only at hl h3 h4 h5 h6
    have := h.2 xp.toNat (by omega) xd.toNat (by omega) xf.toNat (by omega)
    rw [show ((xp.toNat : Nat) : Int) = xp by omega, show ((xd.toNat : Nat) : Int) = xd by omega, show ((xf.toNat : Nat) : Int) = xf by omega] at this
    exact this
  · have := hok.lo x
    have h0 := sumP_nonneg (g := g) (ks := ks) hok x g.prods
    have : opW g ks (lkA l) x = 0 := by unfold opW at *; omega
    rw [this]
    exact hok.lo x
def loB (g : Gm) (ks : List Int) : List (It × Int) → List (It × Int) → Bool
  | _, [] => true
  | l, (x, v) :: r => decide (0 ≤ x.d ∧ x.d ≤ ks.length ∧ 0 ≤ x.f ∧ x.f ≤ ks.length) && decide (0 ≤ v) && decide (v ≤ 2) && decide (v ≤ mn (opW g ks (lkA l) x)) && loB g ks ((x, v) :: l) r
theorem loB_spec {g : Gm} {ks : List Int} {W : Ways} (hW : Lst g ks W) : ∀ (r l : List (It × Int)), WOk (lkA l) → (∀ x, lkA l x ≤ W x) → loB g ks l r = true → ∀ x, lkA (r.reverse ++ l) x ≤ W x
  | [], l, _, h, _, x => h x
  | (y, v) :: r, l, hok, h, hb, x => by
    simp only [loB, Bool.and_eq_true, decide_eq_true_eq] at hb
    obtain ⟨⟨⟨⟨h1, h2⟩, h3⟩, h4⟩, h5⟩ := hb
    have hok' : WOk (lkA ((y, v) :: l)) := by
      refine ⟨fun z => ?_, fun z => ?_⟩
      · simp only [lkA]; split
        · exact h2
        · exact hok.lo z
      · simp only [lkA]; split
        · exact h3
        · exact hok.hi z
    have h' : ∀ z, lkA ((y, v) :: l) z ≤ W z := by
      intro z
      simp only [lkA]; split
      · rename_i e; subst e
        have a := mn_mono (opW_mono (g := g) (ks := ks) hok hW.ok h z)
        have b := hW.pre z h1
        omega
      · exact h z
    have := loB_spec hW r ((y, v) :: l) hok' h' h5 x
    rw [List.reverse_cons, List.append_assoc]
    exact this
/-- What 'tells' asks. -/
structure TV (g : Gm) (ks : List Int) (d v : Bool) (w : Int) : Prop where
  ok : GOk g
  kok : KOk g ks
  der : Cht g ks ks.length ⟨0, 1, 0⟩ ↔ d = true
  via : (∃ x, Cht g ks ks.length x) ↔ v = true
  way : ∀ W, Lst g ks W → W ⟨0, 0, ks.length⟩ = w
def kokB (g : Gm) (ks : List Int) : Bool := decide (ks.length ≤ 60) && ks.all fun k => decide (1 ≤ k) && decide (k < g.nt)
def tvB (g : Gm) (ord : List Nat) (ks : List Int) (d v : Bool) (w : Int) (ch : List (Nat × It)) (up lo : List (It × Int)) : Bool :=
  gokB g ord && kokB g ks && justAll g ks [] ch && closB g ks ch && (ch.contains (ks.length, ⟨0, 1, 0⟩) == d) && (ch.any (fun y => decide (y.1 = ks.length)) == v) &&
  upB g ks up && decide (lkA up ⟨0, 0, ks.length⟩ = w) && loB g ks [] lo && decide (lkA lo.reverse ⟨0, 0, ks.length⟩ = w)
theorem tvB_spec {g : Gm} {ord : List Nat} {ks : List Int} {d v : Bool} {w : Int} {ch : List (Nat × It)} {up lo : List (It × Int)} (h : tvB g ord ks d v w ch up lo = true) : TV g ks d v w := by
  unfold tvB at h
  simp only [Bool.and_eq_true, beq_iff_eq, decide_eq_true_eq] at h
  obtain ⟨⟨⟨⟨⟨⟨⟨⟨⟨h1, h2⟩, h3⟩, h4⟩, h5⟩, h6⟩, h7⟩, h8⟩, h9⟩, h10⟩ := h
  have hg := gokB_spec h1
  have hch : ∀ i x, Cht g ks i x ↔ (i, x) ∈ ch := fun i x => ⟨fun h => closB_spec h4 h, fun h => justAll_spec ch [] (by simp) h3 (i, x) h⟩
  refine ⟨hg, ?_, ?_, ?_, ?_⟩
  · unfold kokB at h2
    simp only [Bool.and_eq_true, List.all_eq_true, decide_eq_true_eq] at h2
    exact ⟨h2.1, h2.2⟩
  · rw [hch, ← h5]; simp
  · rw [← h6, List.any_eq_true]
    constructor
    · rintro ⟨x, hx⟩; exact ⟨_, (hch _ _).1 hx, by simp⟩
    · rintro ⟨⟨i, x⟩, hx, he⟩
      simp only [decide_eq_true_eq] at he
      subst he
      exact ⟨x, (hch _ _).2 hx⟩
  · intro W hW
    obtain ⟨a, b⟩ := upB_spec hg.sh h7
    have hi := hW.min _ a b ⟨0, 0, ks.length⟩
    have hl := loB_spec hW lo [] (okA_spec rfl) (fun x => hW.ok.lo x) h9 ⟨0, 0, ks.length⟩
    rw [List.append_nil] at hl
    omega
end Go.Proofs.Yteheedbhmggcgaa
