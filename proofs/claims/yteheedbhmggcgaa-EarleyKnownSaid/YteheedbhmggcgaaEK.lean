import Derived.Test.YteheedbhmggcgaaEJ
namespace Go.Proofs.Yteheedbhmggcgaa
open Go Go.Vy Go.Proofs
set_option linter.unusedSimpArgs false
set_option linter.unusedVariables false
/-- Symbols stand for the terms from a place to a place. -/
inductive Sq (g : Gm) (ks : List Int) : List Int → Nat → Nat → Prop
  | nil (i : Nat) : Sq g ks [] i i
  | term {s : Int} {l : List Int} {i j : Nat} : ¬ s ≥ g.nt → i < ks.length → gi ks i = s → Sq g ks l (i + 1) j → Sq g ks (s :: l) i j
  | name {s : Int} {l : List Int} {i m j : Nat} {k : Int} : s ≥ g.nt → 0 ≤ k → k < g.prods.length → (gp g k).left = s - g.nt → Sq g ks (gp g k).rhs i m → Sq g ks l m j → Sq g ks (s :: l) i j
theorem Sq.le {g : Gm} {ks : List Int} {l : List Int} {i j : Nat} (h : Sq g ks l i j) : i ≤ j := by
  induction h with
  | nil i => exact Nat.le_refl _
  | term _ _ _ _ ih => omega
  | name _ _ _ _ _ _ ih1 ih2 => omega
theorem Sq.end_le {g : Gm} {ks : List Int} {l : List Int} {i j : Nat} (h : Sq g ks l i j) : i ≤ ks.length → j ≤ ks.length := by
  induction h with
  | nil i => exact id
  | term _ h1 _ _ ih => exact fun _ => ih (by omega)
  | name _ _ _ _ _ _ ih1 ih2 => exact fun h => ih2 (ih1 h)
theorem Sq.append {g : Gm} {ks : List Int} {l l' : List Int} {i j m : Nat} (h : Sq g ks l i m) (h' : Sq g ks l' m j) : Sq g ks (l ++ l') i j := by
  induction h with
  | nil i => exact h'
  | term a b c d ih => exact .term a b c (ih h')
  | name a b c d e f ih1 ih2 => exact .name a b c d e (ih2 h')
def Der (g : Gm) (ks : List Int) (x : It) : Prop := 0 ≤ x.d ∧ 0 ≤ x.f ∧ ∃ k : Int, 0 ≤ k ∧ k < g.prods.length ∧ (gp g k).left = x.p ∧ Sq g ks (gp g k).rhs x.d.toNat x.f.toNat
theorem mul_pos2 {a b : Int} (ha : 0 ≤ a) (hb : 0 ≤ b) (h : 0 < a * b) : 0 < a ∧ 0 < b := by
  constructor
  · rcases Int.lt_or_eq_of_le ha with h1 | h1
    · exact h1
    · subst h1; simp at h
  · rcases Int.lt_or_eq_of_le hb with h1 | h1
    · exact h1
    · subst h1; simp at h
theorem rowf_sq {g : Gm} {ks : List Int} {V : Ways} (hv : WOk V) (hd : ∀ x, 0 < V x → Der g ks x) : ∀ (l : List Int) {now : Nat → Int} {j : Nat}, NOk now → 0 < rowf g ks V l now j → ∃ i, 0 < now i ∧ Sq g ks l i j
  | [], now, j, _, h => ⟨j, h, .nil j⟩
  | s :: l, now, j, hn, h => by
    rw [rowf_cons] at h
    obtain ⟨m, hm, hs⟩ := rowf_sq hv hd l (stp_ok hv hn s) h
    unfold stp stpU at hm
    split at hm
    · rename_i hge
      rw [mn_pos] at hm
      have h0 : ∀ i, 0 ≤ (if i ≤ m then now i * V ⟨s - g.nt, i, m⟩ else 0) := by
        intro i; split
        · exact Int.mul_nonneg (hn.lo _) (hv.lo _)
        · omega
      obtain ⟨i, hi, h1⟩ := sm_pos h0 hm
      split at h1
      · obtain ⟨h2, h3⟩ := mul_pos2 (hn.lo _) (hv.lo _) h1
        obtain ⟨_, _, k, k0, k1, k2, k3⟩ := hd _ h3
        simp only [Int.toNat_natCast] at k3
        exact ⟨i, h2, .name hge k0 k1 k2 k3 hs⟩
      · omega
    · rename_i hlt
      split at hm
      · rename_i hc
        obtain ⟨c1, c2, c3, c4⟩ := hc
        refine ⟨m - 1, hm, .term hlt c4 c3 ?_⟩
        rw [show m - 1 + 1 = m by omega]; exact hs
      · omega
open Classical in
theorem der_pre (g : Gm) (ks : List Int) : WOk (fun x => if Der g ks x then 2 else 0) ∧ Pre g ks (fun x => if Der g ks x then 2 else 0) := by
  have hok : WOk (fun x => if Der g ks x then 2 else 0) := ⟨fun x => by (try simp only []); split <;> omega, fun x => by (try simp only []); split <;> omega⟩
  refine ⟨hok, fun x hx => ?_⟩
  simp only []
  by_cases h : Der g ks x
  · rw [if_pos h]; exact mn_le _
  · rw [if_neg h]
    refine Classical.byContradiction fun hn => h ?_
    have h1 : 0 < opW g ks (fun x => if Der g ks x then 2 else 0) x := by rw [← mn_pos]; omega
    obtain ⟨p, hp, h2⟩ := sumP_pos hok x _ h1
    have hl := opP_left h2
    unfold opP at h2
    rw [if_pos hl] at h2
    obtain ⟨i, hi, hs⟩ := rowf_sq hok (fun y hy => by
      split at hy
      · assumption
      · omega) _ (unit_ok _) h2
    obtain ⟨k, k0, k1, rfl⟩ := mem_gp hp
    unfold unit at hi
    split at hi
    · rename_i e; subst e
      exact ⟨hx.1, hx.2.2.1, k, k0, k1, hl, hs⟩
    · omega
theorem sq_rowf {g : Gm} {ks : List Int} {W : Ways} (hw : WOk W) (hp : Pre g ks W) {l : List Int} {i j : Nat} (h : Sq g ks l i j) : i ≤ ks.length → ∀ {now : Nat → Int}, NOk now → 0 < now i → 0 < rowf g ks W l now j := by
  induction h with
  | nil i => exact fun _ _ _ h => h
  | @term s l i j hs hi hk _ ih =>
    intro hle now hn h
    rw [rowf_cons]
    refine ih (by omega) (stp_ok hw hn s) ?_
    unfold stp stpU
    rw [if_neg hs, if_pos ⟨by omega, by omega, by simpa using hk, by simpa using hi⟩]
    simpa using h
  | @name s l i m j k hs k0 k1 hk h1 h2 ih1 ih2 =>
    intro hle now hn h
    rw [rowf_cons]
    have hm := h1.end_le hle
    refine ih2 hm (stp_ok hw hn s) ?_
    have hwp : 0 < W ⟨s - g.nt, i, m⟩ := by
      have := hp ⟨s - g.nt, i, m⟩ ⟨Int.natCast_nonneg _, by simp only []; omega, Int.natCast_nonneg _, by simp only []; omega⟩
      have hpos : 0 < opW g ks W ⟨s - g.nt, i, m⟩ := by
        have : ∀ l : List Pr, gp g k ∈ l → 0 < sumP g ks W ⟨s - g.nt, i, m⟩ l := by
          intro l
          induction l with
          | nil => intro h; cases h
          | cons p r ih =>
            intro h
            have a := opP_ok (g := g) (ks := ks) hw ⟨s - g.nt, i, m⟩ p
            have b := sumP_nonneg (g := g) (ks := ks) hw ⟨s - g.nt, i, m⟩ r
            simp only [sumP]
            rcases List.mem_cons.1 h with h | h
            · have : 0 < opP g ks W ⟨s - g.nt, i, m⟩ p := by
                rw [← h]
                unfold opP
                rw [if_pos (by simpa using hk)]
                simp only [Int.toNat_natCast]
                exact ih1 hle (unit_ok i) (by simp [unit])
              omega
            · have := ih h; omega
        exact this _ (gp_mem k0 k1)
      have := mn_pos.2 hpos
      omega
    unfold stp stpU
    rw [if_pos hs, mn_pos]
    have h0 : ∀ i, 0 ≤ (if i ≤ m then now i * W ⟨s - g.nt, i, m⟩ else 0) := by
      intro i; split
      · exact Int.mul_nonneg (hn.lo _) (hw.lo _)
      · omega
    refine pos_sm h0 (i := i) (by omega) ?_
    rw [if_pos h1.le]
    exact Int.mul_pos h hwp
structure ChI (g : Gm) (ks : List Int) (i : Nat) (x : It) : Prop where
  p0 : 0 ≤ x.p
  p1 : x.p < g.prods.length
  d0 : 0 ≤ x.d
  d1 : x.d ≤ (gp g x.p).rhs.length
  f0 : 0 ≤ x.f
  f1 : x.f ≤ i
  le : i ≤ ks.length
  sq : Sq g ks ((gp g x.p).rhs.take x.d.toNat) x.f.toNat i
theorem nxt_some {g : Gm} {x : It} {s : Int} (h : nxt g x = some s) (d0 : 0 ≤ x.d) (d1 : x.d ≤ (gp g x.p).rhs.length) : ∃ hlt : x.d.toNat < (gp g x.p).rhs.length, (gp g x.p).rhs[x.d.toNat] = s := by
  unfold nxt at h
  split at h
  · cases h
  · injection h with h
    have hlt : x.d.toNat < (gp g x.p).rhs.length := by omega
    refine ⟨hlt, ?_⟩
    rw [← h]; simp [gi, hlt]
theorem Cht.ok {g : Gm} (hsh : Shape g) {ks : List Int} (hkk : ∀ k ∈ ks, 1 ≤ k ∧ k < (g.nt : Int)) {i : Nat} {x : It} (h : Cht g ks i x) : ChI g ks i x := by
  induction h with
  | init =>
    have hnp := hsh.np1
    exact ⟨Int.le_refl 0, by simp only []; omega, Int.le_refl 0, Int.natCast_nonneg _, Int.le_refl 0, Int.le_refl _, Nat.zero_le _, .nil 0⟩
  | @pred i y s k _ hn k0 k1 hk hs ih => exact ⟨k0, k1, Int.le_refl 0, Int.natCast_nonneg _, Int.natCast_nonneg _, Int.le_refl _, ih.le, by simpa using Sq.nil i⟩
  | @scan i y s hc hn hi hk ih =>
    obtain ⟨hlt, he⟩ := nxt_some hn ih.d0 ih.d1
    have d0 := ih.d0
    refine ⟨ih.p0, ih.p1, by simp only [adv]; omega, by simp only [adv]; omega, ih.f0, by have := ih.f1; simp only [adv]; omega, hi, ?_⟩
    have e : (y.d + 1).toNat = y.d.toNat + 1 := by omega
    simp only [adv]
    rw [e, List.take_add_one, List.getElem?_eq_getElem hlt, he]
    refine ih.sq.append ?_
    have hmem : gi ks i ∈ ks := by rw [gi_nat _ _ hi]; exact List.getElem_mem hi
    have := (hkk _ hmem).2
    exact .term (by omega) hi hk (.nil _)
  | @comp i x y hc hn hc2 hm ih1 ih2 =>
    obtain ⟨hlt, he⟩ := nxt_some hm ih2.d0 ih2.d1
    have d0 := ih2.d0
    have f0 := ih1.f0
    have f1 := ih1.f1
    have f2 := ih2.f1
    refine ⟨ih2.p0, ih2.p1, by simp only [adv]; omega, by simp only [adv]; omega, ih2.f0, by simp only [adv]; omega, ih1.le, ?_⟩
    have e : (y.d + 1).toNat = y.d.toNat + 1 := by omega
    simp only [adv]
    rw [e, List.take_add_one, List.getElem?_eq_getElem hlt, he]
    refine ih2.sq.append ?_
    have hw : (gp g x.p).rhs.take x.d.toNat = (gp g x.p).rhs := by
      have : x.d = (gp g x.p).rhs.length := by
        unfold nxt at hn; split at hn
        · assumption
        · cases hn
      rw [List.take_of_length_le (by omega)]
    have := ih1.sq
    rw [hw] at this
    have hl := (hsh.left _ (gp_mem ih1.p0 ih1.p1)).1
    exact .name (k := x.p) (by omega) ih1.p0 ih1.p1 (by omega) this (.nil _)
theorem drop_cons {l : List Int} {n : Nat} {s : Int} {r : List Int} (h : l.drop n = s :: r) : n < l.length ∧ l.getD n 0 = s ∧ l.drop (n + 1) = r := by
  have hlt : n < l.length := by
    refine Classical.byContradiction fun hn => ?_
    rw [List.drop_eq_nil_of_le (by omega)] at h; cases h
  rw [List.drop_eq_getElem_cons hlt] at h
  injection h with h1 h2
  exact ⟨hlt, by simp [hlt, h1], h2⟩
theorem sq_cht {g : Gm} {ks : List Int} (hsh : Shape g) (hkk : ∀ k ∈ ks, 1 ≤ k ∧ k < (g.nt : Int)) {l : List Int} {i j : Nat} (h : Sq g ks l i j) : ∀ x : It, Cht g ks i x → (gp g x.p).rhs.drop x.d.toNat = l → Cht g ks j ⟨x.p, (gp g x.p).rhs.length, x.f⟩ := by
  induction h with
  | nil i =>
    intro x hx hd
    have hc := hx.ok hsh hkk
    have d0 := hc.d0
    have d1 := hc.d1
    have : (gp g x.p).rhs.length ≤ x.d.toNat := by
      refine Classical.byContradiction fun hn => ?_
      have := congrArg List.length hd
      simp at this; omega
    have e : x = ⟨x.p, (gp g x.p).rhs.length, x.f⟩ := by
      obtain ⟨p, d, f⟩ := x
      simp only at *
      rw [It.mk.injEq]; exact ⟨rfl, by omega, rfl⟩
    rw [← e]; exact hx
  | @term s l i j hs hi hk h ih =>
    intro x hx hd
    have hc := hx.ok hsh hkk
    have d0 := hc.d0
    obtain ⟨h1, h2, h3⟩ := drop_cons hd
    have hn : nxt g x = some s := by unfold nxt; rw [if_neg (by omega)]; unfold gi; rw [h2]
    exact ih (adv x) (.scan hx hn hi hk) (by simp only [adv]; rw [show (x.d + 1).toNat = x.d.toNat + 1 by omega]; exact h3)
  | @name s l i m j k hs k0 k1 hk h h' ih1 ih2 =>
    intro x hx hd
    have hc := hx.ok hsh hkk
    have d0 := hc.d0
    obtain ⟨h1, h2, h3⟩ := drop_cons hd
    have hn : nxt g x = some s := by unfold nxt; rw [if_neg (by omega)]; unfold gi; rw [h2]
    have hp := Cht.pred hx hn k0 k1 hk hs
    have hw := ih1 ⟨k, 0, i⟩ hp (by simp)
    refine ih2 (adv x) ?_ (by simp only [adv]; rw [show (x.d + 1).toNat = x.d.toNat + 1 by omega]; exact h3)
    exact .comp (x := ⟨k, (gp g k).rhs.length, i⟩) hw (by unfold nxt; simp) (by simpa using hx) (by rw [hn]; congr 1; simp only []; omega)
theorem cht_derives {g : Gm} {ks : List Int} (hok : GOk g) (hkk : ∀ k ∈ ks, 1 ≤ k ∧ k < (g.nt : Int)) : Cht g ks ks.length ⟨0, 1, 0⟩ ↔ Sq g ks (gp g 0).rhs 0 ks.length := by
  constructor
  · intro h
    have := (h.ok hok.sh hkk).sq
    have e : (gp g 0).rhs.take (1 : Int).toNat = (gp g 0).rhs := List.take_of_length_le (by rw [hok.one]; decide)
    simp only [e] at this
    exact this
  · intro h
    have := sq_cht hok.sh hkk h ⟨0, 0, 0⟩ .init (by simp)
    simp only [hok.one] at this
    exact this
/-- Least ways. -/
structure Lst (g : Gm) (ks : List Int) (W : Ways) : Prop where
  ok : WOk W
  pre : Pre g ks W
  min : ∀ V, WOk V → Pre g ks V → ∀ x, W x ≤ V x
theorem ways_pos {g : Gm} {ks : List Int} (hok : GOk g) {W : Ways} (h : Lst g ks W) : 0 < W ⟨0, 0, ks.length⟩ ↔ Sq g ks (gp g 0).rhs 0 ks.length := by
  have hnp := hok.sh.np1
  constructor
  · intro hp
    obtain ⟨h1, h2⟩ := der_pre g ks
    have := h.min _ h1 h2 ⟨0, 0, ks.length⟩
    split at this
    · rename_i hd
      obtain ⟨_, _, k, k0, k1, hk, hs⟩ := hd
      have := (hok.zero k k0 k1).1 hk
      subst this
      simpa using hs
    · omega
  · intro hs
    have h1 := sq_rowf h.ok h.pre hs (Nat.zero_le _) (unit_ok 0) (by simp [unit])
    have h2 := h.pre ⟨0, 0, ks.length⟩ ⟨Int.le_refl 0, Int.natCast_nonneg _, Int.natCast_nonneg _, Int.le_refl _⟩
    have hl : (gp g 0).left = 0 := (hok.zero 0 (Int.le_refl 0) (by omega)).2 rfl
    have hm : gp g 0 ∈ g.prods := gp_mem (Int.le_refl 0) (by omega)
    have : ∀ l : List Pr, gp g 0 ∈ l → 0 < sumP g ks W ⟨0, 0, ks.length⟩ l := by
      intro l
      induction l with
      | nil => intro h; cases h
      | cons p r ih =>
        intro hx
        have a := opP_ok (g := g) (ks := ks) h.ok ⟨0, 0, ks.length⟩ p
        have b := sumP_nonneg (g := g) (ks := ks) h.ok ⟨0, 0, ks.length⟩ r
        simp only [sumP]
        rcases List.mem_cons.1 hx with hx | hx
        · have : 0 < opP g ks W ⟨0, 0, ks.length⟩ p := by
            rw [← hx]
            unfold opP
            rw [if_pos hl]
            simpa using h1
          omega
        · have := ih hx; omega
    have := mn_pos.2 (this _ hm)
    unfold opW at h2
    omega
theorem Cht.down {g : Gm} {ks : List Int} {i : Nat} {x : It} (h : Cht g ks i x) : ∀ j, j ≤ i → ∃ y, Cht g ks j y := by
  induction h with
  | init => intro j hj; exact ⟨⟨0, 0, 0⟩, by rw [show j = 0 by omega]; exact .init⟩
  | pred _ _ _ _ _ _ ih => exact ih
  | @scan i y s hc hn hi hk ih =>
    intro j hj
    by_cases e : j = i + 1
    · subst e; exact ⟨_, .scan hc hn hi hk⟩
    · exact ih j (by omega)
  | comp _ _ _ _ ih1 _ => exact ih1
theorem Cht.take {g : Gm} {ks : List Int} (hsh : Shape g) (hkk : ∀ k ∈ ks, 1 ≤ k ∧ k < (g.nt : Int)) {k : Nat} (hk : k ≤ ks.length) {i : Nat} {x : It} (h : Cht g ks i x) : i ≤ k → Cht g (ks.take k) i x := by
  induction h with
  | init => exact fun _ => .init
  | pred _ hn k0 k1 hl hs ih => exact fun hi => .pred (ih hi) hn k0 k1 hl hs
  | @scan i y s hc hn hi he ih =>
    intro hik
    refine .scan (ih (by omega)) hn (by simp; omega) ?_
    rw [← he]
    unfold gi
    simp only [Int.toNat_natCast, List.getD_eq_getElem?_getD]
    rw [List.getElem?_take, if_pos (by omega)]
  | comp hc hn hc2 hm ih1 ih2 =>
    intro hi
    have := (hc.ok hsh hkk).f1
    exact .comp (ih1 hi) hn (ih2 (by omega)) hm
/-- What begins viable terms is viable. -/
theorem viable_take {g : Gm} {ks : List Int} (hsh : Shape g) (hkk : ∀ k ∈ ks, 1 ≤ k ∧ k < (g.nt : Int)) {k : Nat} (hk : k ≤ ks.length) (h : ∃ x, Cht g ks ks.length x) : ∃ x, Cht g (ks.take k) (ks.take k).length x := by
  obtain ⟨x, hx⟩ := h
  obtain ⟨y, hy⟩ := hx.down k hk
  refine ⟨y, ?_⟩
  have e : (ks.take k).length = k := by simp; omega
  rw [e]
  exact hy.take hsh hkk hk (Nat.le_refl _)
/-! ### One production more -/
def plusG (g : Gm) (q : Pr) : Gm := { g with prods := g.prods ++ [q] }
theorem gp_plus {g : Gm} {q : Pr} {k : Int} (h0 : 0 ≤ k) (h1 : k < g.prods.length) : gp (plusG g q) k = gp g k := by
  have : k.toNat < g.prods.length := by omega
  simp [gp, plusG, List.getElem?_append_left this]
theorem nxt_plus {g : Gm} {q : Pr} {x : It} (h0 : 0 ≤ x.p) (h1 : x.p < g.prods.length) : nxt (plusG g q) x = nxt g x := by
  unfold nxt; rw [gp_plus h0 h1]
theorem Cht.plus {g : Gm} {q : Pr} {ks : List Int} (hsh : Shape g) (hkk : ∀ k ∈ ks, 1 ≤ k ∧ k < (g.nt : Int)) {i : Nat} {x : It} (h : Cht g ks i x) : Cht (plusG g q) ks i x := by
  have hlen : (plusG g q).prods.length = g.prods.length + 1 := by simp [plusG]
  induction h with
  | init => exact .init
  | @pred i y s k hc hn k0 k1 hl hs ih =>
    have := hc.ok hsh hkk
    exact .pred ih (by rw [nxt_plus this.p0 this.p1]; exact hn) k0 (by rw [hlen]; omega) (by rw [gp_plus k0 k1]; exact hl) hs
  | @scan i y s hc hn hi he ih =>
    have := hc.ok hsh hkk
    exact .scan ih (by rw [nxt_plus this.p0 this.p1]; exact hn) hi he
  | @comp i x y hc hn hc2 hm ih1 ih2 =>
    have h1 := hc.ok hsh hkk
    have h2 := hc2.ok hsh hkk
    exact .comp ih1 (by rw [nxt_plus h1.p0 h1.p1]; exact hn) ih2 (by rw [nxt_plus h2.p0 h2.p1, gp_plus h1.p0 h1.p1]; exact hm)
theorem rowf_plus (g : Gm) (q : Pr) (ks : List Int) (W : Ways) (l : List Int) (now : Nat → Int) : rowf (plusG g q) ks W l now = rowf g ks W l now := rfl
theorem opW_plus {g : Gm} {q : Pr} {ks : List Int} {W : Ways} (hw : WOk W) (x : It) : opW g ks W x ≤ opW (plusG g q) ks W x := by
  have e : ∀ l, sumP (plusG g q) ks W x l = sumP g ks W x l := by
    intro l
    induction l with
    | nil => rfl
    | cons p r ih => simp only [sumP, ih]; rfl
  unfold opW
  rw [e]
  show _ ≤ sumP g ks W x (g.prods ++ [q])
  rw [sumP_append]
  have := sumP_nonneg (g := g) (ks := ks) hw x [q]
  omega
theorem lst_plus {g : Gm} {q : Pr} {ks : List Int} {W W' : Ways} (h : Lst g ks W) (h' : Lst (plusG g q) ks W') (x : It) : W x ≤ W' x := by
  refine h.min W' h'.ok (fun y hy => ?_) x
  exact Int.le_trans (mn_mono (opW_plus h'.ok y)) (h'.pre y hy)
theorem useful_plus {g : Gm} {q : Pr} {A : Int} (h : Useful g A) : Useful (plusG g q) A := by
  induction h with
  | mk p hp _ ih => exact .mk p (by simp [plusG, hp]) ih
theorem gok_plus {g : Gm} {q : Pr} (h : GOk g) (h1 : g.prods.length ≤ 127) (hl : 1 ≤ q.left ∧ q.left < g.nn) (hr : q.rhs.length ≤ 12) (hs : ∀ s ∈ q.rhs, 1 ≤ s ∧ s < g.nt + g.nn ∧ s ≠ g.nt) (hb : mayBindB q.ln q.lk = true) : GOk (plusG g q) := by
  have hlen : (plusG g q).prods.length = g.prods.length + 1 := by simp [plusG]
  have hsh := h.sh
  have hnp := hsh.np1
  have hmem : ∀ p ∈ (plusG g q).prods, p ∈ g.prods ∨ p = q := by intro p hp; simpa [plusG] using hp
  refine ⟨⟨hsh.nt, hsh.nn, hsh.nt1, hsh.nn2, by omega, by omega, ?_, ?_, ?_⟩, h.lv, h.lb, ?_, ?_, ?_, ?_, ?_⟩
  · intro p hp
    rcases hmem p hp with hp | rfl
    · exact hsh.rl p hp
    · exact hr
  · intro p hp
    rcases hmem p hp with hp | rfl
    · exact hsh.left p hp
    · exact ⟨by omega, hl.2⟩
  · intro p hp
    rcases hmem p hp with hp | rfl
    · exact hsh.sym p hp
    · exact hs
  · intro i i0 i1
    by_cases e : i < g.prods.length
    · rw [gp_plus i0 e]; exact h.zero i i0 e
    · have e2 : i.toNat = g.prods.length := by omega
      have : gp (plusG g q) i = q := by simp [gp, plusG, e2]
      rw [this]
      constructor
      · intro h0; omega
      · intro h0; omega
  · intro p hp
    rcases hmem p hp with hp | rfl
    · exact h.pb p hp
    · exact hb
  · rw [gp_plus (Int.le_refl 0) (by omega)]; exact h.one
  · rw [gp_plus (Int.le_refl 0) (by omega)]; exact h.name
  · intro A a0 a1; exact useful_plus (h.use A a0 a1)
end Go.Proofs.Yteheedbhmggcgaa
