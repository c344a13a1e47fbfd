import Derived.Test.YteheedbhmggcgaaEF
namespace Go.Proofs.Yteheedbhmggcgaa
open Go Go.Vy Go.Proofs
set_option linter.unusedSimpArgs false
set_option linter.unusedVariables false
/-- Sums. -/
def sm (f : Nat → Int) : Nat → Int
  | 0 => 0
  | n + 1 => sm f n + f n
theorem sm_nonneg {f : Nat → Int} (h : ∀ i, 0 ≤ f i) : ∀ n, 0 ≤ sm f n
  | 0 => Int.le_refl 0
  | n + 1 => by have := sm_nonneg h n; have := h n; simp only [sm]; omega
theorem sm_mono {f f' : Nat → Int} (h : ∀ i, f i ≤ f' i) : ∀ n, sm f n ≤ sm f' n
  | 0 => Int.le_refl 0
  | n + 1 => by have := sm_mono h n; have := h n; simp only [sm]; omega
theorem sm_pos {f : Nat → Int} (h : ∀ i, 0 ≤ f i) : ∀ {n}, 0 < sm f n → ∃ i, i < n ∧ 0 < f i
  | 0, hp => by simp [sm] at hp
  | n + 1, hp => by
    simp only [sm] at hp
    by_cases e : 0 < f n
    · exact ⟨n, by omega, e⟩
    · obtain ⟨i, hi, h1⟩ := sm_pos h (n := n) (by omega)
      exact ⟨i, by omega, h1⟩
theorem pos_sm {f : Nat → Int} (h : ∀ i, 0 ≤ f i) : ∀ {n i}, i < n → 0 < f i → 0 < sm f n
  | 0, i, hi, _ => by omega
  | n + 1, i, hi, hp => by
    simp only [sm]
    have := sm_nonneg h n
    have := h n
    by_cases e : i = n
    · subst e; omega
    · have := pos_sm h (n := n) (by omega) hp; omega
/-- Ways of pieces: name, from, to. -/
abbrev Ways := It → Int
def mn (a : Int) : Int := if 2 < a then 2 else a
theorem mn_le (a : Int) : mn a ≤ 2 := by unfold mn; split <;> omega
theorem mn_mono {a b : Int} (h : a ≤ b) : mn a ≤ mn b := by unfold mn; split <;> split <;> omega
theorem mn_nonneg {a : Int} (h : 0 ≤ a) : 0 ≤ mn a := by unfold mn; split <;> omega
theorem mn_pos {a : Int} : 0 < mn a ↔ 0 < a := by unfold mn; split <;> omega
theorem mn_id {a : Int} (h : a ≤ 2) : mn a = a := by unfold mn; split <;> omega
/-- 'n ways behind one symbol more': what ends at j, of the starts below i. -/
def stpU (g : Gm) (ks : List Int) (W : Ways) (s : Int) (now : Nat → Int) (i j : Nat) : Int :=
  if s ≥ g.nt then mn (sm (fun i => if i ≤ j then now i * W ⟨s - g.nt, i, j⟩ else 0) i)
  else if 1 ≤ j ∧ j - 1 < i ∧ gi ks (j - 1 : Nat) = s ∧ j - 1 < ks.length then now (j - 1) else 0
def stp (g : Gm) (ks : List Int) (W : Ways) (s : Int) (now : Nat → Int) (j : Nat) : Int := stpU g ks W s now (ks.length + 1) j
def rowf (g : Gm) (ks : List Int) (W : Ways) (l : List Int) (now : Nat → Int) : Nat → Int := l.foldl (fun now s => stp g ks W s now) now
def unit (a : Nat) (j : Nat) : Int := if j = a then 1 else 0
structure WOk (W : Ways) : Prop where
  lo : ∀ x, 0 ≤ W x
  hi : ∀ x, W x ≤ 2
structure NOk (now : Nat → Int) : Prop where
  lo : ∀ i, 0 ≤ now i
  hi : ∀ i, now i ≤ 2
theorem unit_ok (a : Nat) : NOk (unit a) := ⟨fun i => by unfold unit; split <;> omega, fun i => by unfold unit; split <;> omega⟩
theorem stpU_ok {g : Gm} {ks : List Int} {W : Ways} (hw : WOk W) {now : Nat → Int} (hn : NOk now) (s : Int) (i : Nat) : NOk (stpU g ks W s now i) := by
  have h0 : ∀ j i, 0 ≤ (if i ≤ j then now i * W ⟨s - g.nt, i, j⟩ else 0) := by
    intro j i; split
    · exact Int.mul_nonneg (hn.lo _) (hw.lo _)
    · omega
  refine ⟨fun j => ?_, fun j => ?_⟩
  · unfold stpU; split
    · exact mn_nonneg (sm_nonneg (h0 j) _)
    · split
      · exact hn.lo _
      · omega
  · unfold stpU; split
    · exact mn_le _
    · split
      · exact hn.hi _
      · omega
theorem stp_ok {g : Gm} {ks : List Int} {W : Ways} (hw : WOk W) {now : Nat → Int} (hn : NOk now) (s : Int) : NOk (stp g ks W s now) := stpU_ok hw hn s _
theorem rowf_ok {g : Gm} {ks : List Int} {W : Ways} (hw : WOk W) : ∀ (l : List Int) {now : Nat → Int}, NOk now → NOk (rowf g ks W l now)
  | [], _, hn => hn
  | s :: l, _, hn => rowf_ok hw l (stp_ok hw hn s)
theorem rowf_cons (g : Gm) (ks : List Int) (W : Ways) (s : Int) (l : List Int) (now : Nat → Int) : rowf g ks W (s :: l) now = rowf g ks W l (stp g ks W s now) := rfl
theorem rowf_snoc (g : Gm) (ks : List Int) (W : Ways) (s : Int) (l : List Int) (now : Nat → Int) : rowf g ks W (l ++ [s]) now = stp g ks W s (rowf g ks W l now) := by simp [rowf]
/-- One start more. -/
theorem stpU_zero (g : Gm) (ks : List Int) (W : Ways) (s : Int) (now : Nat → Int) (j : Nat) : stpU g ks W s now 0 j = 0 := by
  unfold stpU; split
  · rfl
  · rw [if_neg (by omega)]
theorem mn_add {a b : Int} (ha : 0 ≤ a) (hb : 0 ≤ b) : mn (mn a + b) = mn (a + b) := by unfold mn; (repeat' split) <;> omega
theorem stpU_name {g : Gm} {ks : List Int} {W : Ways} (hw : WOk W) {now : Nat → Int} (hn : NOk now) {s : Int} (hs : s ≥ g.nt) (i j : Nat) : stpU g ks W s now (i + 1) j = if i ≤ j then mn (stpU g ks W s now i j + now i * W ⟨s - g.nt, i, j⟩) else stpU g ks W s now i j := by
  have h0 : ∀ i, 0 ≤ (if i ≤ j then now i * W ⟨s - g.nt, i, j⟩ else 0) := by
    intro i; split
    · exact Int.mul_nonneg (hn.lo _) (hw.lo _)
    · omega
  unfold stpU
  simp only [if_pos hs, sm]
  split
  · rename_i h
    rw [mn_add (sm_nonneg h0 _) (Int.mul_nonneg (hn.lo _) (hw.lo _))]
  · rw [Int.add_zero]
theorem stpU_name0 {g : Gm} {ks : List Int} {W : Ways} {now : Nat → Int} {s : Int} {i : Nat} (hn : now i = 0) (hs : s ≥ g.nt) (hw : WOk W) (hk : NOk now) (j : Nat) : stpU g ks W s now (i + 1) j = stpU g ks W s now i j := by
  rw [stpU_name hw hk hs]
  split
  · rw [hn, Int.zero_mul, Int.add_zero, mn_id ((stpU_ok hw hk s i).hi j)]
  · rfl
theorem stpU_term {g : Gm} {ks : List Int} {W : Ways} {now : Nat → Int} {s : Int} (hs : ¬ s ≥ g.nt) (i j : Nat) : stpU g ks W s now (i + 1) j = if j = i + 1 ∧ gi ks i = s ∧ i < ks.length then now i else stpU g ks W s now i j := by
  unfold stpU
  simp only [if_neg hs]
  by_cases e : j = i + 1
  · subst e
    simp only [Nat.add_sub_cancel]
    by_cases h : gi ks i = s ∧ i < ks.length
    · rw [if_pos ⟨by omega, by omega, h⟩, if_pos ⟨trivial, h⟩]
    · rw [if_neg (fun x => h x.2.2), if_neg (fun x => h x.2), if_neg (fun x => h x.2.2)]
  · rw [if_neg (fun x => e x.1 : ¬ (j = i + 1 ∧ _))]
    by_cases h : 1 ≤ j ∧ j - 1 < i ∧ gi ks (j - 1 : Nat) = s ∧ j - 1 < ks.length
    · rw [if_pos ⟨h.1, by omega, h.2.2⟩, if_pos h]
    · rw [if_neg (fun x => h ⟨x.1, by omega, x.2.2⟩), if_neg h]
/-- All of a production's ways. -/
def opP (g : Gm) (ks : List Int) (W : Ways) (x : It) (p : Pr) : Int := if p.left = x.p then rowf g ks W p.rhs (unit x.d.toNat) x.f.toNat else 0
def sumP (g : Gm) (ks : List Int) (W : Ways) (x : It) : List Pr → Int
  | [] => 0
  | p :: r => opP g ks W x p + sumP g ks W x r
def opW (g : Gm) (ks : List Int) (W : Ways) (x : It) : Int := sumP g ks W x g.prods
def InD (ks : List Int) (x : It) : Prop := 0 ≤ x.d ∧ x.d ≤ ks.length ∧ 0 ≤ x.f ∧ x.f ≤ ks.length
def Pre (g : Gm) (ks : List Int) (W : Ways) : Prop := ∀ x, InD ks x → mn (opW g ks W x) ≤ W x
theorem opP_ok {g : Gm} {ks : List Int} {W : Ways} (hw : WOk W) (x : It) (p : Pr) : 0 ≤ opP g ks W x p ∧ opP g ks W x p ≤ 2 := by
  unfold opP; split
  · have := rowf_ok (g := g) (ks := ks) hw p.rhs (unit_ok x.d.toNat)
    exact ⟨this.lo _, this.hi _⟩
  · omega
theorem sumP_nonneg {g : Gm} {ks : List Int} {W : Ways} (hw : WOk W) (x : It) : ∀ l, 0 ≤ sumP g ks W x l
  | [] => Int.le_refl 0
  | p :: r => by have := sumP_nonneg (g := g) (ks := ks) hw x r; have := opP_ok (g := g) (ks := ks) hw x p; simp only [sumP]; omega
theorem sumP_append (g : Gm) (ks : List Int) (W : Ways) (x : It) : ∀ l l', sumP g ks W x (l ++ l') = sumP g ks W x l + sumP g ks W x l'
  | [], l' => by simp [sumP]
  | p :: r, l' => by simp only [List.cons_append, sumP, sumP_append g ks W x r]; omega
theorem sumP_le {g : Gm} {ks : List Int} {W : Ways} (hw : WOk W) (x : It) : ∀ l, sumP g ks W x l ≤ 2 * l.length
  | [] => by simp [sumP]
  | p :: r => by have := sumP_le (g := g) (ks := ks) hw x r; have := opP_ok (g := g) (ks := ks) hw x p; simp only [sumP, List.length_cons]; omega
theorem mul_mono {a b c d : Int} (h1 : 0 ≤ a) (h2 : a ≤ b) (h3 : 0 ≤ c) (h4 : c ≤ d) : a * c ≤ b * d := Int.mul_le_mul h2 h4 h3 (by omega)
theorem stp_mono {g : Gm} {ks : List Int} {V W : Ways} (hv : WOk V) (h : ∀ x, V x ≤ W x) {now now' : Nat → Int} (hn : NOk now) (h' : ∀ i, now i ≤ now' i) (s : Int) (j : Nat) : stp g ks V s now j ≤ stp g ks W s now' j := by
  unfold stp stpU
  split
  · refine mn_mono (sm_mono (fun i => ?_) _)
    split
    · exact mul_mono (hn.lo _) (h' _) (hv.lo _) (h _)
    · exact Int.le_refl 0
  · split
    · exact h' _
    · exact Int.le_refl 0
theorem rowf_mono {g : Gm} {ks : List Int} {V W : Ways} (hv : WOk V) (hw : WOk W) (h : ∀ x, V x ≤ W x) : ∀ (l : List Int) {now now' : Nat → Int}, NOk now → NOk now' → (∀ i, now i ≤ now' i) → ∀ j, rowf g ks V l now j ≤ rowf g ks W l now' j
  | [], _, _, _, _, h', j => h' j
  | s :: l, _, _, hn, hn', h', j => by
    rw [rowf_cons, rowf_cons]
    exact rowf_mono hv hw h l (stp_ok hv hn s) (stp_ok hw hn' s) (fun i => stp_mono hv h hn h' s i) j
theorem opP_mono {g : Gm} {ks : List Int} {V W : Ways} (hv : WOk V) (hw : WOk W) (h : ∀ x, V x ≤ W x) (x : It) (p : Pr) : opP g ks V x p ≤ opP g ks W x p := by
  unfold opP; split
  · exact rowf_mono hv hw h _ (unit_ok _) (unit_ok _) (fun i => Int.le_refl _) _
  · exact Int.le_refl 0
theorem sumP_mono {g : Gm} {ks : List Int} {V W : Ways} (hv : WOk V) (hw : WOk W) (h : ∀ x, V x ≤ W x) (x : It) : ∀ l, sumP g ks V x l ≤ sumP g ks W x l
  | [] => Int.le_refl 0
  | p :: r => by have := sumP_mono (g := g) (ks := ks) hv hw h x r; have := opP_mono (g := g) (ks := ks) hv hw h x p; simp only [sumP]; omega
theorem opW_mono {g : Gm} {ks : List Int} {V W : Ways} (hv : WOk V) (hw : WOk W) (h : ∀ x, V x ≤ W x) (x : It) : opW g ks V x ≤ opW g ks W x := sumP_mono hv hw h x _
end Go.Proofs.Yteheedbhmggcgaa
