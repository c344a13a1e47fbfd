import Derived.Test.YteheedbhmggcgaaES
namespace Go.Proofs.Yteheedbhmggcgaa
open Go Go.Vy Go.Proofs
set_option linter.unusedSimpArgs false
set_option linter.unusedVariables false
/-- What is so of every heap that has the same blocks, but for those that are grammars. -/
def FarN (H : Hp) (X : Hp → Prop) : Prop := ∀ H' : Hp, (∀ (b : Nat) (y : Obj), (∀ l, y ≠ row 27 l) → H[b]? = some y → H'[b]? = some y) → X H'
theorem FarN.ext {H H' : Hp} {X : Hp → Prop} (e : Ext H H') (h : FarN H X) : FarN H' X := fun H2 hh => h H2 fun b y hb hy => hh b y hb (e.get hy)
theorem FarN.self {H : Hp} {X : Hp → Prop} (h : FarN H X) : X H := h H fun b y _ h => h
theorem row_ne {E : TypeId} {l : List Value} (h : E ≠ 27) : ∀ l', row E l ≠ row 27 l' := by
  intro l' e
  unfold row at e
  injection e with _ e _
  exact h e
theorem echk_limit {g : Gm} {ks : List Int} {e : Int} (ho : GOk g) (hl : ks.length > 60) (h : EChk g ks e) : e = 5 := by
  rcases h with ⟨h1, _⟩ | ⟨_, _, h3⟩ | ⟨_, h2, _⟩ | ⟨_, h2, _⟩
  · exact absurd ho h1
  · exact h3
  · omega
  · have := h2.1; omega
theorem echk_arg {g : Gm} {ks : List Int} {e : Int} (ho : GOk g) (hl : ks.length ≤ 60) (hk : ¬ KOk g ks) (h : EChk g ks e) : e = 2 := by
  rcases h with ⟨h1, _⟩ | ⟨_, h2, _⟩ | ⟨_, _, _, h3⟩ | ⟨_, h2, _⟩
  · exact absurd ho h1
  · omega
  · exact h3
  · exact absurd h2 hk
theorem echk_bad {g : Gm} {ks : List Int} {e : Int} (ho : ¬ GOk g) (hl : ¬ Long g) (h : EChk g ks e) : e = 2 := by
  rcases h with ⟨_, h1 | h1 | h1⟩ | ⟨h1, _⟩ | ⟨h1, _⟩ | ⟨h1, _⟩
  · exact absurd h1.1 hl
  · exact absurd h1.2.1 ho
  · exact h1.2.2
  · exact absurd h1 ho
  · exact absurd h1 ho
  · exact absurd h1 ho
def lg (i : Nat) : Int := 1 + (i : Int).tdiv 30
theorem lg_eq (i : Nat) : lg i = 1 + (i : Int) / 30 := by unfold lg; rw [Int.tdiv_eq_ediv_of_nonneg (by omega)]
theorem gi_lg {n i : Nat} (h : i < n) : gi ((List.range n).map lg) i = lg i := by
  rw [gi_nat _ _ (by simpa using h)]; simp
theorem nest_sq : ∀ d i : Nat, i + d = 30 → Sq gNest ((List.range 60).map lg) [4] i (60 - i)
  | 0, i, h => by
    have e : i = 30 := by omega
    subst e
    exact .name (k := 2) (by decide) (by decide) (by decide) (by decide) (.nil 30) (.nil 30)
  | d + 1, i, h => by
    have ih := nest_sq d (i + 1) (by omega)
    refine .name (k := 1) (m := 60 - i) (by decide) (by decide) (by decide) (by decide) ?_ (.nil _)
    refine .term (by decide) (by simp; omega) (by rw [gi_lg (by omega), lg_eq]; omega) ?_
    have h2 : Sq gNest ((List.range 60).map lg) [2] (60 - (i + 1)) (60 - i) := by
      refine .term (by decide) (by simp; omega) (by rw [gi_lg (by omega), lg_eq]; omega) ?_
      rw [show 60 - (i + 1) + 1 = 60 - i by omega]; exact .nil _
    exact ih.append h2
def gNone : Gm := ⟨[], [], [], [], []⟩
theorem gNone_bad : ¬ GOk gNone := fun h => by have := h.sh.np1; simp [gNone] at this
theorem gNone_short : ¬ Long gNone := by
  rintro (h | h | h | ⟨p, hp, h⟩)
  · simp [gNone, Gm.nt] at h
  · simp [gNone, Gm.nn] at h
  · simp [gNone] at h
  · simp [gNone] at hp
theorem gv_none (H : Hp) : GV H (.slice none 0 0) (.slice none 0 0) (.slice none 0 0) (.slice none 0 0) (.slice none 0 0) gNone :=
  ⟨⟨by decide, by decide, by decide, by decide, by decide, by simp [gNone], by simp [gNone], by simp [gNone], by simp [gNone]⟩, Rd.nil H, Rde.nil H 2, Rde.nil H 2, Rd.nil H, [], Rde.nil H 4, rfl, fun i h => by simp at h⟩
theorem bld27e : bldV Try.prog 27 [] = some (.agg #[.slice none 0 0, .slice none 0 0, .slice none 0 0, .slice none 0 0, .slice none 0 0]) := by
  simp [bldV, plc27, hz27, zc27, bld]
theorem ms28 (H : Hp) (K : Value → Hp → Prop) : mkSlK Try.prog 28 (.int .i64 61) (.int .i64 61) H K = K (.slice (some ⟨H.size, 0, none⟩) 61 61) (H.push (row 3 (tb 60 (fun _ => 0)))) := by
  have := tb_rep 60
  unfold mkSlK
  simp [slT28, hz3, zc3, this]
theorem gLoop_fits : gLoop.Fits := by
  refine ⟨by decide, by decide, by decide, by decide, by decide, by decide, ?_, ?_, ?_⟩ <;> (intro y hy; simp [gLoop] at hy; try (subst hy; rfl))
def PhiLoop (S : Nat) : Fact
  | 0, v, _, _, H => FarN H fun H => Rd H v (List.replicate 2 (Value.string ⟨#[]⟩))
  | 1, v, _, _, H => FarN H fun H => Rde H v 2 ((List.replicate 2 ((0 : Int), (0 : Int))).map fun x => [iv x.1, iv x.2])
  | 2, v, _, _, H => FarN H fun H => Rd H v (List.replicate 2 (Value.string ⟨#[]⟩))
  | 3, v, _, _, H => FarN H fun H => RdI H v [3]
  | 4, v, _, _, H => ∃ r k, v = .agg #[.int .i64 0, .slice r 1 k, .int .i64 0, .int .i64 0] ∧ FarN H fun H => RdI H (.slice r 1 k) [3]
  | 5, v, _, _, H => FarN H fun H => RdI H v [3]
  | 6, v, _, _, H => ∃ r k, v = .agg #[.int .i64 1, .slice r 1 k, .int .i64 0, .int .i64 0] ∧ FarN H fun H => RdI H (.slice r 1 k) [3]
  | 7, v, _, _, H => FarN H fun H => RdI H v [1]
  | 8, v, _, _, H => ∃ r k, v = .agg #[.int .i64 1, .slice r 1 k, .int .i64 0, .int .i64 0] ∧ FarN H fun H => RdI H (.slice r 1 k) [1]
  | 9, v, _, _, H => ∃ es, FarN H fun H => Rde H v 4 es ∧ es.length = gLoop.prods.length ∧ ∀ (i : Nat) (h : i < es.length) (k : i < gLoop.prods.length), PrV H es[i] gLoop.prods[i]
  | 10, v, _, _, H => ∃ vt vl vp vn vd, v = .agg #[vt, vl, vp, vn, vd] ∧ FarN H fun H => GV H vt vl vp vn vd gLoop
  | 11, v, _, _, H => ∃ b, S ≤ b ∧ v = .pointer (some ⟨b, 0, none⟩) ∧ H[b]? = some (row 27 [.slice none 0 0, .slice none 0 0, .slice none 0 0, .slice none 0 0, .slice none 0 0])
  | _, _, _, _, _ => True
theorem PhiLoop_st (S : Nat) : ∀ i v lo hi H1 H2, Ext H1 H2 → PhiLoop S i v lo hi H1 → PhiLoop S i v lo hi H2 := by
  intro i v lo hi H1 H2 e hp
  match i, hp with
  | 0, hp => exact FarN.ext e hp
  | 1, hp => exact FarN.ext e hp
  | 2, hp => exact FarN.ext e hp
  | 3, hp => exact FarN.ext e hp
  | 4, hp => obtain ⟨r, k, h1, h2⟩ := hp; exact ⟨r, k, h1, h2.ext e⟩
  | 5, hp => exact FarN.ext e hp
  | 6, hp => obtain ⟨r, k, h1, h2⟩ := hp; exact ⟨r, k, h1, h2.ext e⟩
  | 7, hp => exact FarN.ext e hp
  | 8, hp => obtain ⟨r, k, h1, h2⟩ := hp; exact ⟨r, k, h1, h2.ext e⟩
  | 9, hp => obtain ⟨es, h1⟩ := hp; exact ⟨es, h1.ext e⟩
  | 10, hp => obtain ⟨vt, vl, vp, vn, vd, h1, h2⟩ := hp; exact ⟨vt, vl, vp, vn, vd, h1, h2.ext e⟩
  | 11, hp => obtain ⟨b, h0, h1, h2⟩ := hp; exact ⟨b, h0, h1, e.get h2⟩
  | i + 12, hp => trivial
theorem gTwo_fits : gTwo.Fits := by
  refine ⟨by decide, by decide, by decide, by decide, by decide, by decide, ?_, ?_, ?_⟩ <;> (intro y hy; simp [gTwo] at hy; try (subst hy; rfl))
def PhiTwo (S : Nat) : Fact
  | 0, v, _, _, H => FarN H fun H => Rd H v (List.replicate 2 (Value.string ⟨#[]⟩))
  | 1, v, _, _, H => FarN H fun H => Rde H v 2 ((List.replicate 2 ((0 : Int), (0 : Int))).map fun x => [iv x.1, iv x.2])
  | 2, v, _, _, H => FarN H fun H => Rd H v (List.replicate 3 (Value.string ⟨#[]⟩))
  | 3, v, _, _, H => FarN H fun H => RdI H v [3]
  | 4, v, _, _, H => ∃ r k, v = .agg #[.int .i64 0, .slice r 1 k, .int .i64 0, .int .i64 0] ∧ FarN H fun H => RdI H (.slice r 1 k) [3]
  | 5, v, _, _, H => FarN H fun H => RdI H v [4, 4]
  | 6, v, _, _, H => ∃ r k, v = .agg #[.int .i64 1, .slice r 2 k, .int .i64 0, .int .i64 0] ∧ FarN H fun H => RdI H (.slice r 2 k) [4, 4]
  | 7, v, _, _, H => FarN H fun H => RdI H v [1]
  | 8, v, _, _, H => ∃ r k, v = .agg #[.int .i64 2, .slice r 1 k, .int .i64 0, .int .i64 0] ∧ FarN H fun H => RdI H (.slice r 1 k) [1]
  | 9, v, _, _, H => ∃ r k, v = .agg #[.int .i64 2, .slice r 0 k, .int .i64 0, .int .i64 0] ∧ FarN H fun H => RdI H (.slice r 0 k) []
  | 10, v, _, _, H => ∃ es, FarN H fun H => Rde H v 4 es ∧ es.length = gTwo.prods.length ∧ ∀ (i : Nat) (h : i < es.length) (k : i < gTwo.prods.length), PrV H es[i] gTwo.prods[i]
  | 11, v, _, _, H => ∃ vt vl vp vn vd, v = .agg #[vt, vl, vp, vn, vd] ∧ FarN H fun H => GV H vt vl vp vn vd gTwo
  | 12, v, _, _, H => ∃ b, S ≤ b ∧ v = .pointer (some ⟨b, 0, none⟩) ∧ H[b]? = some (row 27 [.slice none 0 0, .slice none 0 0, .slice none 0 0, .slice none 0 0, .slice none 0 0])
  | _, _, _, _, _ => True
theorem PhiTwo_st (S : Nat) : ∀ i v lo hi H1 H2, Ext H1 H2 → PhiTwo S i v lo hi H1 → PhiTwo S i v lo hi H2 := by
  intro i v lo hi H1 H2 e hp
  match i, hp with
  | 0, hp => exact FarN.ext e hp
  | 1, hp => exact FarN.ext e hp
  | 2, hp => exact FarN.ext e hp
  | 3, hp => exact FarN.ext e hp
  | 4, hp => obtain ⟨r, k, h1, h2⟩ := hp; exact ⟨r, k, h1, h2.ext e⟩
  | 5, hp => exact FarN.ext e hp
  | 6, hp => obtain ⟨r, k, h1, h2⟩ := hp; exact ⟨r, k, h1, h2.ext e⟩
  | 7, hp => exact FarN.ext e hp
  | 8, hp => obtain ⟨r, k, h1, h2⟩ := hp; exact ⟨r, k, h1, h2.ext e⟩
  | 9, hp => obtain ⟨r, k, h1, h2⟩ := hp; exact ⟨r, k, h1, h2.ext e⟩
  | 10, hp => obtain ⟨es, h1⟩ := hp; exact ⟨es, h1.ext e⟩
  | 11, hp => obtain ⟨vt, vl, vp, vn, vd, h1, h2⟩ := hp; exact ⟨vt, vl, vp, vn, vd, h1, h2.ext e⟩
  | 12, hp => obtain ⟨b, h0, h1, h2⟩ := hp; exact ⟨b, h0, h1, e.get h2⟩
  | i + 13, hp => trivial
theorem gNest_fits : gNest.Fits := by
  refine ⟨by decide, by decide, by decide, by decide, by decide, by decide, ?_, ?_, ?_⟩ <;> (intro y hy; simp [gNest] at hy; try (subst hy; rfl))
def PhiNest (S : Nat) : Fact
  | 0, v, _, _, H => FarN H fun H => Rd H v (List.replicate 3 (Value.string ⟨#[]⟩))
  | 1, v, _, _, H => FarN H fun H => Rde H v 2 ((List.replicate 3 ((0 : Int), (0 : Int))).map fun x => [iv x.1, iv x.2])
  | 2, v, _, _, H => FarN H fun H => Rd H v (List.replicate 2 (Value.string ⟨#[]⟩))
  | 3, v, _, _, H => FarN H fun H => RdI H v [4]
  | 4, v, _, _, H => ∃ r k, v = .agg #[.int .i64 0, .slice r 1 k, .int .i64 0, .int .i64 0] ∧ FarN H fun H => RdI H (.slice r 1 k) [4]
  | 5, v, _, _, H => FarN H fun H => RdI H v [1, 4, 2]
  | 6, v, _, _, H => ∃ r k, v = .agg #[.int .i64 1, .slice r 3 k, .int .i64 0, .int .i64 0] ∧ FarN H fun H => RdI H (.slice r 3 k) [1, 4, 2]
  | 7, v, _, _, H => ∃ r k, v = .agg #[.int .i64 1, .slice r 0 k, .int .i64 0, .int .i64 0] ∧ FarN H fun H => RdI H (.slice r 0 k) []
  | 8, v, _, _, H => ∃ es, FarN H fun H => Rde H v 4 es ∧ es.length = gNest.prods.length ∧ ∀ (i : Nat) (h : i < es.length) (k : i < gNest.prods.length), PrV H es[i] gNest.prods[i]
  | 9, v, _, _, H => ∃ vt vl vp vn vd, v = .agg #[vt, vl, vp, vn, vd] ∧ FarN H fun H => GV H vt vl vp vn vd gNest
  | 10, v, _, _, H => ∃ b, S ≤ b ∧ v = .pointer (some ⟨b, 0, none⟩) ∧ H[b]? = some (row 27 [.slice none 0 0, .slice none 0 0, .slice none 0 0, .slice none 0 0, .slice none 0 0])
  | _, _, _, _, _ => True
theorem PhiNest_st (S : Nat) : ∀ i v lo hi H1 H2, Ext H1 H2 → PhiNest S i v lo hi H1 → PhiNest S i v lo hi H2 := by
  intro i v lo hi H1 H2 e hp
  match i, hp with
  | 0, hp => exact FarN.ext e hp
  | 1, hp => exact FarN.ext e hp
  | 2, hp => exact FarN.ext e hp
  | 3, hp => exact FarN.ext e hp
  | 4, hp => obtain ⟨r, k, h1, h2⟩ := hp; exact ⟨r, k, h1, h2.ext e⟩
  | 5, hp => exact FarN.ext e hp
  | 6, hp => obtain ⟨r, k, h1, h2⟩ := hp; exact ⟨r, k, h1, h2.ext e⟩
  | 7, hp => obtain ⟨r, k, h1, h2⟩ := hp; exact ⟨r, k, h1, h2.ext e⟩
  | 8, hp => obtain ⟨es, h1⟩ := hp; exact ⟨es, h1.ext e⟩
  | 9, hp => obtain ⟨vt, vl, vp, vn, vd, h1, h2⟩ := hp; exact ⟨vt, vl, vp, vn, vd, h1, h2.ext e⟩
  | 10, hp => obtain ⟨b, h0, h1, h2⟩ := hp; exact ⟨b, h0, h1, e.get h2⟩
  | i + 11, hp => trivial
def PhiN (cs : List Value) (kv kv' : Value) : Fact
  | 0, v, _, _, _ => v = .agg cs.toArray
  | 1, v, _, _, _ => v = kv
  | 2, v, _, _, _ => v = kv'
  | 3, v, _, _, _ | 4, v, _, _, _ => v = .tuple #[.bool true, .int .i64 0]
  | 5, v, _, _, _ | 7, v, _, _, _ => v = .bool true
  | 6, v, _, _, _ => v = .int .i64 0
  | _, _, _, _, _ => True
set_option maxRecDepth 100000 in
theorem known_spec (H : Hp) : CallsV Try.prog 5 [].toArray H (fun r H' => r = .bool true ∧ Ext H H') := by
  refine calls_W (m := 181) Try.call5 Try.func5 rfl rfl (by decide +kernel) (by simp) ?_
  first | refine W_regK ?_ | refine W_seq (W_regK ?_)
  intro K hK; simp (maxSteps := 1000000) (disch := omega) only [BOps_nil, BOps_cons, Cont_eq, Bev, rd, ev, updO, wantD, argf, optK_some, ↓reduceIte, List.map]
  refine hK _ _ ?_; clear hK K
  have hE0 := Ext.refl H
  refine W_parK 12 100 Ext (PhiLoop H.size) mixed (by decide +kernel) .base ?_ ?_ ?_
  · intro i v lo hi Hx Hy hx hp
    have hx : Ext Hx Hy := by split at hx <;> exact hx
    exact PhiLoop_st _ i v lo hi Hx Hy hx hp
  · simp only [ParSteps, List.take_succ_cons, List.take_zero]
    refine ⟨?_, ?_, ?_, ?_, ?_, ?_, ?_, ?_, ?_, ?_, ?_, ?_, trivial⟩
    · intro f1 Hy hx hout hdep; simp [depsOf, Region.binds, DepFacts] at hdep
      have hx : Ext H Hy := hx
      have hxs := hx.size
      simp (maxSteps := 1000000) (disch := omega) only [wantB, Bev, ev, ↓reduceIte, reduceCtorEq, PhiLoop, ms22_2]
      exact ⟨(Ext.refl _).push _, fun H' hh => rd_rep _ _ _ _ _ (hh _ _ (row_ne (by decide)) (get_new _ _)) rfl⟩
    · intro f1 Hy hx hout hdep; simp [depsOf, Region.binds, DepFacts] at hdep
      have hx : Ext H Hy := hx
      have hxs := hx.size
      simp (maxSteps := 1000000) (disch := omega) only [wantB, Bev, ev, Nat.reduceEqDiff, ↓reduceIte, Nat.zero_add, PhiLoop, ms23_2]
      exact ⟨(Ext.refl _).push _, fun H' hh => rde_at _ _ 42 2 (List.replicate 2 [iv 0, iv 0]) 2 (hh _ _ (row_ne (by decide)) (get_new _ _)) rfl (by simp)⟩
    · intro f1 Hy hx hout hdep; simp [depsOf, Region.binds, DepFacts] at hdep
      have hx : Ext H Hy := hx
      have hxs := hx.size
      simp (maxSteps := 1000000) (disch := omega) only [wantB, Bev, ev, Nat.reduceEqDiff, ↓reduceIte, Nat.reduceAdd, Nat.zero_add, PhiLoop, ms22_2]
      exact ⟨(Ext.refl _).push _, fun H' hh => rd_rep _ _ _ _ _ (hh _ _ (row_ne (by decide)) (get_new _ _)) rfl⟩
    · intro f1 Hy hx hout hdep; simp [depsOf, Region.binds, DepFacts] at hdep
      have hx : Ext H Hy := hx
      have hxs := hx.size
      simp (maxSteps := 1000000) (disch := omega) only [wantB, Bev, ev, Nat.reduceEqDiff, ↓reduceIte, List.map, Nat.reduceAdd, Nat.zero_add, PhiLoop, bslI1]
      exact ⟨(Ext.refl _).push _, fun H' hh => rdI_at _ _ _ _ (hh _ _ (row_ne (by decide)) (get_new _ _)) rfl⟩
    · intro f1 Hy hx hout hdep; simp [depsOf, Region.binds, DepFacts, factAt, dstAt, PhiLoop] at hdep
      have hx : Ext H Hy := hx
      have hxs := hx.size
      have hdep := hdep
      obtain ⟨pr, pk, pe⟩ := hdep.self.opn'
      simp (maxSteps := 1000000) (disch := omega) only [wantB, Bev, ev, Nat.reduceEqDiff, ↓reduceIte, List.map, List.map_toArray, List.append_toArray, List.append_nil, List.nil_append, List.length_cons, List.length_nil, Nat.reduceAdd, Nat.zero_add, PhiLoop, pe]
      rw [pe] at hdep
      refine (p_spec _ _ _ _ _).mono ?_
      rintro r H' ⟨e, rfl⟩
      exact ⟨e, _, _, rfl, hdep.ext e⟩
    · intro f1 Hy hx hout hdep; simp [depsOf, Region.binds, DepFacts] at hdep
      have hx : Ext H Hy := hx
      have hxs := hx.size
      simp (maxSteps := 1000000) (disch := omega) only [wantB, Bev, ev, Nat.reduceEqDiff, ↓reduceIte, List.map, Nat.reduceAdd, Nat.zero_add, PhiLoop, bslI1]
      exact ⟨(Ext.refl _).push _, fun H' hh => rdI_at _ _ _ _ (hh _ _ (row_ne (by decide)) (get_new _ _)) rfl⟩
    · intro f1 Hy hx hout hdep; simp [depsOf, Region.binds, DepFacts, factAt, dstAt, PhiLoop] at hdep
      have hx : Ext H Hy := hx
      have hxs := hx.size
      have hdep := hdep.1
      obtain ⟨pr, pk, pe⟩ := hdep.self.opn'
      simp (maxSteps := 1000000) (disch := omega) only [wantB, Bev, ev, Nat.reduceEqDiff, ↓reduceIte, List.map, List.map_toArray, List.append_toArray, List.append_nil, List.nil_append, List.length_cons, List.length_nil, Nat.reduceAdd, Nat.zero_add, PhiLoop, pe]
      rw [pe] at hdep
      refine (p_spec _ _ _ _ _).mono ?_
      rintro r H' ⟨e, rfl⟩
      exact ⟨e, _, _, rfl, hdep.ext e⟩
    · intro f1 Hy hx hout hdep; simp [depsOf, Region.binds, DepFacts] at hdep
      have hx : Ext H Hy := hx
      have hxs := hx.size
      simp (maxSteps := 1000000) (disch := omega) only [wantB, Bev, ev, Nat.reduceEqDiff, ↓reduceIte, List.map, Nat.reduceAdd, Nat.zero_add, PhiLoop, bslI1]
      exact ⟨(Ext.refl _).push _, fun H' hh => rdI_at _ _ _ _ (hh _ _ (row_ne (by decide)) (get_new _ _)) rfl⟩
    · intro f1 Hy hx hout hdep; simp [depsOf, Region.binds, DepFacts, factAt, dstAt, PhiLoop] at hdep
      have hx : Ext H Hy := hx
      have hxs := hx.size
      have hdep := hdep.1
      obtain ⟨pr, pk, pe⟩ := hdep.self.opn'
      simp (maxSteps := 1000000) (disch := omega) only [wantB, Bev, ev, Nat.reduceEqDiff, ↓reduceIte, List.map, List.map_toArray, List.append_toArray, List.append_nil, List.nil_append, List.length_cons, List.length_nil, Nat.reduceAdd, Nat.zero_add, PhiLoop, pe]
      rw [pe] at hdep
      refine (p_spec _ _ _ _ _).mono ?_
      rintro r H' ⟨e, rfl⟩
      exact ⟨e, _, _, rfl, hdep.ext e⟩
    · intro f1 Hy hx hout hdep; simp [depsOf, Region.binds, DepFacts, factAt, dstAt, PhiLoop] at hdep
      have hx : Ext H Hy := hx
      have hxs := hx.size
      obtain ⟨⟨r0, k0, hc0, hr0⟩, ⟨r1, k1, hc1, hr1⟩, ⟨r2, k2, hc2, hr2⟩⟩ := hdep
      simp (maxSteps := 1000000) (disch := omega) only [wantB, Bev, ev, Nat.reduceEqDiff, ↓reduceIte, List.map, Nat.reduceAdd, Nat.zero_add, PhiLoop, hc0, hc1, hc2, bsl25_3]
      have hE := (Ext.refl Hy).push (row 44 (List.flatten [[.int .i64 0, .slice r0 1 k0, .int .i64 0, .int .i64 0], [.int .i64 1, .slice r1 1 k1, .int .i64 0, .int .i64 0], [.int .i64 1, .slice r2 1 k2, .int .i64 0, .int .i64 0]]))
      refine ⟨hE, _, fun H' hh => ⟨rde_at H' Hy.size 44 4 [[.int .i64 0, .slice r0 1 k0, .int .i64 0, .int .i64 0], [.int .i64 1, .slice r1 1 k1, .int .i64 0, .int .i64 0], [.int .i64 1, .slice r2 1 k2, .int .i64 0, .int .i64 0]] 3 (hh _ _ (row_ne (by decide)) (get_new _ _)) rfl (by simp), rfl, ?_⟩⟩
      intro i h k
      match i, h with
      | 0, _ => exact ⟨_, rfl, (hr0.ext hE) H' hh⟩
      | 1, _ => exact ⟨_, rfl, (hr1.ext hE) H' hh⟩
      | 2, _ => exact ⟨_, rfl, (hr2.ext hE) H' hh⟩
      | i + 3, h => simp at h; omega
    · intro f1 Hy hx hout hdep; simp [depsOf, Region.binds, DepFacts, factAt, dstAt, PhiLoop] at hdep
      have hx : Ext H Hy := hx
      have hxs := hx.size
      obtain ⟨ht, hl, hn, es, hd⟩ := hdep
      obtain ⟨at_, ct, et, -⟩ := ht.self; obtain ⟨al, cl, el⟩ := hl.self.opn'; obtain ⟨an, cn, en, -⟩ := hn.self; obtain ⟨ad, cd, ed⟩ := hd.self.1.opn'
      simp (maxSteps := 1000000) (disch := omega) only [wantB, Bev, ev, optK_some, Nat.reduceEqDiff, ↓reduceIte, List.map, List.length_cons, List.length_nil, Nat.reduceAdd, Nat.zero_add, PhiLoop, et, el, en, ed, bld27]
      rw [et] at ht; rw [el] at hl; rw [en] at hn; rw [ed] at hd
      exact ⟨.refl _, _, _, _, _, _, rfl, fun H' hh => ⟨gLoop_fits, ht H' hh, hl H' hh, Rde.nil _ _, hn H' hh, es, hd H' hh⟩⟩
    · intro f1 Hy hx hout hdep; simp [depsOf, Region.binds, DepFacts] at hdep
      have hx : Ext H Hy := hx
      have hxs := hx.size
      simp (maxSteps := 1000000) (disch := omega) only [wantB, Bev, Nat.reduceEqDiff, ↓reduceIte, Nat.reduceAdd, Nat.zero_add, hz27, zc27, PhiLoop, hz27]
      exact ⟨(Ext.refl _).push _, Hy.size, hx.size, rfl, get_new _ _⟩
  intro K hK f1 G1 lo hi hx hout hf hdis
  have hx : Ext H G1 := hx
  have hfb := (hf 10 (by omega)).1
  have hfa := (hf 11 (by omega)).1
  simp [factAt, dstAt, PhiLoop] at hfb hfa
  obtain ⟨vt, vl, vp, vn, vd, hv, hg⟩ := hfb
  obtain ⟨b1, hbS, ea, hba⟩ := hfa
  have hgx := hg.self
  obtain ⟨q1a, w1a, q1b, w1b, q1c, w1c, q1d, w1d, q1e, w1e, rfl, rfl, rfl, rfl, rfl⟩ := hgx.lens
  have hst : stn G1 ⟨b1, 0, none⟩ [Value.slice q1a gLoop.nt w1a, .slice q1b gLoop.lev.length w1b, .slice q1c gLoop.pats.length w1c, .slice q1d gLoop.nn w1d, .slice q1e gLoop.prods.length w1e] = some (G1.setIfInBounds b1 (row 27 [Value.slice q1a gLoop.nt w1a, .slice q1b gLoop.lev.length w1b, .slice q1c gLoop.pats.length w1c, .slice q1d gLoop.nn w1d, .slice q1e gLoop.prods.length w1e])) := by
    rw [stn_row hba (by simp) rfl]; rfl
  simp only [List.drop_succ_cons, List.drop_zero]
  try simp (maxSteps := 1000000) (disch := omega) only [optH_some, BOps_nil, BOps_cons, Cont_eq, Bev, ev, updO, wantD, optH_some, ↓reduceIte, List.map, List.toList_toArray, Value.cells, List.size_toArray, List.length_cons, List.length_nil, Nat.reduceAdd, Nat.zero_add, st27, hv, ea, hst]
  have ea1 := ea
  have hgn := hg (G1.setIfInBounds b1 (row 27 [Value.slice q1a gLoop.nt w1a, .slice q1b gLoop.lev.length w1b, .slice q1c gLoop.pats.length w1c, .slice q1d gLoop.nn w1d, .slice q1e gLoop.prods.length w1e])) fun b y hy1 hy2 => by
    rw [get_set_ne (fun e => by rw [← e, hba] at hy2; injection hy2 with hy2; exact hy1 _ hy2.symm)]; exact hy2
  have hE' : Ext H (G1.setIfInBounds b1 (row 27 [Value.slice q1a gLoop.nt w1a, .slice q1b gLoop.lev.length w1b, .slice q1c gLoop.pats.length w1c, .slice q1d gLoop.nn w1d, .slice q1e gLoop.prods.length w1e])) := hx.set hbS _
  have hbb1 := get_set (lt_of_get hba) (row 27 [Value.slice q1a gLoop.nt w1a, .slice q1b gLoop.lev.length w1b, .slice q1c gLoop.pats.length w1c, .slice q1d gLoop.nn w1d, .slice q1e gLoop.prods.length w1e])
  clear hx hf hdis hst hgx hg hba hbS
  generalize G1.setIfInBounds b1 (row 27 [Value.slice q1a gLoop.nt w1a, .slice q1b gLoop.lev.length w1b, .slice q1c gLoop.pats.length w1c, .slice q1d gLoop.nn w1d, .slice q1e gLoop.prods.length w1e]) = J1 at *
  have hE1 := hE0.trans hE'
  have hg1 := hgn
  clear hgn hE'
  refine hK _ _ ?_; clear hK K
  refine W_parK 13 100 Ext (PhiTwo J1.size) mixed (by decide +kernel) .base ?_ ?_ ?_
  · intro i v lo hi Hx Hy hx hp
    have hx : Ext Hx Hy := by split at hx <;> exact hx
    exact PhiTwo_st _ i v lo hi Hx Hy hx hp
  · simp only [ParSteps, List.take_succ_cons, List.take_zero]
    refine ⟨?_, ?_, ?_, ?_, ?_, ?_, ?_, ?_, ?_, ?_, ?_, ?_, ?_, trivial⟩
    · intro f1 Hy hx hout hdep; simp [depsOf, Region.binds, DepFacts] at hdep
      have hx : Ext J1 Hy := hx
      have hxs := hx.size
      simp (maxSteps := 1000000) (disch := omega) only [wantB, Bev, ev, ↓reduceIte, reduceCtorEq, PhiTwo, ms22_2]
      exact ⟨(Ext.refl _).push _, fun H' hh => rd_rep _ _ _ _ _ (hh _ _ (row_ne (by decide)) (get_new _ _)) rfl⟩
    · intro f1 Hy hx hout hdep; simp [depsOf, Region.binds, DepFacts] at hdep
      have hx : Ext J1 Hy := hx
      have hxs := hx.size
      simp (maxSteps := 1000000) (disch := omega) only [wantB, Bev, ev, Nat.reduceEqDiff, ↓reduceIte, Nat.zero_add, PhiTwo, ms23_2]
      exact ⟨(Ext.refl _).push _, fun H' hh => rde_at _ _ 42 2 (List.replicate 2 [iv 0, iv 0]) 2 (hh _ _ (row_ne (by decide)) (get_new _ _)) rfl (by simp)⟩
    · intro f1 Hy hx hout hdep; simp [depsOf, Region.binds, DepFacts] at hdep
      have hx : Ext J1 Hy := hx
      have hxs := hx.size
      simp (maxSteps := 1000000) (disch := omega) only [wantB, Bev, ev, Nat.reduceEqDiff, ↓reduceIte, Nat.reduceAdd, Nat.zero_add, PhiTwo, ms22_3]
      exact ⟨(Ext.refl _).push _, fun H' hh => rd_rep _ _ _ _ _ (hh _ _ (row_ne (by decide)) (get_new _ _)) rfl⟩
    · intro f1 Hy hx hout hdep; simp [depsOf, Region.binds, DepFacts] at hdep
      have hx : Ext J1 Hy := hx
      have hxs := hx.size
      simp (maxSteps := 1000000) (disch := omega) only [wantB, Bev, ev, Nat.reduceEqDiff, ↓reduceIte, List.map, Nat.reduceAdd, Nat.zero_add, PhiTwo, bslI1]
      exact ⟨(Ext.refl _).push _, fun H' hh => rdI_at _ _ _ _ (hh _ _ (row_ne (by decide)) (get_new _ _)) rfl⟩
    · intro f1 Hy hx hout hdep; simp [depsOf, Region.binds, DepFacts, factAt, dstAt, PhiTwo] at hdep
      have hx : Ext J1 Hy := hx
      have hxs := hx.size
      have hdep := hdep
      obtain ⟨pr, pk, pe⟩ := hdep.self.opn'
      simp (maxSteps := 1000000) (disch := omega) only [wantB, Bev, ev, Nat.reduceEqDiff, ↓reduceIte, List.map, List.map_toArray, List.append_toArray, List.append_nil, List.nil_append, List.length_cons, List.length_nil, Nat.reduceAdd, Nat.zero_add, PhiTwo, pe]
      rw [pe] at hdep
      refine (p_spec _ _ _ _ _).mono ?_
      rintro r H' ⟨e, rfl⟩
      exact ⟨e, _, _, rfl, hdep.ext e⟩
    · intro f1 Hy hx hout hdep; simp [depsOf, Region.binds, DepFacts] at hdep
      have hx : Ext J1 Hy := hx
      have hxs := hx.size
      simp (maxSteps := 1000000) (disch := omega) only [wantB, Bev, ev, Nat.reduceEqDiff, ↓reduceIte, List.map, Nat.reduceAdd, Nat.zero_add, PhiTwo, bslI2]
      exact ⟨(Ext.refl _).push _, fun H' hh => rdI_at _ _ _ _ (hh _ _ (row_ne (by decide)) (get_new _ _)) rfl⟩
    · intro f1 Hy hx hout hdep; simp [depsOf, Region.binds, DepFacts, factAt, dstAt, PhiTwo] at hdep
      have hx : Ext J1 Hy := hx
      have hxs := hx.size
      have hdep := hdep.1
      obtain ⟨pr, pk, pe⟩ := hdep.self.opn'
      simp (maxSteps := 1000000) (disch := omega) only [wantB, Bev, ev, Nat.reduceEqDiff, ↓reduceIte, List.map, List.map_toArray, List.append_toArray, List.append_nil, List.nil_append, List.length_cons, List.length_nil, Nat.reduceAdd, Nat.zero_add, PhiTwo, pe]
      rw [pe] at hdep
      refine (p_spec _ _ _ _ _).mono ?_
      rintro r H' ⟨e, rfl⟩
      exact ⟨e, _, _, rfl, hdep.ext e⟩
    · intro f1 Hy hx hout hdep; simp [depsOf, Region.binds, DepFacts] at hdep
      have hx : Ext J1 Hy := hx
      have hxs := hx.size
      simp (maxSteps := 1000000) (disch := omega) only [wantB, Bev, ev, Nat.reduceEqDiff, ↓reduceIte, List.map, Nat.reduceAdd, Nat.zero_add, PhiTwo, bslI1]
      exact ⟨(Ext.refl _).push _, fun H' hh => rdI_at _ _ _ _ (hh _ _ (row_ne (by decide)) (get_new _ _)) rfl⟩
    · intro f1 Hy hx hout hdep; simp [depsOf, Region.binds, DepFacts, factAt, dstAt, PhiTwo] at hdep
      have hx : Ext J1 Hy := hx
      have hxs := hx.size
      have hdep := hdep.1
      obtain ⟨pr, pk, pe⟩ := hdep.self.opn'
      simp (maxSteps := 1000000) (disch := omega) only [wantB, Bev, ev, Nat.reduceEqDiff, ↓reduceIte, List.map, List.map_toArray, List.append_toArray, List.append_nil, List.nil_append, List.length_cons, List.length_nil, Nat.reduceAdd, Nat.zero_add, PhiTwo, pe]
      rw [pe] at hdep
      refine (p_spec _ _ _ _ _).mono ?_
      rintro r H' ⟨e, rfl⟩
      exact ⟨e, _, _, rfl, hdep.ext e⟩
    · intro f1 Hy hx hout hdep; simp [depsOf, Region.binds, DepFacts, factAt, dstAt, PhiTwo] at hdep
      have hx : Ext J1 Hy := hx
      have hxs := hx.size
      simp (maxSteps := 1000000) (disch := omega) only [wantB, Bev, ev, Nat.reduceEqDiff, ↓reduceIte, List.map, List.map_toArray, List.append_toArray, List.append_nil, List.nil_append, Nat.reduceAdd, Nat.zero_add, PhiTwo]
      refine (p_spec _ _ _ _ _).mono ?_
      rintro r H' ⟨e, rfl⟩
      exact ⟨e, _, _, rfl, fun H' hh => rdI_nil _⟩
    · intro f1 Hy hx hout hdep; simp [depsOf, Region.binds, DepFacts, factAt, dstAt, PhiTwo] at hdep
      have hx : Ext J1 Hy := hx
      have hxs := hx.size
      obtain ⟨⟨r0, k0, hc0, hr0⟩, ⟨r1, k1, hc1, hr1⟩, ⟨r2, k2, hc2, hr2⟩, ⟨r3, k3, hc3, hr3⟩⟩ := hdep
      simp (maxSteps := 1000000) (disch := omega) only [wantB, Bev, ev, Nat.reduceEqDiff, ↓reduceIte, List.map, Nat.reduceAdd, Nat.zero_add, PhiTwo, hc0, hc1, hc2, hc3, bsl25_4]
      have hE := (Ext.refl Hy).push (row 44 (List.flatten [[.int .i64 0, .slice r0 1 k0, .int .i64 0, .int .i64 0], [.int .i64 1, .slice r1 2 k1, .int .i64 0, .int .i64 0], [.int .i64 2, .slice r2 1 k2, .int .i64 0, .int .i64 0], [.int .i64 2, .slice r3 0 k3, .int .i64 0, .int .i64 0]]))
      refine ⟨hE, _, fun H' hh => ⟨rde_at H' Hy.size 44 4 [[.int .i64 0, .slice r0 1 k0, .int .i64 0, .int .i64 0], [.int .i64 1, .slice r1 2 k1, .int .i64 0, .int .i64 0], [.int .i64 2, .slice r2 1 k2, .int .i64 0, .int .i64 0], [.int .i64 2, .slice r3 0 k3, .int .i64 0, .int .i64 0]] 4 (hh _ _ (row_ne (by decide)) (get_new _ _)) rfl (by simp), rfl, ?_⟩⟩
      intro i h k
      match i, h with
      | 0, _ => exact ⟨_, rfl, (hr0.ext hE) H' hh⟩
      | 1, _ => exact ⟨_, rfl, (hr1.ext hE) H' hh⟩
      | 2, _ => exact ⟨_, rfl, (hr2.ext hE) H' hh⟩
      | 3, _ => exact ⟨_, rfl, (hr3.ext hE) H' hh⟩
      | i + 4, h => simp at h; omega
    · intro f1 Hy hx hout hdep; simp [depsOf, Region.binds, DepFacts, factAt, dstAt, PhiTwo] at hdep
      have hx : Ext J1 Hy := hx
      have hxs := hx.size
      obtain ⟨ht, hl, hn, es, hd⟩ := hdep
      obtain ⟨at_, ct, et, -⟩ := ht.self; obtain ⟨al, cl, el⟩ := hl.self.opn'; obtain ⟨an, cn, en, -⟩ := hn.self; obtain ⟨ad, cd, ed⟩ := hd.self.1.opn'
      simp (maxSteps := 1000000) (disch := omega) only [wantB, Bev, ev, optK_some, Nat.reduceEqDiff, ↓reduceIte, List.map, List.length_cons, List.length_nil, Nat.reduceAdd, Nat.zero_add, PhiTwo, et, el, en, ed, bld27]
      rw [et] at ht; rw [el] at hl; rw [en] at hn; rw [ed] at hd
      exact ⟨.refl _, _, _, _, _, _, rfl, fun H' hh => ⟨gTwo_fits, ht H' hh, hl H' hh, Rde.nil _ _, hn H' hh, es, hd H' hh⟩⟩
    · intro f1 Hy hx hout hdep; simp [depsOf, Region.binds, DepFacts] at hdep
      have hx : Ext J1 Hy := hx
      have hxs := hx.size
      simp (maxSteps := 1000000) (disch := omega) only [wantB, Bev, Nat.reduceEqDiff, ↓reduceIte, Nat.reduceAdd, Nat.zero_add, hz27, zc27, PhiTwo, hz27]
      exact ⟨(Ext.refl _).push _, Hy.size, hx.size, rfl, get_new _ _⟩
  intro K hK f2 G2 lo hi hx hout hf hdis
  have hx : Ext J1 G2 := hx
  have hfb := (hf 11 (by omega)).1
  have hfa := (hf 12 (by omega)).1
  simp [factAt, dstAt, PhiTwo] at hfb hfa
  obtain ⟨vt, vl, vp, vn, vd, hv, hg⟩ := hfb
  obtain ⟨b2, hbS, ea, hba⟩ := hfa
  have hgx := hg.self
  obtain ⟨q2a, w2a, q2b, w2b, q2c, w2c, q2d, w2d, q2e, w2e, rfl, rfl, rfl, rfl, rfl⟩ := hgx.lens
  have hst : stn G2 ⟨b2, 0, none⟩ [Value.slice q2a gTwo.nt w2a, .slice q2b gTwo.lev.length w2b, .slice q2c gTwo.pats.length w2c, .slice q2d gTwo.nn w2d, .slice q2e gTwo.prods.length w2e] = some (G2.setIfInBounds b2 (row 27 [Value.slice q2a gTwo.nt w2a, .slice q2b gTwo.lev.length w2b, .slice q2c gTwo.pats.length w2c, .slice q2d gTwo.nn w2d, .slice q2e gTwo.prods.length w2e])) := by
    rw [stn_row hba (by simp) rfl]; rfl
  simp only [List.drop_succ_cons, List.drop_zero]
  try simp (maxSteps := 1000000) (disch := omega) only [optH_some, BOps_nil, BOps_cons, Cont_eq, Bev, ev, updO, wantD, optH_some, ↓reduceIte, List.map, List.toList_toArray, Value.cells, List.size_toArray, List.length_cons, List.length_nil, Nat.reduceAdd, Nat.zero_add, st27, hv, ea, hst]
  have e1_2 : f2 1 = .pointer (some ⟨b1, 0, none⟩) := by rw [hout 1 (by decide +kernel)]; simp [ea1]
  have ea2 := ea
  have hgn := hg (G2.setIfInBounds b2 (row 27 [Value.slice q2a gTwo.nt w2a, .slice q2b gTwo.lev.length w2b, .slice q2c gTwo.pats.length w2c, .slice q2d gTwo.nn w2d, .slice q2e gTwo.prods.length w2e])) fun b y hy1 hy2 => by
    rw [get_set_ne (fun e => by rw [← e, hba] at hy2; injection hy2 with hy2; exact hy1 _ hy2.symm)]; exact hy2
  have hE' : Ext J1 (G2.setIfInBounds b2 (row 27 [Value.slice q2a gTwo.nt w2a, .slice q2b gTwo.lev.length w2b, .slice q2c gTwo.pats.length w2c, .slice q2d gTwo.nn w2d, .slice q2e gTwo.prods.length w2e])) := hx.set hbS _
  have hbb2 := get_set (lt_of_get hba) (row 27 [Value.slice q2a gTwo.nt w2a, .slice q2b gTwo.lev.length w2b, .slice q2c gTwo.pats.length w2c, .slice q2d gTwo.nn w2d, .slice q2e gTwo.prods.length w2e])
  clear hx hf hdis hst hgx hg hba hbS
  generalize G2.setIfInBounds b2 (row 27 [Value.slice q2a gTwo.nt w2a, .slice q2b gTwo.lev.length w2b, .slice q2c gTwo.pats.length w2c, .slice q2d gTwo.nn w2d, .slice q2e gTwo.prods.length w2e]) = J2 at *
  have hbb1 := hE'.get hbb1
  have hg1 := hg1.ext hE'
  have hE2 := hE1.trans hE'
  have hg2 := hgn
  clear hgn hE'
  refine hK _ _ ?_; clear hK K
  refine W_parK 11 100 Ext (PhiNest J2.size) mixed (by decide +kernel) .base ?_ ?_ ?_
  · intro i v lo hi Hx Hy hx hp
    have hx : Ext Hx Hy := by split at hx <;> exact hx
    exact PhiNest_st _ i v lo hi Hx Hy hx hp
  · simp only [ParSteps, List.take_succ_cons, List.take_zero]
    refine ⟨?_, ?_, ?_, ?_, ?_, ?_, ?_, ?_, ?_, ?_, ?_, trivial⟩
    · intro f1 Hy hx hout hdep; simp [depsOf, Region.binds, DepFacts] at hdep
      have hx : Ext J2 Hy := hx
      have hxs := hx.size
      simp (maxSteps := 1000000) (disch := omega) only [wantB, Bev, ev, ↓reduceIte, reduceCtorEq, PhiNest, ms22_3]
      exact ⟨(Ext.refl _).push _, fun H' hh => rd_rep _ _ _ _ _ (hh _ _ (row_ne (by decide)) (get_new _ _)) rfl⟩
    · intro f1 Hy hx hout hdep; simp [depsOf, Region.binds, DepFacts] at hdep
      have hx : Ext J2 Hy := hx
      have hxs := hx.size
      simp (maxSteps := 1000000) (disch := omega) only [wantB, Bev, ev, Nat.reduceEqDiff, ↓reduceIte, Nat.zero_add, PhiNest, ms23_3]
      exact ⟨(Ext.refl _).push _, fun H' hh => rde_at _ _ 42 2 (List.replicate 3 [iv 0, iv 0]) 3 (hh _ _ (row_ne (by decide)) (get_new _ _)) rfl (by simp)⟩
    · intro f1 Hy hx hout hdep; simp [depsOf, Region.binds, DepFacts] at hdep
      have hx : Ext J2 Hy := hx
      have hxs := hx.size
      simp (maxSteps := 1000000) (disch := omega) only [wantB, Bev, ev, Nat.reduceEqDiff, ↓reduceIte, Nat.reduceAdd, Nat.zero_add, PhiNest, ms22_2]
      exact ⟨(Ext.refl _).push _, fun H' hh => rd_rep _ _ _ _ _ (hh _ _ (row_ne (by decide)) (get_new _ _)) rfl⟩
    · intro f1 Hy hx hout hdep; simp [depsOf, Region.binds, DepFacts] at hdep
      have hx : Ext J2 Hy := hx
      have hxs := hx.size
      simp (maxSteps := 1000000) (disch := omega) only [wantB, Bev, ev, Nat.reduceEqDiff, ↓reduceIte, List.map, Nat.reduceAdd, Nat.zero_add, PhiNest, bslI1]
      exact ⟨(Ext.refl _).push _, fun H' hh => rdI_at _ _ _ _ (hh _ _ (row_ne (by decide)) (get_new _ _)) rfl⟩
    · intro f1 Hy hx hout hdep; simp [depsOf, Region.binds, DepFacts, factAt, dstAt, PhiNest] at hdep
      have hx : Ext J2 Hy := hx
      have hxs := hx.size
      have hdep := hdep
      obtain ⟨pr, pk, pe⟩ := hdep.self.opn'
      simp (maxSteps := 1000000) (disch := omega) only [wantB, Bev, ev, Nat.reduceEqDiff, ↓reduceIte, List.map, List.map_toArray, List.append_toArray, List.append_nil, List.nil_append, List.length_cons, List.length_nil, Nat.reduceAdd, Nat.zero_add, PhiNest, pe]
      rw [pe] at hdep
      refine (p_spec _ _ _ _ _).mono ?_
      rintro r H' ⟨e, rfl⟩
      exact ⟨e, _, _, rfl, hdep.ext e⟩
    · intro f1 Hy hx hout hdep; simp [depsOf, Region.binds, DepFacts] at hdep
      have hx : Ext J2 Hy := hx
      have hxs := hx.size
      simp (maxSteps := 1000000) (disch := omega) only [wantB, Bev, ev, Nat.reduceEqDiff, ↓reduceIte, List.map, Nat.reduceAdd, Nat.zero_add, PhiNest, bslI3]
      exact ⟨(Ext.refl _).push _, fun H' hh => rdI_at _ _ _ _ (hh _ _ (row_ne (by decide)) (get_new _ _)) rfl⟩
    · intro f1 Hy hx hout hdep; simp [depsOf, Region.binds, DepFacts, factAt, dstAt, PhiNest] at hdep
      have hx : Ext J2 Hy := hx
      have hxs := hx.size
      have hdep := hdep.1
      obtain ⟨pr, pk, pe⟩ := hdep.self.opn'
      simp (maxSteps := 1000000) (disch := omega) only [wantB, Bev, ev, Nat.reduceEqDiff, ↓reduceIte, List.map, List.map_toArray, List.append_toArray, List.append_nil, List.nil_append, List.length_cons, List.length_nil, Nat.reduceAdd, Nat.zero_add, PhiNest, pe]
      rw [pe] at hdep
      refine (p_spec _ _ _ _ _).mono ?_
      rintro r H' ⟨e, rfl⟩
      exact ⟨e, _, _, rfl, hdep.ext e⟩
    · intro f1 Hy hx hout hdep; simp [depsOf, Region.binds, DepFacts, factAt, dstAt, PhiNest] at hdep
      have hx : Ext J2 Hy := hx
      have hxs := hx.size
      simp (maxSteps := 1000000) (disch := omega) only [wantB, Bev, ev, Nat.reduceEqDiff, ↓reduceIte, List.map, List.map_toArray, List.append_toArray, List.append_nil, List.nil_append, Nat.reduceAdd, Nat.zero_add, PhiNest]
      refine (p_spec _ _ _ _ _).mono ?_
      rintro r H' ⟨e, rfl⟩
      exact ⟨e, _, _, rfl, fun H' hh => rdI_nil _⟩
    · intro f1 Hy hx hout hdep; simp [depsOf, Region.binds, DepFacts, factAt, dstAt, PhiNest] at hdep
      have hx : Ext J2 Hy := hx
      have hxs := hx.size
      obtain ⟨⟨r0, k0, hc0, hr0⟩, ⟨r1, k1, hc1, hr1⟩, ⟨r2, k2, hc2, hr2⟩⟩ := hdep
      simp (maxSteps := 1000000) (disch := omega) only [wantB, Bev, ev, Nat.reduceEqDiff, ↓reduceIte, List.map, Nat.reduceAdd, Nat.zero_add, PhiNest, hc0, hc1, hc2, bsl25_3]
      have hE := (Ext.refl Hy).push (row 44 (List.flatten [[.int .i64 0, .slice r0 1 k0, .int .i64 0, .int .i64 0], [.int .i64 1, .slice r1 3 k1, .int .i64 0, .int .i64 0], [.int .i64 1, .slice r2 0 k2, .int .i64 0, .int .i64 0]]))
      refine ⟨hE, _, fun H' hh => ⟨rde_at H' Hy.size 44 4 [[.int .i64 0, .slice r0 1 k0, .int .i64 0, .int .i64 0], [.int .i64 1, .slice r1 3 k1, .int .i64 0, .int .i64 0], [.int .i64 1, .slice r2 0 k2, .int .i64 0, .int .i64 0]] 3 (hh _ _ (row_ne (by decide)) (get_new _ _)) rfl (by simp), rfl, ?_⟩⟩
      intro i h k
      match i, h with
      | 0, _ => exact ⟨_, rfl, (hr0.ext hE) H' hh⟩
      | 1, _ => exact ⟨_, rfl, (hr1.ext hE) H' hh⟩
      | 2, _ => exact ⟨_, rfl, (hr2.ext hE) H' hh⟩
      | i + 3, h => simp at h; omega
    · intro f1 Hy hx hout hdep; simp [depsOf, Region.binds, DepFacts, factAt, dstAt, PhiNest] at hdep
      have hx : Ext J2 Hy := hx
      have hxs := hx.size
      obtain ⟨ht, hl, hn, es, hd⟩ := hdep
      obtain ⟨at_, ct, et, -⟩ := ht.self; obtain ⟨al, cl, el⟩ := hl.self.opn'; obtain ⟨an, cn, en, -⟩ := hn.self; obtain ⟨ad, cd, ed⟩ := hd.self.1.opn'
      simp (maxSteps := 1000000) (disch := omega) only [wantB, Bev, ev, optK_some, Nat.reduceEqDiff, ↓reduceIte, List.map, List.length_cons, List.length_nil, Nat.reduceAdd, Nat.zero_add, PhiNest, et, el, en, ed, bld27]
      rw [et] at ht; rw [el] at hl; rw [en] at hn; rw [ed] at hd
      exact ⟨.refl _, _, _, _, _, _, rfl, fun H' hh => ⟨gNest_fits, ht H' hh, hl H' hh, Rde.nil _ _, hn H' hh, es, hd H' hh⟩⟩
    · intro f1 Hy hx hout hdep; simp [depsOf, Region.binds, DepFacts] at hdep
      have hx : Ext J2 Hy := hx
      have hxs := hx.size
      simp (maxSteps := 1000000) (disch := omega) only [wantB, Bev, Nat.reduceEqDiff, ↓reduceIte, Nat.reduceAdd, Nat.zero_add, hz27, zc27, PhiNest, hz27]
      exact ⟨(Ext.refl _).push _, Hy.size, hx.size, rfl, get_new _ _⟩
  intro K hK f3 G3 lo hi hx hout hf hdis
  have hx : Ext J2 G3 := hx
  have hfb := (hf 9 (by omega)).1
  have hfa := (hf 10 (by omega)).1
  simp [factAt, dstAt, PhiNest] at hfb hfa
  obtain ⟨vt, vl, vp, vn, vd, hv, hg⟩ := hfb
  obtain ⟨b3, hbS, ea, hba⟩ := hfa
  have hgx := hg.self
  obtain ⟨q3a, w3a, q3b, w3b, q3c, w3c, q3d, w3d, q3e, w3e, rfl, rfl, rfl, rfl, rfl⟩ := hgx.lens
  have hst : stn G3 ⟨b3, 0, none⟩ [Value.slice q3a gNest.nt w3a, .slice q3b gNest.lev.length w3b, .slice q3c gNest.pats.length w3c, .slice q3d gNest.nn w3d, .slice q3e gNest.prods.length w3e] = some (G3.setIfInBounds b3 (row 27 [Value.slice q3a gNest.nt w3a, .slice q3b gNest.lev.length w3b, .slice q3c gNest.pats.length w3c, .slice q3d gNest.nn w3d, .slice q3e gNest.prods.length w3e])) := by
    rw [stn_row hba (by simp) rfl]; rfl
  simp only [List.drop_succ_cons, List.drop_zero]
  try simp (maxSteps := 1000000) (disch := omega) only [optH_some, BOps_nil, BOps_cons, Cont_eq, Bev, ev, updO, wantD, optH_some, ↓reduceIte, List.map, List.toList_toArray, Value.cells, List.size_toArray, List.length_cons, List.length_nil, Nat.reduceAdd, Nat.zero_add, st27, hv, ea, hst]
  have e1_3 : f3 1 = .pointer (some ⟨b1, 0, none⟩) := by rw [hout 1 (by decide +kernel)]; simp [e1_2]
  have e2_3 : f3 2 = .pointer (some ⟨b2, 0, none⟩) := by rw [hout 2 (by decide +kernel)]; simp [ea2]
  have ea3 := ea
  have hgn := hg (G3.setIfInBounds b3 (row 27 [Value.slice q3a gNest.nt w3a, .slice q3b gNest.lev.length w3b, .slice q3c gNest.pats.length w3c, .slice q3d gNest.nn w3d, .slice q3e gNest.prods.length w3e])) fun b y hy1 hy2 => by
    rw [get_set_ne (fun e => by rw [← e, hba] at hy2; injection hy2 with hy2; exact hy1 _ hy2.symm)]; exact hy2
  have hE' : Ext J2 (G3.setIfInBounds b3 (row 27 [Value.slice q3a gNest.nt w3a, .slice q3b gNest.lev.length w3b, .slice q3c gNest.pats.length w3c, .slice q3d gNest.nn w3d, .slice q3e gNest.prods.length w3e])) := hx.set hbS _
  have hbb3 := get_set (lt_of_get hba) (row 27 [Value.slice q3a gNest.nt w3a, .slice q3b gNest.lev.length w3b, .slice q3c gNest.pats.length w3c, .slice q3d gNest.nn w3d, .slice q3e gNest.prods.length w3e])
  clear hx hf hdis hst hgx hg hba hbS
  generalize G3.setIfInBounds b3 (row 27 [Value.slice q3a gNest.nt w3a, .slice q3b gNest.lev.length w3b, .slice q3c gNest.pats.length w3c, .slice q3d gNest.nn w3d, .slice q3e gNest.prods.length w3e]) = J3 at *
  have hbb1 := hE'.get hbb1
  have hg1 := hg1.ext hE'
  have hbb2 := hE'.get hbb2
  have hg2 := hg2.ext hE'
  have hE3 := hE2.trans hE'
  have hg3 := hgn
  clear hgn hE'
  refine hK _ _ ?_; clear hK K
  have l0 : ldn J3 5 ⟨b1, 0, none⟩ = some [Value.slice q1a gLoop.nt w1a, .slice q1b gLoop.lev.length w1b, .slice q1c gLoop.pats.length w1c, .slice q1d gLoop.nn w1d, .slice q1e gLoop.prods.length w1e] := by rw [ldn_row hbb1]; rfl
  first | refine W_regK ?_ | refine W_seq (W_regK ?_)
  intro K hK; simp (maxSteps := 1000000) (disch := omega) only [BOps_cons, Cont_eq, Bev, rd, ev, updO, upd, wantD, optK_some, Nat.reduceEqDiff, ↓reduceIte, List.map, List.map_toArray, List.append_toArray, List.append_nil, List.nil_append, Option.map_some, ld27, e1_3, l0, bslI1]
  have e' := (Ext.refl J3).push (row 3 [iv 1])
  have hr : RdI (J3.push (row 3 [iv 1])) (.slice (some ⟨J3.size, 0, none⟩) 1 1) [1] := rdI_new J3 [1] 1 rfl
  have hbb1 := e'.get hbb1
  have hg1 := hg1.ext e'
  have hbb2 := e'.get hbb2
  have hg2 := hg2.ext e'
  have hbb3 := e'.get hbb3
  have hg3 := hg3.ext e'
  have hE3 := hE3.trans e'
  clear l0 e'
  generalize J3.push (row 3 [iv 1]) = M1 at *
  refine (tells_spec M1 _ _ _ _ _ _ gLoop [1] hg1 hr _ _ _ tv6).mono ?_
  rintro r M2 ⟨rfl, e'⟩
  clear hr
  have hbb1 := e'.get hbb1
  have hg1 := hg1.ext e'
  have hbb2 := e'.get hbb2
  have hg2 := hg2.ext e'
  have hbb3 := e'.get hbb3
  have hg3 := hg3.ext e'
  have hE3 := hE3.trans e'
  clear e'
  have l0 : ldn M2 5 ⟨b1, 0, none⟩ = some [Value.slice q1a gLoop.nt w1a, .slice q1b gLoop.lev.length w1b, .slice q1c gLoop.pats.length w1c, .slice q1d gLoop.nn w1d, .slice q1e gLoop.prods.length w1e] := by rw [ldn_row hbb1]; rfl
  try simp (maxSteps := 1000000) (disch := omega) only [BOps_cons, Cont_eq, Bev, rd, ev, updO, upd, wantD, List.getElem?_cons_succ, List.getElem?_cons_zero, vtt, optK_some, Nat.reduceEqDiff, ↓reduceIte, List.map, List.map_toArray, List.append_toArray, List.append_nil, List.nil_append, Option.map_some, ld27, e1_3, l0]
  have hr := rdI_nil M2
  refine (tells_spec M2 _ _ _ _ _ _ gLoop [] hg1 hr _ _ _ tv7).mono ?_
  rintro r M3 ⟨rfl, e'⟩
  clear hr
  have hbb1 := e'.get hbb1
  have hg1 := hg1.ext e'
  have hbb2 := e'.get hbb2
  have hg2 := hg2.ext e'
  have hbb3 := e'.get hbb3
  have hg3 := hg3.ext e'
  have hE3 := hE3.trans e'
  clear e'
  have l0 : ldn M3 5 ⟨b2, 0, none⟩ = some [Value.slice q2a gTwo.nt w2a, .slice q2b gTwo.lev.length w2b, .slice q2c gTwo.pats.length w2c, .slice q2d gTwo.nn w2d, .slice q2e gTwo.prods.length w2e] := by rw [ldn_row hbb2]; rfl
  try simp (maxSteps := 1000000) (disch := omega) only [BOps_cons, Cont_eq, Bev, rd, ev, updO, upd, wantD, List.getElem?_cons_succ, List.getElem?_cons_zero, vtt, optK_some, Nat.reduceEqDiff, ↓reduceIte, List.map, List.map_toArray, List.append_toArray, List.append_nil, List.nil_append, Option.map_some, ld27, e2_3, l0]
  have hr := rdI_nil M3
  refine (tells_spec M3 _ _ _ _ _ _ gTwo [] hg2 hr _ _ _ tv8).mono ?_
  rintro r M4 ⟨rfl, e'⟩
  clear hr
  have hbb1 := e'.get hbb1
  have hg1 := hg1.ext e'
  have hbb2 := e'.get hbb2
  have hg2 := hg2.ext e'
  have hbb3 := e'.get hbb3
  have hg3 := hg3.ext e'
  have hE3 := hE3.trans e'
  clear e'
  have l0 : ldn M4 5 ⟨b2, 0, none⟩ = some [Value.slice q2a gTwo.nt w2a, .slice q2b gTwo.lev.length w2b, .slice q2c gTwo.pats.length w2c, .slice q2d gTwo.nn w2d, .slice q2e gTwo.prods.length w2e] := by rw [ldn_row hbb2]; rfl
  try simp (maxSteps := 1000000) (disch := omega) only [BOps_cons, Cont_eq, Bev, rd, ev, updO, upd, wantD, List.getElem?_cons_succ, List.getElem?_cons_zero, vtt, optK_some, Nat.reduceEqDiff, ↓reduceIte, List.map, List.map_toArray, List.append_toArray, List.append_nil, List.nil_append, Option.map_some, ld27, e2_3, l0, bslI1]
  have e' := (Ext.refl M4).push (row 3 [iv 1])
  have hr : RdI (M4.push (row 3 [iv 1])) (.slice (some ⟨M4.size, 0, none⟩) 1 1) [1] := rdI_new M4 [1] 1 rfl
  have hbb1 := e'.get hbb1
  have hg1 := hg1.ext e'
  have hbb2 := e'.get hbb2
  have hg2 := hg2.ext e'
  have hbb3 := e'.get hbb3
  have hg3 := hg3.ext e'
  have hE3 := hE3.trans e'
  clear l0 e'
  generalize M4.push (row 3 [iv 1]) = M5 at *
  refine (tells_spec M5 _ _ _ _ _ _ gTwo [1] hg2 hr _ _ _ tv9).mono ?_
  rintro r M6 ⟨rfl, e'⟩
  clear hr
  have hbb1 := e'.get hbb1
  have hg1 := hg1.ext e'
  have hbb2 := e'.get hbb2
  have hg2 := hg2.ext e'
  have hbb3 := e'.get hbb3
  have hg3 := hg3.ext e'
  have hE3 := hE3.trans e'
  clear e'
  have l0 : ldn M6 5 ⟨b2, 0, none⟩ = some [Value.slice q2a gTwo.nt w2a, .slice q2b gTwo.lev.length w2b, .slice q2c gTwo.pats.length w2c, .slice q2d gTwo.nn w2d, .slice q2e gTwo.prods.length w2e] := by rw [ldn_row hbb2]; rfl
  try simp (maxSteps := 1000000) (disch := omega) only [BOps_cons, Cont_eq, Bev, rd, ev, updO, upd, wantD, List.getElem?_cons_succ, List.getElem?_cons_zero, vtt, optK_some, Nat.reduceEqDiff, ↓reduceIte, List.map, List.map_toArray, List.append_toArray, List.append_nil, List.nil_append, Option.map_some, ld27, e2_3, l0, bslI2]
  have e' := (Ext.refl M6).push (row 3 [iv 1, iv 1])
  have hr : RdI (M6.push (row 3 [iv 1, iv 1])) (.slice (some ⟨M6.size, 0, none⟩) 2 2) [1, 1] := rdI_new M6 [1, 1] 2 rfl
  have hbb1 := e'.get hbb1
  have hg1 := hg1.ext e'
  have hbb2 := e'.get hbb2
  have hg2 := hg2.ext e'
  have hbb3 := e'.get hbb3
  have hg3 := hg3.ext e'
  have hE3 := hE3.trans e'
  clear l0 e'
  generalize M6.push (row 3 [iv 1, iv 1]) = M7 at *
  refine (tells_spec M7 _ _ _ _ _ _ gTwo [1, 1] hg2 hr _ _ _ tv10).mono ?_
  rintro r M8 ⟨rfl, e'⟩
  clear hr
  have hbb1 := e'.get hbb1
  have hg1 := hg1.ext e'
  have hbb2 := e'.get hbb2
  have hg2 := hg2.ext e'
  have hbb3 := e'.get hbb3
  have hg3 := hg3.ext e'
  have hE3 := hE3.trans e'
  clear e'
  have l0 : ldn M8 5 ⟨b2, 0, none⟩ = some [Value.slice q2a gTwo.nt w2a, .slice q2b gTwo.lev.length w2b, .slice q2c gTwo.pats.length w2c, .slice q2d gTwo.nn w2d, .slice q2e gTwo.prods.length w2e] := by rw [ldn_row hbb2]; rfl
  try simp (maxSteps := 1000000) (disch := omega) only [BOps_cons, Cont_eq, Bev, rd, ev, updO, upd, wantD, List.getElem?_cons_succ, List.getElem?_cons_zero, vtt, optK_some, Nat.reduceEqDiff, ↓reduceIte, List.map, List.map_toArray, List.append_toArray, List.append_nil, List.nil_append, Option.map_some, ld27, e2_3, l0, bslI3]
  have e' := (Ext.refl M8).push (row 3 [iv 1, iv 1, iv 1])
  have hr : RdI (M8.push (row 3 [iv 1, iv 1, iv 1])) (.slice (some ⟨M8.size, 0, none⟩) 3 3) [1, 1, 1] := rdI_new M8 [1, 1, 1] 3 rfl
  have hbb1 := e'.get hbb1
  have hg1 := hg1.ext e'
  have hbb2 := e'.get hbb2
  have hg2 := hg2.ext e'
  have hbb3 := e'.get hbb3
  have hg3 := hg3.ext e'
  have hE3 := hE3.trans e'
  clear l0 e'
  generalize M8.push (row 3 [iv 1, iv 1, iv 1]) = M9 at *
  refine (tells_spec M9 _ _ _ _ _ _ gTwo [1, 1, 1] hg2 hr _ _ _ tv11).mono ?_
  rintro r M10 ⟨rfl, e'⟩
  clear hr
  have hbb1 := e'.get hbb1
  have hg1 := hg1.ext e'
  have hbb2 := e'.get hbb2
  have hg2 := hg2.ext e'
  have hbb3 := e'.get hbb3
  have hg3 := hg3.ext e'
  have hE3 := hE3.trans e'
  clear e'
  have l0 : ldn M10 5 ⟨b3, 0, none⟩ = some [Value.slice q3a gNest.nt w3a, .slice q3b gNest.lev.length w3b, .slice q3c gNest.pats.length w3c, .slice q3d gNest.nn w3d, .slice q3e gNest.prods.length w3e] := by rw [ldn_row hbb3]; rfl
  try simp (maxSteps := 1000000) (disch := omega) only [BOps_cons, Cont_eq, Bev, rd, ev, updO, upd, wantD, List.getElem?_cons_succ, List.getElem?_cons_zero, vtt, optK_some, Nat.reduceEqDiff, ↓reduceIte, List.map, List.map_toArray, List.append_toArray, List.append_nil, List.nil_append, Option.map_some, ld27, ea3, l0, bslI4]
  have e' := (Ext.refl M10).push (row 3 [iv 1, iv 1, iv 2, iv 2])
  have hr : RdI (M10.push (row 3 [iv 1, iv 1, iv 2, iv 2])) (.slice (some ⟨M10.size, 0, none⟩) 4 4) [1, 1, 2, 2] := rdI_new M10 [1, 1, 2, 2] 4 rfl
  have hbb1 := e'.get hbb1
  have hg1 := hg1.ext e'
  have hbb2 := e'.get hbb2
  have hg2 := hg2.ext e'
  have hbb3 := e'.get hbb3
  have hg3 := hg3.ext e'
  have hE3 := hE3.trans e'
  clear l0 e'
  generalize M10.push (row 3 [iv 1, iv 1, iv 2, iv 2]) = M11 at *
  refine (tells_spec M11 _ _ _ _ _ _ gNest [1, 1, 2, 2] hg3 hr _ _ _ tv12).mono ?_
  rintro r M12 ⟨rfl, e'⟩
  clear hr
  have hbb1 := e'.get hbb1
  have hg1 := hg1.ext e'
  have hbb2 := e'.get hbb2
  have hg2 := hg2.ext e'
  have hbb3 := e'.get hbb3
  have hg3 := hg3.ext e'
  have hE3 := hE3.trans e'
  clear e'
  have l0 : ldn M12 5 ⟨b3, 0, none⟩ = some [Value.slice q3a gNest.nt w3a, .slice q3b gNest.lev.length w3b, .slice q3c gNest.pats.length w3c, .slice q3d gNest.nn w3d, .slice q3e gNest.prods.length w3e] := by rw [ldn_row hbb3]; rfl
  try simp (maxSteps := 1000000) (disch := omega) only [BOps_cons, Cont_eq, Bev, rd, ev, updO, upd, wantD, List.getElem?_cons_succ, List.getElem?_cons_zero, vtt, optK_some, Nat.reduceEqDiff, ↓reduceIte, List.map, List.map_toArray, List.append_toArray, List.append_nil, List.nil_append, Option.map_some, ld27, ea3, l0, bslI3]
  have e' := (Ext.refl M12).push (row 3 [iv 1, iv 1, iv 2])
  have hr : RdI (M12.push (row 3 [iv 1, iv 1, iv 2])) (.slice (some ⟨M12.size, 0, none⟩) 3 3) [1, 1, 2] := rdI_new M12 [1, 1, 2] 3 rfl
  have hbb1 := e'.get hbb1
  have hg1 := hg1.ext e'
  have hbb2 := e'.get hbb2
  have hg2 := hg2.ext e'
  have hbb3 := e'.get hbb3
  have hg3 := hg3.ext e'
  have hE3 := hE3.trans e'
  clear l0 e'
  generalize M12.push (row 3 [iv 1, iv 1, iv 2]) = M13 at *
  refine (tells_spec M13 _ _ _ _ _ _ gNest [1, 1, 2] hg3 hr _ _ _ tv13).mono ?_
  rintro r M14 ⟨rfl, e'⟩
  clear hr
  have hbb1 := e'.get hbb1
  have hg1 := hg1.ext e'
  have hbb2 := e'.get hbb2
  have hg2 := hg2.ext e'
  have hbb3 := e'.get hbb3
  have hg3 := hg3.ext e'
  have hE3 := hE3.trans e'
  clear e'
  have l0 : ldn M14 5 ⟨b3, 0, none⟩ = some [Value.slice q3a gNest.nt w3a, .slice q3b gNest.lev.length w3b, .slice q3c gNest.pats.length w3c, .slice q3d gNest.nn w3d, .slice q3e gNest.prods.length w3e] := by rw [ldn_row hbb3]; rfl
  try simp (maxSteps := 1000000) (disch := omega) only [BOps_cons, Cont_eq, Bev, rd, ev, updO, upd, wantD, List.getElem?_cons_succ, List.getElem?_cons_zero, vtt, optK_some, Nat.reduceEqDiff, ↓reduceIte, List.map, List.map_toArray, List.append_toArray, List.append_nil, List.nil_append, Option.map_some, ld27, ea3, l0, bslI3]
  have e' := (Ext.refl M14).push (row 3 [iv 1, iv 2, iv 2])
  have hr : RdI (M14.push (row 3 [iv 1, iv 2, iv 2])) (.slice (some ⟨M14.size, 0, none⟩) 3 3) [1, 2, 2] := rdI_new M14 [1, 2, 2] 3 rfl
  have hbb1 := e'.get hbb1
  have hg1 := hg1.ext e'
  have hbb2 := e'.get hbb2
  have hg2 := hg2.ext e'
  have hbb3 := e'.get hbb3
  have hg3 := hg3.ext e'
  have hE3 := hE3.trans e'
  clear l0 e'
  generalize M14.push (row 3 [iv 1, iv 2, iv 2]) = M15 at *
  refine (tells_spec M15 _ _ _ _ _ _ gNest [1, 2, 2] hg3 hr _ _ _ tv14).mono ?_
  rintro r M16 ⟨rfl, e'⟩
  clear hr
  have hbb1 := e'.get hbb1
  have hg1 := hg1.ext e'
  have hbb2 := e'.get hbb2
  have hg2 := hg2.ext e'
  have hbb3 := e'.get hbb3
  have hg3 := hg3.ext e'
  have hE3 := hE3.trans e'
  clear e'
  have l0 : ldn M16 5 ⟨b3, 0, none⟩ = some [Value.slice q3a gNest.nt w3a, .slice q3b gNest.lev.length w3b, .slice q3c gNest.pats.length w3c, .slice q3d gNest.nn w3d, .slice q3e gNest.prods.length w3e] := by rw [ldn_row hbb3]; rfl
  try simp (maxSteps := 1000000) (disch := omega) only [BOps_cons, Cont_eq, Bev, rd, ev, updO, upd, wantD, List.getElem?_cons_succ, List.getElem?_cons_zero, vtt, optK_some, Nat.reduceEqDiff, ↓reduceIte, List.map, List.map_toArray, List.append_toArray, List.append_nil, List.nil_append, Option.map_some, ld27, ea3, l0, bslI1]
  have e' := (Ext.refl M16).push (row 3 [iv 2])
  have hr : RdI (M16.push (row 3 [iv 2])) (.slice (some ⟨M16.size, 0, none⟩) 1 1) [2] := rdI_new M16 [2] 1 rfl
  have hbb1 := e'.get hbb1
  have hg1 := hg1.ext e'
  have hbb2 := e'.get hbb2
  have hg2 := hg2.ext e'
  have hbb3 := e'.get hbb3
  have hg3 := hg3.ext e'
  have hE3 := hE3.trans e'
  clear l0 e'
  generalize M16.push (row 3 [iv 2]) = M17 at *
  refine (tells_spec M17 _ _ _ _ _ _ gNest [2] hg3 hr _ _ _ tv15).mono ?_
  rintro r M18 ⟨rfl, e'⟩
  clear hr
  have hbb1 := e'.get hbb1
  have hg1 := hg1.ext e'
  have hbb2 := e'.get hbb2
  have hg2 := hg2.ext e'
  have hbb3 := e'.get hbb3
  have hg3 := hg3.ext e'
  have hE3 := hE3.trans e'
  clear e'
  try simp (maxSteps := 1000000) (disch := omega) only [BOps_nil, BOps_cons, Cont_eq, Bev, rd, ev, updO, upd, wantD, optK_some, Nat.reduceEqDiff, ↓reduceIte]
  refine hK _ _ ?_; clear hK K
  first | refine W_regK ?_ | refine W_seq (W_regK ?_)
  intro K hK; simp (maxSteps := 1000000) (disch := omega) only [BOps_nil, BOps_cons, Cont_eq, Bev, rd, ev, updO, upd, wantD, optK_some, ↓reduceIte, List.map, ms28]
  have hlb := get_new M18 (row 3 (tb 60 (fun _ => 0)))
  have hEl := (Ext.refl M18).push (row 3 (tb 60 (fun _ => 0)))
  generalize hlk : M18.size = lb at hlb ⊢
  generalize M18.push (row 3 (tb 60 (fun _ => 0))) = L0 at *
  refine hK _ _ ?_; clear hK K
  first | refine W_regK ?_ | refine W_seq (W_regK ?_)
  intro K hK; simp (maxSteps := 1000000) (disch := omega) only [BOps_nil, BOps_cons, Cont_eq, Bev, rd, ev, updO, wantD, optK_some, ↓reduceIte, List.map]
  refine hK _ _ ?_; clear hK K
  first | refine W_seq (W_block (W_loop (fun z f H' => ∃ i : Nat, i ≤ 61 ∧ z = 61 - i ∧ f 3 = .pointer (some ⟨b3, 0, none⟩) ∧ f 4 = .bool true ∧ f 5 = .slice (some ⟨lb, 0, none⟩) 61 61 ∧ f 6 = .int .i64 i ∧ Ext M18 H' ∧ H'[lb]? = some (row 3 (tb 60 (fun j => if j < i then lg j else 0)))) 61 ?_ ?_)) | refine W_block (W_loop (fun z f H' => ∃ i : Nat, i ≤ 61 ∧ z = 61 - i ∧ f 3 = .pointer (some ⟨b3, 0, none⟩) ∧ f 4 = .bool true ∧ f 5 = .slice (some ⟨lb, 0, none⟩) 61 61 ∧ f 6 = .int .i64 i ∧ Ext M18 H' ∧ H'[lb]? = some (row 3 (tb 60 (fun j => if j < i then lg j else 0)))) 61 ?_ ?_)
  · exact ⟨0, by omega, by omega, by simp [upd, ea3], by simp [upd], by simp [upd], by simp [upd], hEl, by simpa using hlb⟩
  clear hEl hlb L0
  rintro z f H1 ⟨i, hi, rfl, g3, g4, g5, g6, hEl, hlb⟩
  first | refine W_regK ?_ | refine W_seq (W_regK ?_)
  intro K hK; simp (maxSteps := 1000000) (disch := omega) only [BOps_nil, BOps_cons, Cont_eq, Bev, rd, rdB, ev, updO, upd, wantD, bin, optK_some, lenV, Nat.reduceEqDiff, ↓reduceIte, List.map, ne_eq, not_true_eq_false, u28, g5, g6]
  refine hK _ _ ?_; clear hK K
  first | refine W_if (t := _) (by simp only [ev]; rfl) ?_ ?_ | refine W_cond (t := _) (by simp only [ev, upd, ↓reduceIte]; rfl) ?_ ?_
  · intro hc
    have hil : i < 61 := by have : (i : Int) < (61 : Nat) := by simpa using hc
                            omega
    refine W_skip ?_; try simp only [thenQ]
    first | refine W_seq (W_block ?_) | refine W_block ?_
    have h30 : ¬ (30 : Int) = 0 := by decide
    have hdv : (i : Int).tdiv 30 = (i : Int) / 30 := Int.tdiv_eq_ediv_of_nonneg (by omega)
    have hb0 : 0 ≤ (i : Int).tdiv 30 ∧ (i : Int).tdiv 30 ≤ 2 := by rw [hdv]; omega
    have hst : stn H1 ⟨lb, i, none⟩ [.int .i64 (1 + (i : Int).tdiv 30)] = some (H1.setIfInBounds lb (row 3 (tb 60 (fun j => if j < i + 1 then lg j else 0)))) := by
      rw [stn_row hlb (by rw [tb_len]; simp; omega) rfl, ow_one (by rw [tb_len]; omega), tb_set]
      congr 3
      refine tb_congr fun j hj => ?_
      by_cases e : j = i
      · subst e; rw [if_pos rfl, if_pos (show j < j + 1 by omega)]; rfl
      · rw [if_neg e]
        by_cases e2 : j < i
        · rw [if_pos e2, if_pos (by omega)]
        · rw [if_neg e2, if_neg (by omega)]
    refine W_reg ?_; simp (maxSteps := 1000000) (disch := omega) only [optH_some, BOps_nil, BOps_cons, Cont_eq, Bev, rd, ev, updO, upd, wantD, bin, optK_some, optH_some, Nat.reduceEqDiff, ↓reduceIte, List.map, List.toList_toArray, ne_eq, not_true_eq_false, inI_pos, wrapi, Value.cells, List.size_toArray, List.length_cons, List.length_nil, Nat.zero_add, Int.reduceNeg, st3, ixk28, g5, g6, if_neg h30, Int.toNat_natCast, Nat.mul_one, hst]
    simp only [thenQ, blockQ]
    refine W_reg ?_; simp (maxSteps := 1000000) (disch := omega) only [BOps_nil, BOps_cons, Cont_eq, Bev, rd, ev, updO, upd, wantD, bin, optK_some, Nat.reduceEqDiff, ↓reduceIte, List.map, ne_eq, not_true_eq_false, wrapi, Int.reduceNeg, g6]
    simp only [thenQ]
    exact ⟨61 - (i + 1), by omega, i + 1, by omega, rfl, by simp [upd, g3], by simp [upd, g4], by simp [upd, g5], by simp [upd], hEl.set (by omega) _, get_set (lt_of_get hlb) _⟩
  intro hc
  have hge : i = 61 := by have : ¬ (i : Int) < (61 : Nat) := by simpa using hc
                          omega
  subst hge
  refine W_exit ?_; simp only [thenQ, blockQ, ↓reduceIte]
  have hlr : RdI H1 (.slice (some ⟨lb, 0, none⟩) 61 61) ((List.range 61).map lg) := by
    refine rdI_at H1 lb _ 61 ?_ (by simp)
    rw [hlb]; congr 2
  have hbb3 := hEl.get hbb3
  have hg3 := hg3.ext hEl
  have hE3 := hE3.trans hEl
  have okN : GOk gNest := tv12.ok
  have l0 : ldn H1 5 ⟨b3, 0, none⟩ = some [Value.slice q3a gNest.nt w3a, .slice q3b gNest.lev.length w3b, .slice q3c gNest.pats.length w3c, .slice q3d gNest.nn w3d, .slice q3e gNest.prods.length w3e] := by rw [ldn_row hbb3]; rfl
  first | refine W_regK ?_ | refine W_seq (W_regK ?_)
  intro K hK; simp (maxSteps := 1000000) (disch := omega) only [BOps_cons, Cont_eq, Bev, rd, ev, updO, upd, wantD, optK_some, Nat.reduceEqDiff, ↓reduceIte, List.map, List.map_toArray, List.append_toArray, List.append_nil, List.nil_append, Option.map_some, ld27, g3, g5, l0]
  refine (derives_spec H1 _ _ _ _ _ _ gNest _ hg3 hlr (by simp)).mono ?_
  rintro r H2 ⟨e', x1, y1, rfl, hC1, -, -⟩
  obtain rfl := echk_limit okN (by simp) hC1
  have hbb3 := e'.get hbb3
  have hg3 := hg3.ext e'
  have hE3 := hE3.trans e'
  have hlr := RdI.ext e' hlr
  clear e' hC1
  try simp (maxSteps := 1000000) (disch := omega) only [List.getElem?_toArray, BOps_nil, BOps_cons, Cont_eq, Bev, rd, ev, updO, upd, wantD, List.getElem?_cons_succ, List.getElem?_cons_zero, optK_some, Nat.reduceEqDiff, ↓reduceIte]
  refine hK _ _ ?_; clear hK K
  have hlr6 := rdI_take hlr (k := 60) (by simp)
  have hks6 : ((List.range 61).map lg).take 60 = (List.range 60).map lg := by rw [← List.map_take, List.take_range]; rfl
  rw [hks6] at hlr6
  have kok6 : KOk gNest ((List.range 60).map lg) := by
    refine ⟨by simp, fun k hk => ?_⟩
    obtain ⟨j, hj, rfl⟩ := List.mem_map.1 hk
    have := List.mem_range.1 hj
    have e : (gNest.nt : Int) = 3 := rfl
    rw [lg_eq, e]; omega
  have der6 : derB gNest ((List.range 60).map lg) = true := by
    rw [derB_iff, cht_derives okN kok6.2]
    have := nest_sq 30 0 rfl
    simp only [List.length_map, List.length_range]
    exact this
  refine W_parK 8 100 Ext (PhiN [Value.slice q3a gNest.nt w3a, .slice q3b gNest.lev.length w3b, .slice q3c gNest.pats.length w3c, .slice q3d gNest.nn w3d, .slice q3e gNest.prods.length w3e] (.slice (some ⟨lb, 0, none⟩) 61 61) (.slice (some ⟨lb, 0, none⟩) 60 61)) mixed (by decide +kernel) .base ?_ ?_ ?_
  · intro i v lo hi Hx Hy hx hp
    match i, hp with
    | 0, hp | 1, hp | 2, hp | 3, hp | 4, hp | 5, hp | 6, hp | 7, hp => exact hp
    | i + 8, hp => trivial
  · simp only [ParSteps, List.take_succ_cons, List.take_zero]
    refine ⟨?_, ?_, ?_, ?_, ?_, ?_, ?_, ?_, trivial⟩
    · intro f1 Hy hx hout hdep; simp [depsOf, Region.binds, DepFacts] at hdep
      have hx : Ext H2 Hy := hx
      have q3 : f1 3 = .pointer (some ⟨b3, 0, none⟩) := by rw [hout 3 (by decide +kernel)]; simp [upd, g3]
      have l0 : ldn Hy 5 ⟨b3, 0, none⟩ = some [Value.slice q3a gNest.nt w3a, .slice q3b gNest.lev.length w3b, .slice q3c gNest.pats.length w3c, .slice q3d gNest.nn w3d, .slice q3e gNest.prods.length w3e] := by rw [ldn_row (hx.get hbb3)]; rfl
      simp (maxSteps := 1000000) (disch := omega) only [wantB, Bev, rd, ev, optK_some, ↓reduceIte, reduceCtorEq, and_true, Option.map_some, ld27, q3, PhiN, l0]
      exact .refl _
    · intro f1 Hy hx hout hdep; simp [depsOf, Region.binds, DepFacts] at hdep
      have q5 : f1 5 = .slice (some ⟨lb, 0, none⟩) 61 61 := by rw [hout 5 (by decide +kernel)]; simp [upd, g5]
      simp (maxSteps := 1000000) (disch := omega) only [wantB, Bev, rd, ev, optK_some, Nat.reduceEqDiff, ↓reduceIte, and_true, Nat.zero_add, q5, PhiN]
      exact .refl _
    · intro f1 Hy hx hout hdep; simp [depsOf, Region.binds, DepFacts, factAt, dstAt, PhiN] at hdep
      have hs : slc Try.prog 28 (.slice (some ⟨lb, 0, none⟩) 61 61) none (some (.int .i64 60)) none = some (.slice (some ⟨lb, 0, none⟩) 60 61) := slc_hi u28 ixk28 (some ⟨lb, 0, none⟩) 61 61 60 (by omega)
      simp (maxSteps := 1000000) (disch := omega) only [wantB, Bev, ev, optK_some, Nat.reduceEqDiff, ↓reduceIte, and_true, Option.map_some, Option.map_none, Nat.reduceAdd, Nat.zero_add, hdep, PhiN, hs]
      exact .refl _
    · intro f1 Hy hx hout hdep; simp [depsOf, Region.binds, DepFacts, factAt, dstAt, PhiN] at hdep
      have hx : Ext H2 Hy := hx
      simp (maxSteps := 1000000) (disch := omega) only [wantB, Bev, ev, Nat.reduceEqDiff, ↓reduceIte, List.map, List.map_toArray, List.append_toArray, List.append_nil, List.nil_append, Nat.reduceAdd, Nat.zero_add, hdep.1, hdep.2, PhiN]
      refine (derives_ok (hg3.ext hx) (RdI.ext hx hlr6) okN kok6).mono ?_
      rintro r H' ⟨h1, h2⟩
      rw [der6] at h2
      exact ⟨h1, h2⟩
    · intro f1 Hy hx hout hdep; simp [depsOf, Region.binds, DepFacts, factAt, dstAt, PhiN] at hdep
      simp (maxSteps := 1000000) (disch := omega) only [wantB, Bev, rd, ev, optK_some, Nat.reduceEqDiff, ↓reduceIte, and_true, Nat.reduceAdd, Nat.zero_add, hdep, PhiN]
      exact .refl _
    · intro f1 Hy hx hout hdep; simp [depsOf, Region.binds, DepFacts, factAt, dstAt, PhiN] at hdep
      simp (maxSteps := 1000000) (disch := omega) only [wantB, List.getElem?_toArray, Bev, rd, ev, List.getElem?_cons_zero, optK_some, Nat.reduceEqDiff, ↓reduceIte, and_true, Nat.reduceAdd, Nat.zero_add, hdep, PhiN]
      exact .refl _
    · intro f1 Hy hx hout hdep; simp [depsOf, Region.binds, DepFacts, factAt, dstAt, PhiN] at hdep
      simp (maxSteps := 1000000) (disch := omega) only [wantB, List.getElem?_toArray, Bev, rd, ev, List.getElem?_cons_succ, List.getElem?_cons_zero, optK_some, Nat.reduceEqDiff, ↓reduceIte, and_true, Nat.reduceAdd, Nat.zero_add, hdep, PhiN]
      exact .refl _
    · intro f1 Hy hx hout hdep; simp [depsOf, Region.binds, DepFacts, factAt, dstAt, PhiN] at hdep
      simp (maxSteps := 1000000) (disch := omega) only [wantB, Bev, rd, ev, optK_some, Nat.reduceEqDiff, ↓reduceIte, and_true, Nat.reduceAdd, Nat.zero_add, hdep, PhiN]
      exact .refl _
  intro K hK fz H3 lo hi hxx hout hff hdis
  have hf6 := (hff 6 (by omega)).1
  have hf7 := (hff 7 (by omega)).1
  simp [factAt, dstAt, PhiN] at hf6 hf7
  have hxx : Ext H2 H3 := hxx
  have q3 : fz 3 = .pointer (some ⟨b3, 0, none⟩) := by rw [hout 3 (by decide +kernel)]; simp [upd, g3]
  have q4 : fz 4 = .bool true := by rw [hout 4 (by decide +kernel)]; simp [upd, g4]
  have q5 : fz 5 = .slice (some ⟨lb, 0, none⟩) 61 61 := by rw [hout 5 (by decide +kernel)]; simp [upd, g5]
  have q8 : fz 8 = .int .i64 5 := by rw [hout 8 (by decide +kernel)]; simp [upd]
  simp only [List.drop_succ_cons, List.drop_zero]
  try simp (maxSteps := 1000000) (disch := omega) only [BOps_nil, BOps_cons, Cont_eq, Bev, rd, ev, updO, wantD, optK_some, ↓reduceIte, List.map, hf6]
  refine hK _ _ ?_; clear hK K
  have hbb3 := hxx.get hbb3
  have hg3 := hg3.ext hxx
  have hE3 := hE3.trans hxx
  have hlr := RdI.ext hxx hlr
  have l0 : ldn H3 5 ⟨b3, 0, none⟩ = some [Value.slice q3a gNest.nt w3a, .slice q3b gNest.lev.length w3b, .slice q3c gNest.pats.length w3c, .slice q3d gNest.nn w3d, .slice q3e gNest.prods.length w3e] := by rw [ldn_row hbb3]; rfl
  first | refine W_regK ?_ | refine W_seq (W_regK ?_)
  intro K hK; simp (maxSteps := 1000000) (disch := omega) only [BOps_cons, Cont_eq, Bev, rd, ev, updO, upd, wantD, optK_some, Nat.reduceEqDiff, ↓reduceIte, List.map, List.map_toArray, List.append_toArray, List.append_nil, List.nil_append, Option.map_some, ld27, q3, l0, bslI1]
  have e' := (Ext.refl H3).push (row 3 [iv (0)])
  have hr : RdI (H3.push (row 3 [iv (0)])) (.slice (some ⟨H3.size, 0, none⟩) 1 1) [(0)] := rdI_new H3 [(0)] 1 rfl
  have hbb3 := e'.get hbb3
  have hg3 := hg3.ext e'
  have hE3 := hE3.trans e'
  have hlr := RdI.ext e' hlr
  clear l0 e'
  generalize H3.push (row 3 [iv (0)]) = H4 at *
  refine (viable_spec H4 _ _ _ _ _ _ gNest _ hg3 hr (by simp)).mono ?_
  rintro r H5 ⟨e', x, y, rfl, hC, -, -⟩
  obtain rfl := echk_arg okN (by simp) (fun h => by have := h.2 (0) (by simp); have e : (gNest.nt : Int) = 3 := rfl; omega) hC
  have hbb3 := e'.get hbb3
  have hg3 := hg3.ext e'
  have hE3 := hE3.trans e'
  have hlr := RdI.ext e' hlr
  clear e' hC hr
  try simp (maxSteps := 1000000) (disch := omega) only [List.getElem?_toArray, BOps_nil, BOps_cons, Cont_eq, Bev, rd, ev, updO, upd, wantD, List.getElem?_cons_succ, List.getElem?_cons_zero, optK_some, Nat.reduceEqDiff, ↓reduceIte]
  refine hK _ _ ?_; clear hK K
  have l0 : ldn H5 5 ⟨b3, 0, none⟩ = some [Value.slice q3a gNest.nt w3a, .slice q3b gNest.lev.length w3b, .slice q3c gNest.pats.length w3c, .slice q3d gNest.nn w3d, .slice q3e gNest.prods.length w3e] := by rw [ldn_row hbb3]; rfl
  first | refine W_regK ?_ | refine W_seq (W_regK ?_)
  intro K hK; simp (maxSteps := 1000000) (disch := omega) only [BOps_cons, Cont_eq, Bev, rd, ev, updO, upd, wantD, optK_some, Nat.reduceEqDiff, ↓reduceIte, List.map, List.map_toArray, List.append_toArray, List.append_nil, List.nil_append, Option.map_some, ld27, q3, l0, bslI1]
  have e' := (Ext.refl H5).push (row 3 [iv (3)])
  have hr : RdI (H5.push (row 3 [iv (3)])) (.slice (some ⟨H5.size, 0, none⟩) 1 1) [(3)] := rdI_new H5 [(3)] 1 rfl
  have hbb3 := e'.get hbb3
  have hg3 := hg3.ext e'
  have hE3 := hE3.trans e'
  have hlr := RdI.ext e' hlr
  clear l0 e'
  generalize H5.push (row 3 [iv (3)]) = H6 at *
  refine (counts_spec H6 _ _ _ _ _ _ gNest _ hg3 hr (by simp)).mono ?_
  rintro r H7 ⟨e', x, y, rfl, hC, -, -⟩
  obtain rfl := echk_arg okN (by simp) (fun h => by have := h.2 (3) (by simp); have e : (gNest.nt : Int) = 3 := rfl; omega) hC
  have hbb3 := e'.get hbb3
  have hg3 := hg3.ext e'
  have hE3 := hE3.trans e'
  have hlr := RdI.ext e' hlr
  clear e' hC hr
  try simp (maxSteps := 1000000) (disch := omega) only [List.getElem?_toArray, BOps_nil, BOps_cons, Cont_eq, Bev, rd, ev, updO, upd, wantD, List.getElem?_cons_succ, List.getElem?_cons_zero, optK_some, Nat.reduceEqDiff, ↓reduceIte]
  refine hK _ _ ?_; clear hK K
  have l0 : ldn H7 5 ⟨b3, 0, none⟩ = some [Value.slice q3a gNest.nt w3a, .slice q3b gNest.lev.length w3b, .slice q3c gNest.pats.length w3c, .slice q3d gNest.nn w3d, .slice q3e gNest.prods.length w3e] := by rw [ldn_row hbb3]; rfl
  first | refine W_regK ?_ | refine W_seq (W_regK ?_)
  intro K hK; simp (maxSteps := 1000000) (disch := omega) only [BOps_cons, Cont_eq, Bev, rd, ev, updO, upd, wantD, optK_some, Nat.reduceEqDiff, ↓reduceIte, List.map, List.map_toArray, List.append_toArray, List.append_nil, List.nil_append, Option.map_some, Int.reduceNeg, ld27, q3, l0, bslI1]
  have e' := (Ext.refl H7).push (row 3 [iv (-1)])
  have hr : RdI (H7.push (row 3 [iv (-1)])) (.slice (some ⟨H7.size, 0, none⟩) 1 1) [(-1)] := rdI_new H7 [(-1)] 1 rfl
  have hbb3 := e'.get hbb3
  have hg3 := hg3.ext e'
  have hE3 := hE3.trans e'
  have hlr := RdI.ext e' hlr
  clear l0 e'
  generalize H7.push (row 3 [iv (-1)]) = H8 at *
  refine (derives_spec H8 _ _ _ _ _ _ gNest _ hg3 hr (by simp)).mono ?_
  rintro r H9 ⟨e', x, y, rfl, hC, -, -⟩
  obtain rfl := echk_arg okN (by simp) (fun h => by have := h.2 (-1) (by simp); have e : (gNest.nt : Int) = 3 := rfl; omega) hC
  have hbb3 := e'.get hbb3
  have hg3 := hg3.ext e'
  have hE3 := hE3.trans e'
  have hlr := RdI.ext e' hlr
  clear e' hC hr
  try simp (maxSteps := 1000000) (disch := omega) only [List.getElem?_toArray, BOps_nil, BOps_cons, Cont_eq, Bev, rd, ev, updO, upd, wantD, List.getElem?_cons_succ, List.getElem?_cons_zero, optK_some, Nat.reduceEqDiff, ↓reduceIte]
  refine hK _ _ ?_; clear hK K
  first | refine W_regK ?_ | refine W_seq (W_regK ?_)
  intro K hK; simp (maxSteps := 1000000) (disch := omega) only [BOps_cons, Cont_eq, Bev, rd, ev, updO, upd, wantD, optK_some, Nat.reduceEqDiff, ↓reduceIte, List.map, List.map_toArray, List.append_toArray, List.append_nil, List.nil_append, q5, bld27e]
  refine (derives_spec H9 _ _ _ _ _ _ gNone _ (gv_none _) hlr (by simp)).mono ?_
  rintro r H20 ⟨e', x, y, rfl, hC, -, -⟩
  obtain rfl := echk_bad gNone_bad gNone_short hC
  have hbb3 := e'.get hbb3
  have hg3 := hg3.ext e'
  have hE3 := hE3.trans e'
  clear e' hC
  try simp (maxSteps := 1000000) (disch := omega) only [List.getElem?_toArray, BOps_nil, BOps_cons, Cont_eq, Bev, rd, ev, updO, upd, wantD, List.getElem?_cons_succ, List.getElem?_cons_zero, optK_some, Nat.reduceEqDiff, ↓reduceIte]
  refine hK _ _ ?_; clear hK K
  first | refine W_regK ?_ | refine W_seq (W_regK ?_)
  intro K hK; simp (maxSteps := 1000000) (disch := omega) only [BOps_cons, Cont_eq, Bev, rd, ev, updO, upd, wantD, List.getElem?_cons_zero, vtt, optK_some, ↓reduceIte, List.map, List.map_toArray, List.append_toArray, List.append_nil]
  refine (works_spec H20).mono ?_
  rintro r H21 ⟨rfl, e'⟩
  have hbb3 := e'.get hbb3
  have hg3 := hg3.ext e'
  have hE3 := hE3.trans e'
  try simp (maxSteps := 1000000) (disch := omega) only [BOps_nil, BOps_cons, Cont_eq, Bev, rd, ev, updO, upd, wantD, List.getElem?_cons_succ, List.getElem?_cons_zero, bin, optK_some, Nat.reduceEqDiff, ↓reduceIte, ne_eq, not_true_eq_false, q4, q8, hf7, beq_self_eq_true]
  refine hK _ _ ?_; clear hK K
  refine W_ret ?_; simp only [retQ, Try.results5, resV1, Option.some.injEq, exists_eq_left', upd, ↓reduceIte, List.toList_toArray, true_and]
  exact hE3
end Go.Proofs.Yteheedbhmggcgaa
