import Derived.Test.YteheedbhmggcgaaE5
namespace Go.Proofs.Yteheedbhmggcgaa
open Go Go.Vy Go.Proofs
set_option linter.unusedSimpArgs false
set_option linter.unusedVariables false
structure GOk (g : Gm) : Prop where
  sh : Shape g
  lv : g.lev.length = g.nt
  lb : ∀ x ∈ g.lev, mayBindB x.1 x.2 = true
  zero : ∀ i : Int, 0 ≤ i → i < g.prods.length → ((gp g i).left = 0 ↔ i = 0)
  pb : ∀ p ∈ g.prods, mayBindB p.ln p.lk = true
  one : (gp g 0).rhs.length = 1
  name : gi (gp g 0).rhs 0 ≥ g.nt
  use : ∀ A : Int, 0 ≤ A → A < g.nn → Useful g A
def Chk (g : Gm) (e : Int) : Prop := (Long g ∧ e = 5) ∨ (¬ Long g ∧ GOk g ∧ e = 0) ∨ (¬ Long g ∧ ¬ GOk g ∧ e = 2)
theorem Chk.bad {g : Gm} (h : ¬ Long g) (h2 : GOk g → False) : Chk g 2 := .inr (.inr ⟨h, h2, rfl⟩)
theorem GOk.short {g : Gm} (h : GOk g) : ¬ Long g := by
  have := h.sh.nt; have := h.sh.nn; have := h.sh.np
  rintro (h1 | h1 | h1 | ⟨p, hp, h1⟩)
  · omega
  · omega
  · omega
  · have := h.sh.rl p hp; omega
def PhiK (cs : List Value) (nn B : Nat) : Fact
  | 0, v, _, _, _ => v = .agg cs.toArray
  | 1, v, _, _, _ => v = .int .i64 nn
  | 2, v, _, _, H => ∃ ub, B ≤ ub ∧ v = .slice (some ⟨ub, 0, none⟩) nn nn ∧ H[ub]? = some (row 4 (List.replicate nn (.bool false)))
  | 3, v, _, _, H => ∃ ub, B ≤ ub ∧ v = .agg (cs ++ [Value.slice (some ⟨ub, 0, none⟩) nn nn, .slice none 0 0, .slice none 0 0]).toArray ∧ H[ub]? = some (row 4 (List.replicate nn (.bool false)))
  | 4, v, _, _, H => ∃ k, B ≤ k ∧ v = .pointer (some ⟨k, 0, none⟩) ∧ ∃ zs, zs.length = 8 ∧ H[k]? = some (row 55 zs)
  | _, _, _, _, _ => True
theorem bld55 (a b c d e : Value) (p : Option Addr) (n m : Nat) : bldV Try.prog 55 [(0, .agg #[a, b, c, d, e]), (1, .slice p n m)] = some (.agg #[a, b, c, d, e, .slice p n m, .slice none 0 0, .slice none 0 0]) := by
  simp [bldV, plc55, hz55, zc55, bld, ow, Value.cells]
set_option maxRecDepth 100000 in
theorem check_spec (H : Hp) (vt vl vp vn vd : Value) (g : Gm) (hg : GV H vt vl vp vn vd g) :
    CallsV Try.prog 7 [.agg #[vt, vl, vp, vn, vd]].toArray H (fun r H' => Ext H H' ∧ ∃ e : Int, r = .int .i64 e ∧ Chk g e) := by
  obtain ⟨at_, ct, al, cl, ap, cp, an, cn, ad, cd, rfl, rfl, rfl, rfl, rfl⟩ := hg.lens
  refine calls_W (m := 119) Try.call7 Try.func7 rfl rfl (by decide +kernel) (by simp) ?_
  first | refine W_regK ?_ | refine W_seq (W_regK ?_)
  intro K hK; simp (maxSteps := 1000000) (disch := omega) only [BOps_nil, BOps_cons, Cont_eq, Bev, rd, ev, updO, wantD, argf, optK_some, ↓reduceIte, List.map, List.toList_toArray, Value.cells]
  generalize hcs : [Value.slice at_ g.nt ct, Value.slice al g.lev.length cl, Value.slice ap g.pats.length cp, Value.slice an g.nn cn, Value.slice ad g.prods.length cd] = cs
  have hE := (Ext.refl H).push (row 27 cs)
  have hb := get_new H (row 27 cs)
  have hg1 := hg.ext hE
  generalize hk0 : H.size = k0 at *
  generalize H.push _ = H1 at *
  refine hK _ _ ?_; clear hK K
  have l0 : ldn H1 5 ⟨k0, 0, none⟩ = some cs := by rw [ldn_row hb, ← hcs]; rfl
  first | refine W_regK ?_ | refine W_seq (W_regK ?_)
  intro K hK; simp (maxSteps := 1000000) (disch := omega) only [BOps_cons, Cont_eq, Bev, rd, ev, updO, upd, wantD, optK_some, Nat.reduceEqDiff, ↓reduceIte, List.map, List.map_toArray, List.append_toArray, List.append_nil, List.nil_append, Option.map_some, ld27, l0]
  rw [← hcs]
  refine (limits_spec H1 _ _ _ _ _ g hg1).mono ?_; rintro r H2 ⟨hE2, b, rfl, hL⟩
  simp (maxSteps := 1000000) (disch := omega) only [BOps_nil, Cont_eq, updO]
  refine hK _ _ ?_; clear hK K
  first | refine W_if (t := _) (by simp only [ev]; rfl) ?_ ?_ | refine W_cond (t := _) (by simp only [ev, upd, ↓reduceIte]; rfl) ?_ ?_
  · intro hbt
    first | refine W_regK ?_ | refine W_seq (W_regK ?_)
    intro K hK; simp (maxSteps := 1000000) (disch := omega) only [BOps_nil, BOps_cons, Cont_eq, Bev, rd, ev, updO, wantD, optK_some, ↓reduceIte, List.map]
    refine hK _ _ ?_; clear hK K
    refine W_ret ?_; simp only [thenQ, retQ, Try.results7, resV1, Option.some.injEq, exists_eq_left', upd, ↓reduceIte, List.toList_toArray]
    exact ⟨hE.trans hE2, 5, rfl, .inl ⟨hL.1 hbt, rfl⟩⟩
  intro hbf
  have hnl : ¬ Long g := fun h => by have := hL.2 h; rw [hbf] at this; simp at this
  have hE := hE.trans hE2
  have hb := hE2.get hb
  have hg := hg1.ext hE2
  clear hE2 hg1 l0 hL
  subst hbf
  have l0 : ldc H2 ⟨k0, 0, none⟩ = some (.slice at_ g.nt ct) := by rw [ldc_row hb, ← hcs]; rfl
  have l1 : ldc H2 ⟨k0, 1, none⟩ = some (.slice al g.lev.length cl) := by rw [ldc_row hb, ← hcs]; rfl
  have l3 : ldc H2 ⟨k0, 3, none⟩ = some (.slice an g.nn cn) := by rw [ldc_row hb, ← hcs]; rfl
  have l4 : ldc H2 ⟨k0, 4, none⟩ = some (.slice ad g.prods.length cd) := by rw [ldc_row hb, ← hcs]; rfl
  have b1 : g.nt ≤ 48 := Classical.byContradiction fun h => hnl (.inl (by omega))
  have b2 : g.nn ≤ 48 := Classical.byContradiction fun h => hnl (.inr (.inl (by omega)))
  have b3 : g.prods.length ≤ 128 := Classical.byContradiction fun h => hnl (.inr (.inr (.inl (by omega))))
  have b4 : ∀ p ∈ g.prods, p.rhs.length ≤ 12 := fun p hp => Classical.byContradiction fun h => hnl (.inr (.inr (.inr ⟨p, hp, by omega⟩)))
  refine W_skip ?_; try simp only [thenQ]
  first | refine W_drawK mixed (by decide +kernel) ?_ | refine W_seq (W_drawK mixed (by decide +kernel) ?_)
  intro K hK; simp (maxSteps := 1000000) (disch := omega) only [optQ_some, QOps_nil, QOps_cons, QCont_eq, QBev, rq, rd, rdB, ev, updO, upd, wantD, Nat.reduceEqDiff, ↓reduceIte, List.map, Nat.zero_add, Nat.add_zero, u22, ld22, fld27_0, fld27_3, l0, l3]
  refine hK _ ?_; clear hK K
  have bad : ∀ {H'}, Ext H2 H' → (GOk g → False) → Ext H H' ∧ ∃ e : Int, Value.int .i64 2 = .int .i64 e ∧ Chk g e := fun h h2 => ⟨hE.trans h, 2, rfl, Chk.bad hnl h2⟩
  by_cases c1 : (g.nt : Int) < 1
  · have c1' : decide ((g.nt : Int) < 1) = true := by simpa using c1
    first | refine W_regK ?_ | refine W_seq (W_regK ?_)
    intro K hK; simp (maxSteps := 1000000) (disch := omega) only [BOps_nil, BOps_cons, Cont_eq, Bev, rd, ev, updO, upd, wantD, List.getElem?_cons_succ, List.getElem?_cons_zero, vtf, bin, optK_some, Nat.reduceEqDiff, ↓reduceIte, List.map, ne_eq, not_true_eq_false, Bool.false_eq_true, c1']
    refine hK _ _ ?_; clear hK K
    first | refine W_seq (W_cond_t (by simp only [ev]) ?_) | refine W_cond_t (by simp only [ev, upd, ↓reduceIte]) ?_
    first | refine W_regK ?_ | refine W_seq (W_regK ?_)
    intro K hK; simp (maxSteps := 1000000) (disch := omega) only [BOps_nil, BOps_cons, Cont_eq, Bev, rd, ev, updO, wantD, optK_some, ↓reduceIte, List.map]
    refine hK _ _ ?_; clear hK K
    refine W_ret ?_; simp only [thenQ, retQ, Try.results7, resV1, Option.some.injEq, exists_eq_left', upd, ↓reduceIte, List.toList_toArray]
    exact bad (.refl _) fun h => by have := h.sh.nt1; omega
  have c1' : decide ((g.nt : Int) < 1) = false := by simpa using c1
  by_cases c2 : (g.nn : Int) < 2
  · have c2' : decide ((g.nn : Int) < 2) = true := by simpa using c2
    first | refine W_regK ?_ | refine W_seq (W_regK ?_)
    intro K hK; simp (maxSteps := 1000000) (disch := omega) only [BOps_nil, BOps_cons, Cont_eq, Bev, rd, ev, updO, upd, wantD, List.getElem?_cons_succ, List.getElem?_cons_zero, vtf, vff, bin, optK_some, Nat.reduceEqDiff, ↓reduceIte, List.map, ne_eq, not_true_eq_false, Bool.false_eq_true, c1', c2']
    refine hK _ _ ?_; clear hK K
    first | refine W_seq (W_cond_t (by simp only [ev]) ?_) | refine W_cond_t (by simp only [ev, upd, ↓reduceIte]) ?_
    first | refine W_regK ?_ | refine W_seq (W_regK ?_)
    intro K hK; simp (maxSteps := 1000000) (disch := omega) only [BOps_nil, BOps_cons, Cont_eq, Bev, rd, ev, updO, wantD, optK_some, ↓reduceIte, List.map]
    refine hK _ _ ?_; clear hK K
    refine W_ret ?_; simp only [thenQ, retQ, Try.results7, resV1, Option.some.injEq, exists_eq_left', upd, ↓reduceIte, List.toList_toArray]
    exact bad (.refl _) fun h => by have := h.sh.nn2; omega
  have c2' : decide ((g.nn : Int) < 2) = false := by simpa using c2
  by_cases c3 : g.lev.length = g.nt
  rotate_left
  · have c3' : ((g.lev.length : Int) != g.nt) = true := bne_iff_ne.2 (by omega)
    first | refine W_regK ?_ | refine W_seq (W_regK ?_)
    intro K hK; simp (maxSteps := 1000000) (disch := omega) only [BOps_nil, BOps_cons, Cont_eq, Bev, rd, rdB, ev, updO, upd, wantD, List.getElem?_cons_succ, List.getElem?_cons_zero, vtf, vff, bin, optK_some, lenV, Nat.reduceEqDiff, ↓reduceIte, List.map, ne_eq, not_true_eq_false, Bool.false_eq_true, Nat.zero_add, u23, ld23, fld27_1, c1', c2', c3', l1]
    refine hK _ _ ?_; clear hK K
    first | refine W_seq (W_cond_t (by simp only [ev]) ?_) | refine W_cond_t (by simp only [ev, upd, ↓reduceIte]) ?_
    first | refine W_regK ?_ | refine W_seq (W_regK ?_)
    intro K hK; simp (maxSteps := 1000000) (disch := omega) only [BOps_nil, BOps_cons, Cont_eq, Bev, rd, ev, updO, wantD, optK_some, ↓reduceIte, List.map]
    refine hK _ _ ?_; clear hK K
    refine W_ret ?_; simp only [thenQ, retQ, Try.results7, resV1, Option.some.injEq, exists_eq_left', upd, ↓reduceIte, List.toList_toArray]
    exact bad (.refl _) fun h => c3 h.lv
  have c3' : ((g.lev.length : Int) != g.nt) = false := bne_eq_false_iff_eq.2 (by omega)
  by_cases c4 : g.prods.length = 0
  · have c4' : ((g.prods.length : Int) == 0) = true := beq_iff_eq.2 (by omega)
    first | refine W_regK ?_ | refine W_seq (W_regK ?_)
    intro K hK; simp (maxSteps := 1000000) (disch := omega) only [BOps_nil, BOps_cons, Cont_eq, Bev, rd, rdB, ev, updO, upd, wantD, List.getElem?_cons_succ, List.getElem?_cons_zero, vff, bin, optK_some, lenV, Nat.reduceEqDiff, ↓reduceIte, List.map, ne_eq, not_true_eq_false, Bool.false_eq_true, Nat.zero_add, u23, ld23, u25, ld25, fld27_1, fld27_4, c1', c2', c3', c4', l1, l4]
    refine hK _ _ ?_; clear hK K
    first | refine W_seq (W_cond_t (by simp only [ev]) ?_) | refine W_cond_t (by simp only [ev, upd, ↓reduceIte]) ?_
    first | refine W_regK ?_ | refine W_seq (W_regK ?_)
    intro K hK; simp (maxSteps := 1000000) (disch := omega) only [BOps_nil, BOps_cons, Cont_eq, Bev, rd, ev, updO, wantD, optK_some, ↓reduceIte, List.map]
    refine hK _ _ ?_; clear hK K
    refine W_ret ?_; simp only [thenQ, retQ, Try.results7, resV1, Option.some.injEq, exists_eq_left', upd, ↓reduceIte, List.toList_toArray]
    exact bad (.refl _) fun h => by have := h.sh.np1; omega
  have c4' : ((g.prods.length : Int) == 0) = false := beq_eq_false_iff_ne.2 (by omega)
  first | refine W_regK ?_ | refine W_seq (W_regK ?_)
  intro K hK; simp (maxSteps := 1000000) (disch := omega) only [BOps_nil, BOps_cons, Cont_eq, Bev, rd, rdB, ev, updO, upd, wantD, List.getElem?_cons_succ, List.getElem?_cons_zero, vff, bin, optK_some, lenV, Nat.reduceEqDiff, ↓reduceIte, List.map, ne_eq, not_true_eq_false, Bool.false_eq_true, Nat.zero_add, u23, ld23, u25, ld25, fld27_1, fld27_4, c1', c2', c3', c4', l1, l4]
  refine hK _ _ ?_; clear hK K
  first | refine W_seq (W_cond_f (by simp only [ev]) ?_) | refine W_cond_f (by simp only [ev, upd, ↓reduceIte]) ?_
  refine W_skip ?_; try simp only [thenQ]
  clear c1' c2' c3' c4'
  first | refine W_regK ?_ | refine W_seq (W_regK ?_)
  intro K hK; simp (maxSteps := 1000000) (disch := omega) only [BOps_cons, Cont_eq, Bev, rd, ev, updO, upd, wantD, optK_some, Nat.reduceEqDiff, ↓reduceIte, List.map, List.map_toArray, List.append_toArray, List.append_nil, List.nil_append, Nat.zero_add, ld23, fld27_1, l1]
  have hlr := hg.l
  have hfl := hg.fits.l
  refine (contains_lev H2 _ _ 19 #[] #[] (fun i => !mayBindB (g.lev.getD i default).1 (g.lev.getD i default).2) hlr (by simp; omega) ?_).mono ?_
  · intro H' hE' i hi
    have hi' : i < g.lev.length := by simpa using hi
    have := check1_spec H' (g.lev[i]).1 (g.lev[i]).2
    simp only [List.getElem_map, List.getD_eq_getElem?_getD, List.getElem?_eq_getElem hi', Option.getD_some]
    exact this
  rintro r H3 ⟨hE3, b, rfl, hbb⟩
  simp (maxSteps := 1000000) (disch := omega) only [BOps_nil, Cont_eq, updO]
  refine hK _ _ ?_; clear hK K
  first | refine W_if (t := _) (by simp only [ev]; rfl) ?_ ?_ | refine W_cond (t := _) (by simp only [ev, upd, ↓reduceIte]; rfl) ?_ ?_
  · intro hbt
    first | refine W_regK ?_ | refine W_seq (W_regK ?_)
    intro K hK; simp (maxSteps := 1000000) (disch := omega) only [BOps_nil, BOps_cons, Cont_eq, Bev, rd, ev, updO, wantD, optK_some, ↓reduceIte, List.map]
    refine hK _ _ ?_; clear hK K
    refine W_ret ?_; simp only [thenQ, retQ, Try.results7, resV1, Option.some.injEq, exists_eq_left', upd, ↓reduceIte, List.toList_toArray]
    refine bad hE3 fun h => ?_
    obtain ⟨j, hj, hp⟩ := hbb.1 hbt
    have hj' : j < g.lev.length := by simpa using hj
    simp only [List.getD_eq_getElem?_getD, List.getElem?_eq_getElem hj', Option.getD_some] at hp
    rw [h.lb _ (List.getElem_mem hj')] at hp
    simp at hp
  intro hbf
  subst hbf
  have hlb : ∀ x ∈ g.lev, mayBindB x.1 x.2 = true := by
    intro x hx
    obtain ⟨j, hj, rfl⟩ := List.getElem_of_mem hx
    refine Classical.byContradiction fun hn => ?_
    have := hbb.2 ⟨j, by simpa using hj, by simp only [List.getD_eq_getElem?_getD, List.getElem?_eq_getElem hj, Option.getD_some]; simpa using hn⟩
    simp at this
  clear hbb hlr
  refine W_skip ?_; try simp only [thenQ]
  have hb3 := hE3.get hb
  have l4 : ldc H3 ⟨k0, 4, none⟩ = some (.slice ad g.prods.length cd) := by rw [ldc_row hb3, ← hcs]; rfl
  first | refine W_regK ?_ | refine W_seq (W_regK ?_)
  intro K hK; simp (maxSteps := 1000000) (disch := omega) only [BOps_nil, BOps_cons, Cont_eq, Bev, rd, rdB, ev, updO, upd, wantD, optK_some, lenV, Nat.reduceEqDiff, ↓reduceIte, List.map, Nat.zero_add, u25, ld25, fld27_4, l4]
  refine hK _ _ ?_; clear hK K
  obtain ⟨bp, op, cap, ra, rb, ro, rc, hvd, hP⟩ := hg.prods (by omega)
  injection hvd with hv1 _ hv2
  subst hv1; subst hv2
  have hP3 := hP.ext hE3
  clear l0 l1 l3 l4 hb3
  first | refine W_seq (W_block (W_loop (fun z f H' => ∃ j : Int, 0 ≤ j ∧ j ≤ g.prods.length ∧ z = g.prods.length - j.toNat ∧ f 1 = .pointer (some ⟨k0, 0, none⟩) ∧ f 3 = .int .i64 g.nt ∧ f 4 = .int .i64 g.nn ∧ f 42 = .slice (some ⟨bp, op, none⟩) g.prods.length cd ∧ f 43 = .int .i64 g.prods.length ∧ f 44 = .int .i64 j ∧ Ext H2 H' ∧     ∀ i : Int, 0 ≤ i → i < j → (0 ≤ (gp g i).left ∧ (gp g i).left < g.nn) ∧ ((gp g i).left = 0 ↔ i = 0) ∧ mayBindB (gp g i).ln (gp g i).lk = true ∧ ∀ s ∈ (gp g i).rhs, 1 ≤ s ∧ s < g.nt + g.nn ∧ s ≠ g.nt) g.prods.length ?_ ?_)) | refine W_block (W_loop (fun z f H' => ∃ j : Int, 0 ≤ j ∧ j ≤ g.prods.length ∧ z = g.prods.length - j.toNat ∧ f 1 = .pointer (some ⟨k0, 0, none⟩) ∧ f 3 = .int .i64 g.nt ∧ f 4 = .int .i64 g.nn ∧ f 42 = .slice (some ⟨bp, op, none⟩) g.prods.length cd ∧ f 43 = .int .i64 g.prods.length ∧ f 44 = .int .i64 j ∧ Ext H2 H' ∧     ∀ i : Int, 0 ≤ i → i < j → (0 ≤ (gp g i).left ∧ (gp g i).left < g.nn) ∧ ((gp g i).left = 0 ↔ i = 0) ∧ mayBindB (gp g i).ln (gp g i).lk = true ∧ ∀ s ∈ (gp g i).rhs, 1 ≤ s ∧ s < g.nt + g.nn ∧ s ≠ g.nt) g.prods.length ?_ ?_)
  · exact ⟨0, by omega, by omega, by omega, by simp [upd], by simp [upd], by simp [upd], by simp [upd], by simp [upd], by simp [upd], hE3, by omega⟩
  clear hE3 hP3
  rintro z f H' ⟨j, j0, j1, rfl, g1, g3, g4, g42, g43, g44, hE3, hall⟩
  first | refine W_regK ?_ | refine W_seq (W_regK ?_)
  intro K hK; simp (maxSteps := 1000000) (disch := omega) only [BOps_nil, BOps_cons, Cont_eq, Bev, rd, ev, updO, wantD, bin, optK_some, ↓reduceIte, List.map, ne_eq, not_true_eq_false, g43, g44]
  refine hK _ _ ?_; clear hK K
  first | refine W_if (t := _) (by simp only [ev, upd, ↓reduceIte]; rfl) ?_ ?_ | refine W_cond (t := _) (by simp only [ev, upd, argf, Nat.reduceEqDiff, ↓reduceIte, reduceCtorEq]; rfl) ?_ ?_
  · intro hc
    have hlt : j < g.prods.length := by simpa using hc
    have hP3 := hP.ext hE3
    have hld := hP3.all j j0 hlt
    have hmem := gp_mem j0 hlt
    have hrl := b4 _ hmem
    refine W_skip ?_; try simp only [thenQ]
    first | refine W_seq (W_block ?_) | refine W_block ?_
    first | refine W_regK ?_ | refine W_seq (W_regK ?_)
    intro K hK; simp (maxSteps := 1000000) (disch := omega) only [stn_new_isii, optH_some, BOps_nil, BOps_cons, Cont_eq, Bev, rd, ev, updO, upd, wantD, optK_some, optH_some, Nat.reduceEqDiff, ↓reduceIte, List.map, List.toList_toArray, inI_pos, Value.cells, Option.map_some, List.size_toArray, List.length_cons, List.length_nil, Nat.reduceAdd, Nat.zero_add, ixk25, hz44, ld44, st44, zc44, g42, g44, hld]
    have hEq := (Ext.refl H').push (row 44 [.int .i64 (gp g j).left, .slice (ra j) (gp g j).rhs.length (rc j), .int .i64 (gp g j).ln, .int .i64 (gp g j).lk])
    have hq := get_new H' (row 44 [.int .i64 (gp g j).left, .slice (ra j) (gp g j).rhs.length (rc j), .int .i64 (gp g j).ln, .int .i64 (gp g j).lk])
    have hE4 := hE3.trans hEq
    clear hld hP3 hE3
    generalize hk1 : H'.size = pb at *
    generalize H'.push _ = H4 at *
    clear hEq
    have q0 : ldc H4 ⟨pb, 0, none⟩ = some (.int .i64 (gp g j).left) := ldc_row hq 0
    have q2 : ldn H4 2 ⟨pb, 2, none⟩ = some [.int .i64 (gp g j).ln, .int .i64 (gp g j).lk] := by rw [ldn_row hq]; rfl
    refine hK _ _ ?_; clear hK K
    by_cases d1 : (gp g j).left < 0
    · have d1' : decide ((gp g j).left < 0) = true := by simpa using d1
      first | refine W_regK ?_ | refine W_seq (W_regK ?_)
      intro K hK; simp (maxSteps := 1000000) (disch := omega) only [BOps_nil, BOps_cons, Cont_eq, Bev, rd, ev, updO, upd, wantD, List.getElem?_cons_succ, List.getElem?_cons_zero, vtf, bin, optK_some, Nat.reduceEqDiff, ↓reduceIte, List.map, ne_eq, not_true_eq_false, Bool.false_eq_true, Nat.add_zero, ld3, fld44_0, q0, d1']
      refine hK _ _ ?_; clear hK K
      first | refine W_seq (W_cond_t (by simp only [ev]) ?_) | refine W_cond_t (by simp only [ev, upd, ↓reduceIte]) ?_
      first | refine W_regK ?_ | refine W_seq (W_regK ?_)
      intro K hK; simp (maxSteps := 1000000) (disch := omega) only [BOps_nil, BOps_cons, Cont_eq, Bev, rd, ev, updO, wantD, optK_some, ↓reduceIte, List.map]
      refine hK _ _ ?_; clear hK K
      refine W_ret ?_; simp only [thenQ, blockQ, retQ, Try.results7, resV1, Option.some.injEq, exists_eq_left', upd, ↓reduceIte, List.toList_toArray]
      exact bad hE4 fun h => by have := h.sh.left _ hmem; omega
    have d1' : decide ((gp g j).left < 0) = false := by simpa using d1
    by_cases d2 : (gp g j).left ≥ g.nn
    · have d2' : decide ((gp g j).left ≥ (g.nn : Int)) = true := by simpa using d2
      first | refine W_regK ?_ | refine W_seq (W_regK ?_)
      intro K hK; simp (maxSteps := 1000000) (disch := omega) only [BOps_nil, BOps_cons, Cont_eq, Bev, rd, ev, updO, upd, wantD, List.getElem?_cons_succ, List.getElem?_cons_zero, vtf, vff, bin, optK_some, Nat.reduceEqDiff, ↓reduceIte, List.map, ne_eq, not_true_eq_false, Bool.false_eq_true, Nat.add_zero, ld3, fld44_0, q0, d1', d2', g4]
      refine hK _ _ ?_; clear hK K
      first | refine W_seq (W_cond_t (by simp only [ev]) ?_) | refine W_cond_t (by simp only [ev, upd, ↓reduceIte]) ?_
      first | refine W_regK ?_ | refine W_seq (W_regK ?_)
      intro K hK; simp (maxSteps := 1000000) (disch := omega) only [BOps_nil, BOps_cons, Cont_eq, Bev, rd, ev, updO, wantD, optK_some, ↓reduceIte, List.map]
      refine hK _ _ ?_; clear hK K
      refine W_ret ?_; simp only [thenQ, blockQ, retQ, Try.results7, resV1, Option.some.injEq, exists_eq_left', upd, ↓reduceIte, List.toList_toArray]
      exact bad hE4 fun h => by have := h.sh.left _ hmem; omega
    have d2' : decide ((gp g j).left ≥ (g.nn : Int)) = false := by simpa using d2
    by_cases d3 : ((gp g j).left = 0 ↔ j = 0)
    rotate_left
    · have d3' : (((gp g j).left == 0) == (j == 0)) = false := by
        refine beq_eq_false_iff_ne.2 fun e => d3 ?_
        rw [Bool.eq_iff_iff] at e; simpa using e
      first | refine W_regK ?_ | refine W_seq (W_regK ?_)
      intro K hK; simp (maxSteps := 1000000) (disch := omega) only [BOps_nil, BOps_cons, Cont_eq, Bev, rd, ev, updO, upd, wantD, List.getElem?_cons_succ, List.getElem?_cons_zero, vtf, vff, Bool.not_false, bin, optK_some, Nat.reduceEqDiff, ↓reduceIte, List.map, ne_eq, not_true_eq_false, Bool.false_eq_true, Nat.add_zero, ld3, u4, fld44_0, q0, d1', d2', d3', g4, u4]
      refine hK _ _ ?_; clear hK K
      first | refine W_seq (W_cond_t (by simp only [ev]) ?_) | refine W_cond_t (by simp only [ev, upd, ↓reduceIte]) ?_
      first | refine W_regK ?_ | refine W_seq (W_regK ?_)
      intro K hK; simp (maxSteps := 1000000) (disch := omega) only [BOps_nil, BOps_cons, Cont_eq, Bev, rd, ev, updO, wantD, optK_some, ↓reduceIte, List.map]
      refine hK _ _ ?_; clear hK K
      refine W_ret ?_; simp only [thenQ, blockQ, retQ, Try.results7, resV1, Option.some.injEq, exists_eq_left', upd, ↓reduceIte, List.toList_toArray]
      exact bad hE4 fun h => d3 (h.zero j j0 hlt)
    have d3' : (((gp g j).left == 0) == (j == 0)) = true := by
      rw [beq_iff_eq, Bool.eq_iff_iff]; simpa using d3
    first | refine W_regK ?_ | refine W_seq (W_regK ?_)
    intro K hK; simp (maxSteps := 1000000) (disch := omega) only [BOps_cons, Cont_eq, Bev, rd, ev, updO, upd, wantD, List.getElem?_cons_succ, List.getElem?_cons_zero, vff, Bool.not_true, bin, optK_some, Nat.reduceEqDiff, ↓reduceIte, List.map, List.map_toArray, ne_eq, not_true_eq_false, List.append_toArray, List.append_nil, List.nil_append, Option.map_some, Bool.false_eq_true, Nat.zero_add, Nat.add_zero, ld3, u4, ld42, fld44_0, fld44_2, q0, q2, d1', d2', d3', g4, u4]
    refine (mayBind_spec H4 (gp g j).ln (gp g j).lk).mono ?_
    rintro r H5 ⟨rfl, hE5⟩
    have hE4 := hE4.trans hE5
    have hq := hE5.get hq
    clear hE5 q0 q2
    have q1 : ldc H5 ⟨pb, 1, none⟩ = some (.slice (ra j) (gp g j).rhs.length (rc j)) := ldc_row hq 1
    cases d4 : mayBindB (gp g j).ln (gp g j).lk
    · simp (maxSteps := 1000000) (disch := omega) only [BOps_nil, BOps_cons, Cont_eq, Bev, rd, ev, updO, upd, wantD, List.getElem?_cons_succ, List.getElem?_cons_zero, vff, Bool.not_false, optK_some, Nat.reduceEqDiff, ↓reduceIte, Bool.false_eq_true]
      refine hK _ _ ?_; clear hK K
      first | refine W_seq (W_cond_t (by simp only [ev]) ?_) | refine W_cond_t (by simp only [ev, upd, ↓reduceIte]) ?_
      first | refine W_regK ?_ | refine W_seq (W_regK ?_)
      intro K hK; simp (maxSteps := 1000000) (disch := omega) only [BOps_nil, BOps_cons, Cont_eq, Bev, rd, ev, updO, wantD, optK_some, ↓reduceIte, List.map]
      refine hK _ _ ?_; clear hK K
      refine W_ret ?_; simp only [thenQ, blockQ, retQ, Try.results7, resV1, Option.some.injEq, exists_eq_left', upd, ↓reduceIte, List.toList_toArray]
      exact bad hE4 fun h => by rw [h.pb _ hmem] at d4; simp at d4
    simp (maxSteps := 1000000) (disch := omega) only [BOps_nil, BOps_cons, Cont_eq, Bev, rd, ev, updO, upd, wantD, List.getElem?_cons_succ, List.getElem?_cons_zero, vff, Bool.not_true, optK_some, Nat.reduceEqDiff, ↓reduceIte, Bool.false_eq_true]
    refine hK _ _ ?_; clear hK K
    first | refine W_seq (W_cond_f (by simp only [ev]) ?_) | refine W_cond_f (by simp only [ev, upd, ↓reduceIte]) ?_
    refine W_skip ?_; try simp only [thenQ]
    first | refine W_regK ?_ | refine W_seq (W_regK ?_)
    intro K hK; simp (maxSteps := 1000000) (disch := omega) only [BOps_nil, BOps_cons, Cont_eq, Bev, rd, rdB, ev, updO, upd, wantD, optK_some, lenV, Nat.reduceEqDiff, ↓reduceIte, List.map, Nat.zero_add, u28, ld28, fld44_1, q1]
    refine hK _ _ ?_; clear hK K
    clear d1' d2' d3' q1 hq
    first | refine W_seq (W_block (W_loop (fun z f H' => ∃ i : Int, 0 ≤ i ∧ i ≤ (gp g j).rhs.length ∧ z = (gp g j).rhs.length - i.toNat ∧ f 1 = .pointer (some ⟨k0, 0, none⟩) ∧ f 3 = .int .i64 g.nt ∧ f 4 = .int .i64 g.nn ∧ f 42 = .slice (some ⟨bp, op, none⟩) g.prods.length cd ∧ f 43 = .int .i64 g.prods.length ∧ f 44 = .int .i64 j ∧ f 73 = .slice (ra j) (gp g j).rhs.length (rc j) ∧ f 74 = .int .i64 (gp g j).rhs.length ∧ f 75 = .int .i64 i ∧ Ext H2 H' ∧       ∀ k : Int, 0 ≤ k → k < i → 1 ≤ gi (gp g j).rhs k ∧ gi (gp g j).rhs k < g.nt + g.nn ∧ gi (gp g j).rhs k ≠ g.nt) (gp g j).rhs.length ?_ ?_)) | refine W_block (W_loop (fun z f H' => ∃ i : Int, 0 ≤ i ∧ i ≤ (gp g j).rhs.length ∧ z = (gp g j).rhs.length - i.toNat ∧ f 1 = .pointer (some ⟨k0, 0, none⟩) ∧ f 3 = .int .i64 g.nt ∧ f 4 = .int .i64 g.nn ∧ f 42 = .slice (some ⟨bp, op, none⟩) g.prods.length cd ∧ f 43 = .int .i64 g.prods.length ∧ f 44 = .int .i64 j ∧ f 73 = .slice (ra j) (gp g j).rhs.length (rc j) ∧ f 74 = .int .i64 (gp g j).rhs.length ∧ f 75 = .int .i64 i ∧ Ext H2 H' ∧       ∀ k : Int, 0 ≤ k → k < i → 1 ≤ gi (gp g j).rhs k ∧ gi (gp g j).rhs k < g.nt + g.nn ∧ gi (gp g j).rhs k ≠ g.nt) (gp g j).rhs.length ?_ ?_)
    · exact ⟨0, by omega, by omega, by omega, by simp [upd, g1], by simp [upd, g3], by simp [upd, g4], by simp [upd, g42], by simp [upd, g43], by simp [upd, g44], by simp [upd], by simp [upd], by simp [upd], hE4, by omega⟩
    clear g1 g3 g4 g42 g43 g44 f hE4
    rintro z f H6 ⟨i, i0, i1, rfl, g1, g3, g4, g42, g43, g44, g73, g74, g75, hE4, hi⟩
    first | refine W_regK ?_ | refine W_seq (W_regK ?_)
    intro K hK; simp (maxSteps := 1000000) (disch := omega) only [BOps_nil, BOps_cons, Cont_eq, Bev, rd, ev, updO, wantD, bin, optK_some, ↓reduceIte, List.map, ne_eq, not_true_eq_false, g74, g75]
    refine hK _ _ ?_; clear hK K
    first | refine W_if (t := _) (by simp only [ev, upd, ↓reduceIte]; rfl) ?_ ?_ | refine W_cond (t := _) (by simp only [ev, upd, argf, Nat.reduceEqDiff, ↓reduceIte, reduceCtorEq]; rfl) ?_ ?_
    · intro hc
      have hil : i < (gp g j).rhs.length := by simpa using hc
      have hP4 := hP.ext hE4
      have haj := hP4.at_ j j0 hlt (by omega)
      have hsy := hP4.sym j i j0 hlt i0 hil
      have hsm : gi (gp g j).rhs i ∈ (gp g j).rhs := by
        have : i.toNat < (gp g j).rhs.length := by omega
        simp [gi, this]
      refine W_skip ?_; try simp only [thenQ]
      first | refine W_seq (W_block ?_) | refine W_block ?_
      first | refine W_regK ?_ | refine W_seq (W_regK ?_)
      intro K hK; simp (maxSteps := 1000000) (disch := omega) only [BOps_nil, BOps_cons, Cont_eq, Bev, rd, ev, updO, upd, wantD, optK_some, Nat.reduceEqDiff, ↓reduceIte, List.map, inI_pos, ld3, ixk28, g73, g75, haj, hsy]
      refine hK _ _ ?_; clear hK K
      by_cases e1 : gi (gp g j).rhs i < 1
      · have e1' : decide (gi (gp g j).rhs i < 1) = true := by simpa using e1
        first | refine W_regK ?_ | refine W_seq (W_regK ?_)
        intro K hK; simp (maxSteps := 1000000) (disch := omega) only [BOps_nil, BOps_cons, Cont_eq, Bev, rd, ev, updO, upd, wantD, List.getElem?_cons_succ, List.getElem?_cons_zero, vtf, bin, optK_some, Nat.reduceEqDiff, ↓reduceIte, List.map, ne_eq, not_true_eq_false, Bool.false_eq_true, e1']
        refine hK _ _ ?_; clear hK K
        first | refine W_seq (W_cond_t (by simp only [ev]) ?_) | refine W_cond_t (by simp only [ev, upd, ↓reduceIte]) ?_
        first | refine W_regK ?_ | refine W_seq (W_regK ?_)
        intro K hK; simp (maxSteps := 1000000) (disch := omega) only [BOps_nil, BOps_cons, Cont_eq, Bev, rd, ev, updO, wantD, optK_some, ↓reduceIte, List.map]
        refine hK _ _ ?_; clear hK K
        refine W_ret ?_; simp only [thenQ, blockQ, retQ, Try.results7, resV1, Option.some.injEq, exists_eq_left', upd, ↓reduceIte, List.toList_toArray]
        exact bad hE4 fun h => by have := h.sh.sym _ hmem _ hsm; omega
      have e1' : decide (gi (gp g j).rhs i < 1) = false := by simpa using e1
      by_cases e2 : gi (gp g j).rhs i ≥ g.nt + g.nn
      · have e2' : decide (gi (gp g j).rhs i ≥ (g.nt : Int) + g.nn) = true := by simpa using e2
        first | refine W_regK ?_ | refine W_seq (W_regK ?_)
        intro K hK; simp (maxSteps := 1000000) (disch := omega) only [BOps_nil, BOps_cons, Cont_eq, Bev, rd, ev, updO, upd, wantD, List.getElem?_cons_succ, List.getElem?_cons_zero, vtf, vff, bin, optK_some, Nat.reduceEqDiff, ↓reduceIte, List.map, ne_eq, not_true_eq_false, wrapi, Bool.false_eq_true, e1', e2', g3, g4]
        refine hK _ _ ?_; clear hK K
        first | refine W_seq (W_cond_t (by simp only [ev]) ?_) | refine W_cond_t (by simp only [ev, upd, ↓reduceIte]) ?_
        first | refine W_regK ?_ | refine W_seq (W_regK ?_)
        intro K hK; simp (maxSteps := 1000000) (disch := omega) only [BOps_nil, BOps_cons, Cont_eq, Bev, rd, ev, updO, wantD, optK_some, ↓reduceIte, List.map]
        refine hK _ _ ?_; clear hK K
        refine W_ret ?_; simp only [thenQ, blockQ, retQ, Try.results7, resV1, Option.some.injEq, exists_eq_left', upd, ↓reduceIte, List.toList_toArray]
        exact bad hE4 fun h => by have := h.sh.sym _ hmem _ hsm; omega
      have e2' : decide (gi (gp g j).rhs i ≥ (g.nt : Int) + g.nn) = false := by simpa using e2
      by_cases e3 : gi (gp g j).rhs i = g.nt
      · have e3' : (gi (gp g j).rhs i == (g.nt : Int)) = true := beq_iff_eq.2 e3
        first | refine W_regK ?_ | refine W_seq (W_regK ?_)
        intro K hK; simp (maxSteps := 1000000) (disch := omega) only [BOps_nil, BOps_cons, Cont_eq, Bev, rd, ev, updO, upd, wantD, List.getElem?_cons_succ, List.getElem?_cons_zero, vff, bin, optK_some, Nat.reduceEqDiff, ↓reduceIte, List.map, ne_eq, not_true_eq_false, wrapi, Bool.false_eq_true, e1', e2', e3', g3, g4]
        refine hK _ _ ?_; clear hK K
        first | refine W_seq (W_cond_t (by simp only [ev]) ?_) | refine W_cond_t (by simp only [ev, upd, ↓reduceIte]) ?_
        first | refine W_regK ?_ | refine W_seq (W_regK ?_)
        intro K hK; simp (maxSteps := 1000000) (disch := omega) only [BOps_nil, BOps_cons, Cont_eq, Bev, rd, ev, updO, wantD, optK_some, ↓reduceIte, List.map]
        refine hK _ _ ?_; clear hK K
        refine W_ret ?_; simp only [thenQ, blockQ, retQ, Try.results7, resV1, Option.some.injEq, exists_eq_left', upd, ↓reduceIte, List.toList_toArray]
        exact bad hE4 fun h => by have := h.sh.sym _ hmem _ hsm; omega
      have e3' : (gi (gp g j).rhs i == (g.nt : Int)) = false := beq_eq_false_iff_ne.2 e3
      first | refine W_regK ?_ | refine W_seq (W_regK ?_)
      intro K hK; simp (maxSteps := 1000000) (disch := omega) only [BOps_nil, BOps_cons, Cont_eq, Bev, rd, ev, updO, upd, wantD, List.getElem?_cons_succ, List.getElem?_cons_zero, vff, bin, optK_some, Nat.reduceEqDiff, ↓reduceIte, List.map, ne_eq, not_true_eq_false, wrapi, Bool.false_eq_true, e1', e2', e3', g3, g4]
      refine hK _ _ ?_; clear hK K
      first | refine W_seq (W_cond_f (by simp only [ev]) ?_) | refine W_cond_f (by simp only [ev, upd, ↓reduceIte]) ?_
      refine W_skip ?_; try simp only [thenQ, blockQ]
      refine W_reg ?_; simp (maxSteps := 1000000) (disch := omega) only [BOps_nil, BOps_cons, Cont_eq, Bev, rd, ev, updO, upd, wantD, bin, optK_some, Nat.reduceEqDiff, ↓reduceIte, List.map, ne_eq, not_true_eq_false, wrapi, g75]
      simp only [thenQ]
      refine ⟨(gp g j).rhs.length - (i + 1).toNat, by omega, i + 1, by omega, by omega, rfl, by simp [upd, g1], by simp [upd, g3], by simp [upd, g4], by simp [upd, g42], by simp [upd, g43], by simp [upd, g44], by simp [upd, g73], by simp [upd, g74], by simp [upd], hE4, ?_⟩
      intro k k0 k1
      by_cases e : k = i
      · subst e; omega
      · exact hi k k0 (by omega)
    · intro hc
      have hge : i = (gp g j).rhs.length := by simp at hc; omega
      subst hge
      refine W_exit ?_; simp only [thenQ, blockQ, ↓reduceIte]
      refine W_reg ?_; simp (maxSteps := 1000000) (disch := omega) only [BOps_nil, BOps_cons, Cont_eq, Bev, rd, ev, updO, upd, wantD, bin, optK_some, Nat.reduceEqDiff, ↓reduceIte, List.map, ne_eq, not_true_eq_false, wrapi, g44]
      simp only [thenQ]
      refine ⟨g.prods.length - (j + 1).toNat, by omega, j + 1, by omega, by omega, rfl, by simp [upd, g1], by simp [upd, g3], by simp [upd, g4], by simp [upd, g42], by simp [upd, g43], by simp [upd], hE4, ?_⟩
      intro k k0 k1
      by_cases e : k = j
      · subst e
        refine ⟨by omega, d3, d4, fun s hs => ?_⟩
        obtain ⟨m, hm, rfl⟩ := List.getElem_of_mem hs
        have := hi m (by omega) (by omega)
        rw [gi_nat _ _ hm] at this; exact this
      · exact hall k k0 (by omega)
  · intro hc
    have hge : j = g.prods.length := by simp at hc; omega
    subst hge
    refine W_exit ?_; simp only [thenQ, blockQ, ↓reduceIte]
    clear g42 g43 g44
    have hb3 := hE3.get hb
    have l4 : ldc H' ⟨k0, 4, none⟩ = some (.slice (some ⟨bp, op, none⟩) g.prods.length cd) := by rw [ldc_row hb3, ← hcs]; rfl
    have hP3 := hP.ext hE3
    have hr0 : ldc H' ⟨bp, op + 1, none⟩ = some (.slice (ra 0) (gp g 0).rhs.length (rc 0)) := by simpa using hP3.right 0 (by omega) (by omega)
    first | refine W_regK ?_ | refine W_seq (W_regK ?_)
    intro K hK; simp (maxSteps := 1000000) (disch := omega) only [BOps_nil, BOps_cons, Cont_eq, Bev, rd, ev, updO, upd, wantD, optK_some, Nat.reduceEqDiff, ↓reduceIte, List.map, inI_pos, Nat.zero_add, Nat.add_zero, Nat.zero_mul, Int.toNat_zero, ld25, ixk25, fld27_4, ld28, fld44_1, g1, l4, hr0]
    refine hK _ _ ?_; clear hK K
    have hra := hP3.at_ 0 (by omega) (by omega)
    have hr1 := hP3.sym 0 0 (by omega) (by omega) (by omega)
    by_cases d1 : (gp g 0).rhs.length = 1
    rotate_left
    · have d1' : (((gp g 0).rhs.length : Int) != 1) = true := bne_iff_ne.2 (by omega)
      first | refine W_regK ?_ | refine W_seq (W_regK ?_)
      intro K hK; simp (maxSteps := 1000000) (disch := omega) only [BOps_nil, BOps_cons, Cont_eq, Bev, rd, rdB, ev, updO, upd, wantD, List.getElem?_cons_succ, List.getElem?_cons_zero, vtf, bin, optK_some, lenV, Nat.reduceEqDiff, ↓reduceIte, List.map, ne_eq, not_true_eq_false, Bool.false_eq_true, u28, d1']
      refine hK _ _ ?_; clear hK K
      first | refine W_seq (W_cond_t (by simp only [ev]) ?_) | refine W_cond_t (by simp only [ev, upd, ↓reduceIte]) ?_
      first | refine W_regK ?_ | refine W_seq (W_regK ?_)
      intro K hK; simp (maxSteps := 1000000) (disch := omega) only [BOps_nil, BOps_cons, Cont_eq, Bev, rd, ev, updO, wantD, optK_some, ↓reduceIte, List.map]
      refine hK _ _ ?_; clear hK K
      refine W_ret ?_; simp only [thenQ, retQ, Try.results7, resV1, Option.some.injEq, exists_eq_left', upd, ↓reduceIte, List.toList_toArray]
      exact bad hE3 fun h => d1 h.one
    have d1' : (((gp g 0).rhs.length : Int) != 1) = false := bne_eq_false_iff_eq.2 (by omega)
    have hra := hra (by omega)
    have hr1 := hr1 (by omega)
    have hr1 : ldc H' ⟨rb 0, ro 0, none⟩ = some (.int .i64 (gi (gp g 0).rhs 0)) := by simpa using hr1
    by_cases d2 : gi (gp g 0).rhs 0 < g.nt
    · have d2' : decide (gi (gp g 0).rhs 0 < (g.nt : Int)) = true := by simpa using d2
      first | refine W_regK ?_ | refine W_seq (W_regK ?_)
      intro K hK; simp (maxSteps := 1000000) (disch := omega) only [BOps_nil, BOps_cons, Cont_eq, Bev, rd, rdB, ev, updO, upd, wantD, List.getElem?_cons_succ, List.getElem?_cons_zero, vff, bin, optK_some, lenV, Nat.reduceEqDiff, ↓reduceIte, List.map, ne_eq, not_true_eq_false, inI_pos, Bool.false_eq_true, Nat.add_zero, Nat.zero_mul, Int.toNat_zero, ld3, u28, ixk28, d1', d2', g3, hra, hr1]
      refine hK _ _ ?_; clear hK K
      first | refine W_seq (W_cond_t (by simp only [ev]) ?_) | refine W_cond_t (by simp only [ev, upd, ↓reduceIte]) ?_
      first | refine W_regK ?_ | refine W_seq (W_regK ?_)
      intro K hK; simp (maxSteps := 1000000) (disch := omega) only [BOps_nil, BOps_cons, Cont_eq, Bev, rd, ev, updO, wantD, optK_some, ↓reduceIte, List.map]
      refine hK _ _ ?_; clear hK K
      refine W_ret ?_; simp only [thenQ, retQ, Try.results7, resV1, Option.some.injEq, exists_eq_left', upd, ↓reduceIte, List.toList_toArray]
      exact bad hE3 fun h => by have := h.name; omega
    have d2' : decide (gi (gp g 0).rhs 0 < (g.nt : Int)) = false := by simpa using d2
    first | refine W_regK ?_ | refine W_seq (W_regK ?_)
    intro K hK; simp (maxSteps := 1000000) (disch := omega) only [BOps_nil, BOps_cons, Cont_eq, Bev, rd, rdB, ev, updO, upd, wantD, List.getElem?_cons_succ, List.getElem?_cons_zero, vff, bin, optK_some, lenV, Nat.reduceEqDiff, ↓reduceIte, List.map, ne_eq, not_true_eq_false, inI_pos, Bool.false_eq_true, Nat.add_zero, Nat.zero_mul, Int.toNat_zero, ld3, u28, ixk28, d1', d2', g3, hra, hr1]
    refine hK _ _ ?_; clear hK K
    first | refine W_seq (W_cond_f (by simp only [ev]) ?_) | refine W_cond_f (by simp only [ev, upd, ↓reduceIte]) ?_
    refine W_skip ?_; try simp only [thenQ]
    have hsh : Shape g := ⟨b1, b2, by omega, by omega, b3, by omega, b4, fun p hp => by
      obtain ⟨i, i0, i1, rfl⟩ := mem_gp hp
      exact (hall i i0 i1).1, fun p hp => by
      obtain ⟨i, i0, i1, rfl⟩ := mem_gp hp
      exact (hall i i0 i1).2.2.2⟩
    clear hra hr1 hr0 l4 d1' d2' hP3
    have l05 : ldn H' 5 ⟨k0, 0, none⟩ = some [Value.slice at_ g.nt ct, Value.slice al g.lev.length cl, Value.slice ap g.pats.length cp, Value.slice an g.nn cn, Value.slice (some ⟨bp, op, none⟩) g.prods.length cd] := by rw [ldn_row hb3, ← hcs]; rfl
    refine W_parK 5 100 Ext (PhiK [Value.slice at_ g.nt ct, Value.slice al g.lev.length cl, Value.slice ap g.pats.length cp, Value.slice an g.nn cn, Value.slice (some ⟨bp, op, none⟩) g.prods.length cd] g.nn H'.size) mixed (by decide +kernel) .base ?_ ?_ ?_
    · intro i v lo hi Hx Hy hx hp
      match i, hp with
      | 0, hp => exact hp
      | 1, hp => exact hp
      | 2, hp => obtain ⟨ub, h1, h2, h3⟩ := hp; exact ⟨ub, h1, h2, (by split at hx <;> exact hx : Ext Hx Hy).get h3⟩
      | 3, hp => obtain ⟨ub, h1, h2, h3⟩ := hp; exact ⟨ub, h1, h2, (by split at hx <;> exact hx : Ext Hx Hy).get h3⟩
      | 4, hp => obtain ⟨k, h1, h2, zs, h3, h4⟩ := hp; exact ⟨k, h1, h2, zs, h3, (by split at hx <;> exact hx : Ext Hx Hy).get h4⟩
      | i + 5, hp => trivial
    · simp only [ParSteps, List.take_succ_cons, List.take_zero]
      refine ⟨?_, ?_, ?_, ?_, ?_, trivial⟩
      · intro f1 Hy hx hout hdep; simp [depsOf, Region.binds, DepFacts] at hdep
        have hx : Ext H' Hy := hx
        have e1 : f1 1 = .pointer (some ⟨k0, 0, none⟩) := by rw [hout 1 (by decide +kernel)]; simp [upd, g1]
        have l05 := ldn_ext hx l05
        simp (maxSteps := 1000000) (disch := omega) only [wantB, Bev, rd, ev, optK_some, ↓reduceIte, reduceCtorEq, and_true, Option.map_some, ld27, e1, l05, PhiK]
        exact .refl _
      · intro f1 Hy hx hout hdep; simp [depsOf, Region.binds, DepFacts] at hdep
        have hx : Ext H' Hy := hx
        have e4 : f1 4 = .int .i64 g.nn := by rw [hout 4 (by decide +kernel)]; simp [upd, g4]
        simp (maxSteps := 1000000) (disch := omega) only [wantB, Bev, rd, ev, optK_some, Nat.reduceEqDiff, ↓reduceIte, and_true, Nat.zero_add, e4, PhiK]
        exact .refl _
      · intro f1 Hy hx hout hdep; simp [depsOf, Region.binds, DepFacts, factAt, dstAt, PhiK] at hdep
        have hx : Ext H' Hy := hx
        simp (maxSteps := 1000000) (disch := omega) only [wantB, Bev, ev, Nat.reduceEqDiff, ↓reduceIte, true_and, List.length_cons, List.length_nil, Nat.reduceAdd, Nat.zero_add, hz4, zc4, slT52, PhiK, hdep, mkSlK]
        refine ⟨by omega, by omega, by omega, by omega, (Ext.refl _).push _, Hy.size, hx.size, by simp, ?_⟩
        rw [get_new, rep_one]; rfl
      · intro f1 Hy hx hout hdep; simp [depsOf, Region.binds, DepFacts, factAt, dstAt, PhiK] at hdep
        have hx : Ext H' Hy := hx
        obtain ⟨hd0, ub, hub, hd2, hr⟩ := hdep
        simp (maxSteps := 1000000) (disch := omega) only [wantB, Bev, ev, optK_some, Nat.reduceEqDiff, ↓reduceIte, List.map, List.nil_append, List.cons_append, Nat.reduceAdd, Nat.zero_add, PhiK, hd0, hd2, bld55]
        exact ⟨.refl _, ub, hub, rfl, hr⟩
      · intro f1 Hy hx hout hdep; simp [depsOf, Region.binds, DepFacts] at hdep
        have hx : Ext H' Hy := hx
        simp (maxSteps := 1000000) (disch := omega) only [wantB, Bev, Nat.reduceEqDiff, ↓reduceIte, Nat.reduceAdd, Nat.zero_add, hz55, zc55, PhiK]
        exact ⟨(Ext.refl _).push _, Hy.size, hx.size, rfl, _, rfl, get_new _ _⟩
    · intro K hK f1 Hy lo hi hx hout hf hdis
      have hf3 := (hf 3 (by omega)).1
      have hf4 := (hf 4 (by omega)).1
      simp [factAt, dstAt, PhiK] at hf3 hf4
      obtain ⟨ub, hub, e113, hr⟩ := hf3
      obtain ⟨kk, hkk, e10, zs, hzs, hr2⟩ := hf4
      have hne : kk ≠ ub := by
        intro e; subst e; rw [hr] at hr2; injection hr2 with hr2; simp [row] at hr2
      have hs : stn Hy ⟨kk, 0, none⟩ [Value.slice at_ g.nt ct, Value.slice al g.lev.length cl, Value.slice ap g.pats.length cp, Value.slice an g.nn cn, Value.slice (some ⟨bp, op, none⟩) g.prods.length cd, .slice (some ⟨ub, 0, none⟩) g.nn g.nn, .slice none 0 0, .slice none 0 0] =
          some (Hy.setIfInBounds kk (row 55 [Value.slice at_ g.nt ct, Value.slice al g.lev.length cl, Value.slice ap g.pats.length cp, Value.slice an g.nn cn, Value.slice (some ⟨bp, op, none⟩) g.prods.length cd, .slice (some ⟨ub, 0, none⟩) g.nn g.nn, .slice none 0 0, .slice none 0 0])) := by
        rw [stn_row hr2 (by simp [hzs]) rfl]
        congr 3
        simp [ow, hzs]
      simp only [List.drop_succ_cons, List.drop_zero]
      simp (maxSteps := 1000000) (disch := omega) only [optH_some, BOps_nil, BOps_cons, Cont_eq, Bev, ev, updO, wantD, optH_some, ↓reduceIte, List.map, List.toList_toArray, Value.cells, List.size_toArray, List.length_cons, List.length_nil, Nat.reduceAdd, Nat.zero_add, st55, e113, e10, hs]
      refine hK _ _ ?_; clear hK K
      have e3 : f1 3 = .int .i64 g.nt := by rw [hout 3 (by decide +kernel)]; simp [upd, g3]
      have hkn : Kn H' (Hy.setIfInBounds kk (row 55 [Value.slice at_ g.nt ct, Value.slice al g.lev.length cl, Value.slice ap g.pats.length cp, Value.slice an g.nn cn, Value.slice (some ⟨bp, op, none⟩) g.prods.length cd, .slice (some ⟨ub, 0, none⟩) g.nn g.nn, .slice none 0 0, .slice none 0 0])) kk ub [Value.slice at_ g.nt ct, Value.slice al g.lev.length cl, Value.slice ap g.pats.length cp, Value.slice an g.nn cn, Value.slice (some ⟨bp, op, none⟩) g.prods.length cd] (List.replicate g.nn false) :=
        ⟨hx.set hkk _, hkk, hub, hne, by rw [get_set (lt_of_get hr2)]; simp, by rw [get_set_ne hne, hr, List.map_replicate]⟩
      generalize Hy.setIfInBounds kk _ = H7 at *
      first | refine W_regK ?_ | refine W_seq (W_regK ?_)
      intro K hK; simp (maxSteps := 1000000) (disch := omega) only [BOps_cons, Cont_eq, Bev, rd, ev, updO, upd, wantD, optK_some, ↓reduceIte, List.map, List.map_toArray, List.append_toArray, List.append_nil, List.nil_append, e10]
      refine (grow_spec H' H7 kk ub _ _ _ _ _ g _ hkn (hg.ext hE3) hsh (by simp) ?_).mono ?_
      · intro A _ h
        unfold bu at h
        simp only [List.getD_eq_getElem?_getD, List.getElem?_replicate] at h
        split at h <;> simp at h
      rintro r H8 ⟨u, hkn, hul, hcl, hsd⟩
      have l5 : ldc H8 ⟨kk, 5, none⟩ = some (.slice (some ⟨ub, 0, none⟩) u.length u.length) := by rw [ldc_row hkn.kb]; rfl
      simp (maxSteps := 1000000) (disch := omega) only [BOps_nil, Cont_eq, updO]
      refine hK _ _ ?_; clear hK K
      first | refine W_regK ?_ | refine W_seq (W_regK ?_)
      intro K hK; simp (maxSteps := 1000000) (disch := omega) only [BOps_cons, Cont_eq, Bev, rd, ev, updO, upd, wantD, optK_some, Nat.reduceEqDiff, ↓reduceIte, List.map, List.map_toArray, List.append_toArray, List.append_nil, List.nil_append, Nat.zero_add, ld52, fld55_1, e10, l5]
      refine (contains_bool H8 _ u ⟨some ⟨ub, 0, none⟩, u.length, by simp, by simp, fun i hi => ⟨ub, 0, rfl, ?_⟩⟩ (by omega)).mono ?_
      · rw [ldc_row hkn.ubb, Nat.zero_add]
      rintro r H9 ⟨rfl, b, rfl, hb9⟩
      simp (maxSteps := 1000000) (disch := omega) only [BOps_nil, Cont_eq, updO]
      refine hK _ _ ?_; clear hK K
      have all : (∀ A : Int, 0 ≤ A → Useful g A → bu u A = true) := by
        intro A hA hu
        induction hu with
        | mk p hp hs ih => exact hcl p hp fun s hs' hge => ih s hs' hge (by omega)
      first | refine W_if (t := _) (by simp only [ev]; rfl) ?_ ?_ | refine W_cond (t := _) (by simp only [ev, upd, ↓reduceIte]; rfl) ?_ ?_
      · intro hbt
        first | refine W_regK ?_ | refine W_seq (W_regK ?_)
        intro K hK; simp (maxSteps := 1000000) (disch := omega) only [BOps_nil, BOps_cons, Cont_eq, Bev, rd, ev, updO, wantD, optK_some, ↓reduceIte, List.map]
        refine hK _ _ ?_; clear hK K
        refine W_ret ?_; simp only [thenQ, retQ, Try.results7, resV1, Option.some.injEq, exists_eq_left', upd, ↓reduceIte, List.toList_toArray]
        refine bad (hE3.trans hkn.ext) fun h => ?_
        have := hb9.1 hbt
        obtain ⟨i, hi, he⟩ := List.getElem_of_mem this
        have := all i (by omega) (h.use i (by omega) (by omega))
        simp [bu, hi, he] at this
      · intro hbf
        refine W_skip ?_; try simp only [thenQ]
        first | refine W_regK ?_ | refine W_seq (W_regK ?_)
        intro K hK; simp (maxSteps := 1000000) (disch := omega) only [BOps_nil, BOps_cons, Cont_eq, Bev, rd, ev, updO, wantD, optK_some, ↓reduceIte, List.map]
        refine hK _ _ ?_; clear hK K
        refine W_ret ?_; simp only [retQ, Try.results7, resV1, Option.some.injEq, exists_eq_left', upd, ↓reduceIte, List.toList_toArray]
        refine ⟨(hE.trans hE3).trans hkn.ext, 0, rfl, .inr (.inl ⟨hnl, ⟨hsh, c3, hlb, fun i i0 i1 => (hall i i0 i1).2.1, fun p hp => by
          obtain ⟨i, i0, i1, rfl⟩ := mem_gp hp
          exact (hall i i0 i1).2.2.1, d1, by omega, fun A h0 h1 => hsd A h0 ?_⟩, rfl⟩)⟩
        have hA : A.toNat < u.length := by omega
        have hmem : u[A.toNat] ∈ u := List.getElem_mem hA
        cases he : u[A.toNat] with
        | true => simp [bu, hA, he]
        | false => rw [he] at hmem; have := hb9.2 hmem; rw [hbf] at this; simp at this
end Go.Proofs.Yteheedbhmggcgaa
