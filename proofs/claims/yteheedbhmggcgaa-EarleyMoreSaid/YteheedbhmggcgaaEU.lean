import Derived.Test.YteheedbhmggcgaaES
namespace Go.Proofs.Yteheedbhmggcgaa
open Go Go.Vy Go.Proofs
set_option linter.unusedSimpArgs false
set_option linter.unusedVariables false
def PhiM (S bm b3 b4 : Nat) (v4 vd : Value) (h0 : Int) (np bq : Nat) (es : List (List Value)) : Fact
  | 0, v, _, _, _ => v = .pointer (some ⟨bm, 4, none⟩)
  | 1, v, _, _, _ => v = v4
  | 2, v, _, _, _ => v = .pointer (some ⟨b4, 0, none⟩)
  | 3, v, _, _, _ => v = .int .i64 h0
  | 4, v, _, _, _ => v = .pointer (some ⟨b3, 4, none⟩)
  | 5, v, _, _, _ => v = vd
  | 6, v, _, _, _ => v = .int .i64 np
  | 7, v, _, _, _ => ∃ j : Nat, v = .int .i64 j ∧ j < np
  | 8, v, _, _, _ => ∃ j : Nat, v = .pointer (some ⟨bq, j * 4, none⟩) ∧ j < np
  | 9, v, _, _, _ => ∃ (j : Nat) (h : j < es.length), v = .agg es[j].toArray
  | 10, v, _, _, H => ∃ b, S ≤ b ∧ v = .pointer (some ⟨b, 0, none⟩) ∧ H[b]? = some (row 44 [.int .i64 0, .slice none 0 0, .int .i64 0, .int .i64 0])
  | _, _, _, _, _ => True
set_option maxRecDepth 100000 in
theorem more_spec (H : Hp) (vt vl vp vn vd v : Value) (g : Gm) (l : List Int) (h0 h1 : Int) (hg : GV H vt vl vp vn vd g) (hv : RdI H v l) (hl : l.length ≤ 2 ^ 45) (hb : ∀ k ∈ l, -9223372036854775808 ≤ k ∧ k ≤ 9223372036854775807) (hh0 : -9223372036854775808 ≤ h0 ∧ h0 ≤ 9223372036854775807) (hh1 : -9223372036854775808 ≤ h1 ∧ h1 ≤ 9223372036854775807) (hpt : g.pats.length ≤ 2 ^ 43) :
    CallsV Try.prog 4 [.agg #[vt, vl, vp, vn, vd], .agg #[.int .i64 h0, .int .i64 h1], v].toArray H (fun r H' => r = .bool true ∧ Ext H H') := by
  have hgx := hg
  obtain ⟨at_, ct, al, cl, ap, cp, an, cn, ad, cd, rfl, rfl, rfl, rfl, rfl⟩ := hgx.lens
  have hpl := hg.fits.d
  refine calls_W (m := 109) Try.call4 Try.func4 rfl rfl (by decide +kernel) (by simp) ?_
  first | refine W_regK ?_ | refine W_seq (W_regK ?_)
  intro K hK; simp (maxSteps := 1000000) (disch := omega) only [BOps_nil, BOps_cons, Cont_eq, Bev, rd, ev, updO, upd, wantD, argf, optK_some, Nat.reduceEqDiff, ↓reduceIte, List.map, List.toList_toArray, Value.cells]
  generalize hcs : [Value.slice at_ g.nt ct, Value.slice al g.lev.length cl, Value.slice ap g.pats.length cp, Value.slice an g.nn cn, Value.slice ad g.prods.length cd] = cs
  have hE1 := ((Ext.refl H).push (row 27 cs)).push (row 39 [.int .i64 h0, .int .i64 h1])
  have hb1 := ((Ext.refl (H.push (row 27 cs))).push (row 39 [.int .i64 h0, .int .i64 h1])).get (get_new H (row 27 cs))
  have hh := get_new (H.push (row 27 cs)) (row 39 [.int .i64 h0, .int .i64 h1])
  generalize hk0 : H.size = b at hb1 ⊢
  generalize hk4 : (H.push (row 27 cs)).size = b4 at hh ⊢
  generalize (H.push (row 27 cs)).push (row 39 [.int .i64 h0, .int .i64 h1]) = H1 at *
  refine hK _ _ ?_; clear hK K
  first | refine W_regK ?_ | refine W_seq (W_regK ?_)
  intro K hK; simp (maxSteps := 1000000) (disch := omega) only [BOps_cons, Bev, ev, wantD, ↓reduceIte, List.map, List.map_toArray, List.append_toArray, List.append_nil]
  refine (works_spec H1).mono ?_
  rintro r H2 ⟨rfl, f1⟩
  try simp (maxSteps := 1000000) (disch := omega) only [BOps_nil, BOps_cons, Cont_eq, Bev, rd, ev, updO, upd, wantD, Bool.not_true, optK_some, ↓reduceIte]
  have hE2 := hE1.trans f1
  have hb2 := f1.get hb1
  have hh2 := f1.get hh
  have hg2 := hg.ext hE2
  refine hK _ _ ?_; clear hK K
  first | refine W_seq (W_cond_f (by simp only [ev]) ?_) | refine W_cond_f (by simp only [ev, upd, ↓reduceIte]) ?_
  refine W_skip ?_; try simp only [thenQ]
  have ag : Value.agg cs.toArray = .agg #[Value.slice at_ g.nt ct, Value.slice al g.lev.length cl, Value.slice ap g.pats.length cp, Value.slice an g.nn cn, Value.slice ad g.prods.length cd] := by rw [← hcs]
  have rd5 : ∀ H' : Hp, H'[b]? = some (row 27 cs) → ldn H' 5 ⟨b, 0, none⟩ = some cs := by
    intro H' h; rw [ldn_row h, ← hcs]; rfl
  have rd4 : ∀ H' : Hp, H'[b]? = some (row 27 cs) → ldc H' ⟨b, 4, none⟩ = some (Value.slice ad g.prods.length cd) ∧ ldc H' ⟨b, 3, none⟩ = some (Value.slice an g.nn cn) := by
    intro H' h; constructor <;> (rw [ldc_row h, ← hcs]; rfl)
  have l0 := rd5 H2 hb2
  first | refine W_regK ?_ | refine W_seq (W_regK ?_)
  intro K hK; simp (maxSteps := 1000000) (disch := omega) only [BOps_cons, Cont_eq, Bev, rd, ev, updO, upd, wantD, optK_some, Nat.reduceEqDiff, ↓reduceIte, List.map, List.map_toArray, List.append_toArray, List.append_nil, List.nil_append, Option.map_some, ld27, l0, ag]
  refine (check_spec H2 _ _ _ _ _ g hg2).mono ?_
  rintro r H3 ⟨f2, e, rfl, hC⟩
  have hE3 := hE2.trans f2
  have hb3 := f2.get hb2
  have hh3 := f2.get hh2
  have hg3 := hg.ext hE3
  by_cases c1 : e = 0
  rotate_left
  · have c1' : (e != 0) = true := bne_iff_ne.2 c1
    try simp (maxSteps := 1000000) (disch := omega) only [BOps_nil, BOps_cons, Cont_eq, Bev, rd, ev, updO, upd, wantD, List.getElem?_cons_succ, List.getElem?_cons_zero, vtf, bin, optK_some, Nat.reduceEqDiff, ↓reduceIte, ne_eq, not_true_eq_false, Bool.false_eq_true, c1']
    refine hK _ _ ?_; clear hK K
    first | refine W_seq (W_cond_t (by simp only [ev]) ?_) | refine W_cond_t (by simp only [ev, upd, ↓reduceIte]) ?_
    first | refine W_regK ?_ | refine W_seq (W_regK ?_)
    intro K hK; simp (maxSteps := 1000000) (disch := omega) only [BOps_nil, BOps_cons, Cont_eq, Bev, rd, ev, updO, wantD, optK_some, ↓reduceIte, List.map]
    refine hK _ _ ?_; clear hK K
    refine W_ret ?_; simp only [thenQ, retQ, Try.results4, resV1, Option.some.injEq, exists_eq_left', upd, ↓reduceIte, List.toList_toArray, true_and]
    exact hE3
  have c1' : (e != 0) = false := bne_eq_false_iff_eq.2 c1
  have hok := hC.zero.1 c1
  obtain ⟨l4, l3⟩ := rd4 H3 hb3
  by_cases c2 : (g.prods.length : Int) > 29
  · have c2' : decide ((g.prods.length : Int) > 29) = true := by simpa using c2
    try simp (maxSteps := 1000000) (disch := omega) only [BOps_nil, BOps_cons, Cont_eq, Bev, rd, rdB, ev, updO, upd, wantD, List.getElem?_cons_succ, List.getElem?_cons_zero, vff, bin, optK_some, lenV, Nat.reduceEqDiff, ↓reduceIte, List.map, ne_eq, not_true_eq_false, Bool.false_eq_true, Nat.zero_add, u25, ld25, fld27_4, c1', l4, c2']
    refine hK _ _ ?_; clear hK K
    first | refine W_seq (W_cond_t (by simp only [ev]) ?_) | refine W_cond_t (by simp only [ev, upd, ↓reduceIte]) ?_
    first | refine W_regK ?_ | refine W_seq (W_regK ?_)
    intro K hK; simp (maxSteps := 1000000) (disch := omega) only [BOps_nil, BOps_cons, Cont_eq, Bev, rd, ev, updO, wantD, optK_some, ↓reduceIte, List.map]
    refine hK _ _ ?_; clear hK K
    refine W_ret ?_; simp only [thenQ, retQ, Try.results4, resV1, Option.some.injEq, exists_eq_left', upd, ↓reduceIte, List.toList_toArray, true_and]
    exact hE3
  have c2' : decide ((g.prods.length : Int) > 29) = false := by simpa using c2
  have hnn := hok.sh.nn
  have hnn2 := hok.sh.nn2
  have hnp1 := hok.sh.np1
  try simp (maxSteps := 1000000) (disch := omega) only [BOps_nil, BOps_cons, Cont_eq, Bev, rd, rdB, ev, updO, upd, wantD, List.getElem?_cons_succ, List.getElem?_cons_zero, vff, bin, optK_some, lenV, Nat.reduceEqDiff, ↓reduceIte, List.map, ne_eq, not_true_eq_false, Bool.false_eq_true, Nat.zero_add, u25, ld25, fld27_4, c1', l4, c2']
  refine hK _ _ ?_; clear hK K
  first | refine W_seq (W_cond_f (by simp only [ev]) ?_) | refine W_cond_f (by simp only [ev, upd, ↓reduceIte]) ?_
  refine W_skip ?_; try simp only [thenQ]
  have l0 := rd5 H3 hb3
  first | refine W_regK ?_ | refine W_seq (W_regK ?_)
  intro K hK; simp (maxSteps := 1000000) (disch := omega) only [BOps_cons, Cont_eq, Bev, rd, ev, updO, upd, wantD, optK_some, Nat.reduceEqDiff, ↓reduceIte, List.map, List.map_toArray, List.append_toArray, List.append_nil, List.nil_append, Option.map_some, ld27, l0, ag]
  refine (copy_spec H3 _ _ _ _ _ g hg3 hok.sh hok.lv hpt).mono ?_
  rintro r H4 ⟨f3, v0, v1, v2, v3, v4, b3, Bd, es, rfl, hcp, hb3l, a0, n0, k0, a1, n1, k1, a2, n2, k2, a3, n3, k3, a4, n4, k4, rfl, rfl, rfl, rfl, rfl⟩
  have hE4 := hE3.trans f3
  have hb4 := f3.get hb3
  have hh4 := f3.get hh3
  have hst := stn_gram H4 (p1 := a0) (p2 := a1) (p3 := a2) (p4 := a3) (p5 := a4) (n1 := n0) (n2 := n1) (n3 := n2) (n4 := n3) (n5 := n4) (c1 := k0) (c2 := k1) (c3 := k2) (c4 := k3) (c5 := k4) (l := zc Try.prog 27) (by rw [zc27]; rfl)
  rw [zc27] at hst
  try simp (maxSteps := 1000000) (disch := omega) only [optH_some, BOps_nil, BOps_cons, Cont_eq, Bev, ev, updO, upd, wantD, optH_some, Nat.reduceEqDiff, ↓reduceIte, List.toList_toArray, Value.cells, List.size_toArray, List.length_cons, List.length_nil, Nat.reduceAdd, Nat.zero_add, hz27, st27, zc27, hz27, hst]
  have hE5 := hE4.push (row 27 [Value.slice a0 n0 k0, .slice a1 n1 k1, .slice a2 n2 k2, .slice a3 n3 k3, .slice a4 n4 k4])
  have e45 := (Ext.refl H4).push (row 27 [Value.slice a0 n0 k0, .slice a1 n1 k1, .slice a2 n2 k2, .slice a3 n3 k3, .slice a4 n4 k4])
  have hm5 := get_new H4 (row 27 [Value.slice a0 n0 k0, .slice a1 n1 k1, .slice a2 n2 k2, .slice a3 n3 k3, .slice a4 n4 k4])
  have hb5 := e45.get hb4
  have hh5 := e45.get hh4
  have hS4 : H3.size + 2 ≤ H4.size ∨ H3.size ≤ H4.size := .inr f3.size
  have hbm : b < H3.size := lt_of_get hb3
  have hbm4 : b4 < H3.size := lt_of_get hh3
  generalize hkm : H4.size = bm at hm5 ⊢
  clear hst
  generalize H4.push (row 27 [Value.slice a0 n0 k0, .slice a1 n1 k1, .slice a2 n2 k2, .slice a3 n3 k3, .slice a4 n4 k4]) = H5 at *
  refine hK _ _ ?_; clear hK K
  obtain ⟨kq, cq, sq, hBd, hv4, hle4, hrow4, hcap4⟩ : ∃ kq cq sq, Bd = some kq ∧ Value.slice a4 n4 k4 = .slice (some ⟨kq, 0, none⟩) g.prods.length cq ∧ g.prods.length ≤ cq ∧ H4[kq]? = some (row 44 (es.flatten ++ sq)) ∧ cq * 4 = es.flatten.length + sq.length := by
    obtain ⟨q1, ⟨q2, q3, q4⟩ | ⟨k, c, s, q2, q3, q4, q5, q6⟩⟩ := hcp.pd
    · omega
    · exact ⟨k, c, s, q2, q3, q4, q5, q6⟩
  injection hv4 with hv4a hv4b hv4c
  subst hv4a; subst hv4b; subst hv4c; subst hBd
  have hesl := hcp.pr.lens
  have hel := hcp.pr.len
  refine W_parK 11 100 Ext (PhiM H5.size bm b b4 (.slice (some ⟨kq, 0, none⟩) g.prods.length k4) (.slice ad g.prods.length cd) h0 g.prods.length kq es) mixed (by decide +kernel) .base ?_ ?_ ?_
  · intro i v lo hi Hx Hy hx hp
    have hx : Ext Hx Hy := by split at hx <;> exact hx
    match i, hp with
    | 0, hp | 1, hp | 2, hp | 3, hp | 4, hp | 5, hp | 6, hp | 7, hp | 8, hp | 9, hp => exact hp
    | 10, hp => obtain ⟨b, q0, q1, q2⟩ := hp; exact ⟨b, q0, q1, hx.get q2⟩
    | i + 11, hp => trivial
  · simp only [ParSteps, List.take_succ_cons, List.take_zero]
    refine ⟨?_, ?_, ?_, ?_, ?_, ?_, ?_, ?_, ?_, ?_, ?_, trivial⟩
    · intro f1 Hy hx hout hdep; simp [depsOf, Region.binds, DepFacts] at hdep
      have e7 : f1 7 = .pointer (some ⟨bm, 0, none⟩) := by rw [hout 7 (by decide +kernel)]; simp [upd]
      simp (maxSteps := 1000000) (disch := omega) only [wantB, Bev, rd, ev, optK_some, ↓reduceIte, reduceCtorEq, and_true, Nat.zero_add, fld27_4, e7, PhiM]
      exact .refl _
    · intro f1 Hy hx hout hdep; simp [depsOf, Region.binds, DepFacts, factAt, dstAt, PhiM] at hdep
      have hx : Ext H5 Hy := hx
      have lm : ldc Hy ⟨bm, 4, none⟩ = some (Value.slice (some ⟨kq, 0, none⟩) g.prods.length k4) := ldc_row (hx.get hm5) 4
      simp (maxSteps := 1000000) (disch := omega) only [wantB, Bev, rd, ev, optK_some, Nat.reduceEqDiff, ↓reduceIte, and_true, Nat.zero_add, ld25, hdep, PhiM, lm]
      exact .refl _
    · intro f1 Hy hx hout hdep; simp [depsOf, Region.binds, DepFacts] at hdep
      have e4 : f1 4 = .pointer (some ⟨b4, 0, none⟩) := by rw [hout 4 (by decide +kernel)]; simp [upd]
      simp (maxSteps := 1000000) (disch := omega) only [wantB, Bev, rd, ev, optK_some, Nat.reduceEqDiff, ↓reduceIte, inI_pos, and_true, Nat.reduceAdd, Nat.zero_add, Nat.add_zero, Nat.zero_mul, Int.toNat_zero, ixk39, e4, PhiM]
      exact .refl _
    · intro f1 Hy hx hout hdep; simp [depsOf, Region.binds, DepFacts, factAt, dstAt, PhiM] at hdep
      have hx : Ext H5 Hy := hx
      have lm : ldc Hy ⟨b4, 0, none⟩ = some (.int .i64 h0) := ldc_row (hx.get hh5) 0
      simp (maxSteps := 1000000) (disch := omega) only [wantB, Bev, rd, ev, optK_some, Nat.reduceEqDiff, ↓reduceIte, and_true, Nat.reduceAdd, Nat.zero_add, ld3, hdep, PhiM, lm]
      exact .refl _
    · intro f1 Hy hx hout hdep; simp [depsOf, Region.binds, DepFacts] at hdep
      have e3 : f1 3 = .pointer (some ⟨b, 0, none⟩) := by rw [hout 3 (by decide +kernel)]; simp [upd]
      simp (maxSteps := 1000000) (disch := omega) only [wantB, Bev, rd, ev, optK_some, Nat.reduceEqDiff, ↓reduceIte, and_true, Nat.reduceAdd, Nat.zero_add, fld27_4, e3, PhiM]
      exact .refl _
    · intro f1 Hy hx hout hdep; simp [depsOf, Region.binds, DepFacts, factAt, dstAt, PhiM] at hdep
      have hx : Ext H5 Hy := hx
      obtain ⟨lm, -⟩ := rd4 Hy (hx.get hb5)
      simp (maxSteps := 1000000) (disch := omega) only [wantB, Bev, rd, ev, optK_some, Nat.reduceEqDiff, ↓reduceIte, and_true, Nat.reduceAdd, Nat.zero_add, ld25, hdep, PhiM, lm]
      exact .refl _
    · intro f1 Hy hx hout hdep; simp [depsOf, Region.binds, DepFacts, factAt, dstAt, PhiM] at hdep
      simp (maxSteps := 1000000) (disch := omega) only [wantB, Bev, rdB, ev, optK_some, lenV, Nat.reduceEqDiff, ↓reduceIte, List.map, and_true, Nat.reduceAdd, Nat.zero_add, u25, hdep, PhiM]
      exact .refl _
    · intro f1 Hy hx hout hdep; simp [depsOf, Region.binds, DepFacts, factAt, dstAt, PhiM] at hdep
      simp (maxSteps := 1000000) (disch := omega) only [wantB, Bev, ev, Nat.reduceEqDiff, ↓reduceIte, List.map, List.map_toArray, List.append_toArray, List.append_nil, List.nil_append, Nat.reduceAdd, Nat.zero_add, hdep.1, hdep.2, PhiM]
      refine (bring_spec Hy h0 g.prods.length hh0.1 hh0.2 (by omega)).mono ?_
      rintro r H' ⟨rfl, j, rfl, -, hj⟩
      have hj := hj (by omega)
      exact ⟨.refl _, j.toNat, by rw [Int.toNat_of_nonneg hj.1], by omega⟩
    · intro f1 Hy hx hout hdep; simp [depsOf, Region.binds, DepFacts, factAt, dstAt, PhiM] at hdep
      obtain ⟨d1, j, d2, hj⟩ := hdep
      simp (maxSteps := 1000000) (disch := omega) only [wantB, Bev, rd, ev, optK_some, Nat.reduceEqDiff, ↓reduceIte, inI_pos, Nat.reduceAdd, Nat.zero_add, ixk25, d1, d2, PhiM, Int.toNat_natCast]
      exact ⟨.refl _, j, rfl, hj⟩
    · intro f1 Hy hx hout hdep; simp [depsOf, Region.binds, DepFacts, factAt, dstAt, PhiM] at hdep
      have hx : Ext H5 Hy := hx
      obtain ⟨j, d2, hj⟩ := hdep
      have hje : j < es.length := by omega
      have lm : ldn Hy 4 ⟨kq, j * 4, none⟩ = some es[j] := by
        have hfl := flat_length es hesl
        have : j * 4 + 4 ≤ es.length * 4 := by omega
        rw [ldn_row (hx.get (e45.get hrow4)), if_pos (by rw [List.length_append]; omega), List.drop_append, List.take_append_of_le_length (by rw [List.length_drop]; omega), flat_at es j hje hesl]
      simp (maxSteps := 1000000) (disch := omega) only [wantB, Bev, rd, ev, optK_some, Nat.reduceEqDiff, ↓reduceIte, Option.map_some, Nat.reduceAdd, Nat.zero_add, ld44, d2, PhiM, lm]
      exact ⟨.refl _, j, hje, rfl⟩
    · intro f1 Hy hx hout hdep; simp [depsOf, Region.binds, DepFacts] at hdep
      have hx : Ext H5 Hy := hx
      simp (maxSteps := 1000000) (disch := omega) only [wantB, Bev, Nat.reduceEqDiff, ↓reduceIte, Nat.reduceAdd, Nat.zero_add, hz44, zc44, PhiM, hz44]
      exact ⟨(Ext.refl _).push _, Hy.size, hx.size, rfl, get_new _ _⟩
  intro K hK fz H6 lo hi hxx hout hff hdis
  have hf9 := (hff 9 (by omega)).1
  have hf10 := (hff 10 (by omega)).1
  simp [factAt, dstAt, PhiM] at hf9 hf10
  have hxx : Ext H5 H6 := hxx
  obtain ⟨j, hje, e40⟩ := hf9
  obtain ⟨bx, hbx, e8, hbxr⟩ := hf10
  obtain ⟨r, Br, hesj, hro, hrB⟩ := hcp.pr.each j hje (by omega)
  rw [hesj] at e40
  generalize hpj : g.prods[j] = pj at *
  have hpm : pj ∈ g.prods := by rw [← hpj]; exact List.getElem_mem _
  obtain ⟨rA, rC, rfl⟩ : ∃ a c, r = .slice a pj.rhs.length c := by
    obtain ⟨_, ⟨_, q, q2⟩ | ⟨k, cap, sp, _, q, _⟩⟩ := hro
    · exact ⟨_, _, by rw [q, q2]⟩
    · exact ⟨_, _, q⟩
  have hst8 : stn H6 ⟨bx, 0, none⟩ [.int .i64 pj.left, .slice rA pj.rhs.length rC, .int .i64 pj.ln, .int .i64 pj.lk] = some (H6.setIfInBounds bx (row 44 [.int .i64 pj.left, .slice rA pj.rhs.length rC, .int .i64 pj.ln, .int .i64 pj.lk])) := by
    rw [stn_row hbxr (by simp) rfl]; rfl
  simp only [List.drop_succ_cons, List.drop_zero]
  try simp (maxSteps := 1000000) (disch := omega) only [optH_some, BOps_nil, BOps_cons, Cont_eq, Bev, ev, updO, wantD, optH_some, ↓reduceIte, List.map, List.toList_toArray, Value.cells, List.size_toArray, List.length_cons, List.length_nil, Nat.reduceAdd, Nat.zero_add, st44, e40, e8, hst8]
  have e3 : fz 3 = .pointer (some ⟨b, 0, none⟩) := by rw [hout 3 (by decide +kernel)]; simp [upd]
  have e4 : fz 4 = .pointer (some ⟨b4, 0, none⟩) := by rw [hout 4 (by decide +kernel)]; simp [upd]
  have e2 : fz 2 = v := by rw [hout 2 (by decide +kernel)]; simp [upd, argf]
  have e7 : fz 7 = .pointer (some ⟨bm, 0, none⟩) := by rw [hout 7 (by decide +kernel)]; simp [upd]
  have h45 := e45.size
  have hbm5 : bm < H5.size := lt_of_get hm5
  have hE6 := (hE5.trans hxx).set (show H.size ≤ bx by have := hE5.size; omega) (row 44 [.int .i64 pj.left, .slice rA pj.rhs.length rC, .int .i64 pj.ln, .int .i64 pj.lk])
  have hx7 := get_set (lt_of_get hbxr) (row 44 [.int .i64 pj.left, .slice rA pj.rhs.length rC, .int .i64 pj.ln, .int .i64 pj.lk])
  have hk7 : ∀ c, c < H5.size → (H6.setIfInBounds bx (row 44 [.int .i64 pj.left, .slice rA pj.rhs.length rC, .int .i64 pj.ln, .int .i64 pj.lk]))[c]? = H5[c]? := fun c hc => (get_set_ne (by omega) _).trans (hxx.blk c hc)
  have hs7 : (H6.setIfInBounds bx (row 44 [.int .i64 pj.left, .slice rA pj.rhs.length rC, .int .i64 pj.ln, .int .i64 pj.lk])).size = H6.size := by simp
  have hbx6 := lt_of_get hbxr
  generalize H6.setIfInBounds bx _ = H7 at *
  refine hK _ _ ?_; clear hK K
  have hm7 := (hk7 bm hbm5).trans hm5
  have hb7 := (hk7 b (lt_of_get hb5)).trans hb5
  have hh7 := (hk7 b4 (lt_of_get hh5)).trans hh5
  have lh : ldc H7 ⟨b4, 1, none⟩ = some (.int .i64 h1) := ldc_row hh7 1
  obtain ⟨-, ln3⟩ := rd4 H7 hb7
  first | refine W_regK ?_ | refine W_seq (W_regK ?_)
  intro K hK; simp (maxSteps := 1000000) (disch := omega) only [BOps_cons, Cont_eq, Bev, rd, rdB, ev, updO, upd, wantD, bin, optK_some, lenV, Nat.reduceEqDiff, ↓reduceIte, List.map, List.map_toArray, ne_eq, not_true_eq_false, inI_pos, wrapi, List.append_toArray, List.append_nil, List.nil_append, Nat.reduceMul, Nat.zero_add, Int.reduceToNat, ld3, u22, ld22, fld27_3, ixk39, e3, e4, lh, ln3]
  refine (bring_spec H7 h1 ((g.nn : Int) - 1) hh1.1 hh1.2 (by omega)).mono ?_
  rintro r H7' ⟨rfl, k, rfl, -, hk⟩
  have hk := hk (by omega)
  have hst9 : stn H7' ⟨bx, 0, none⟩ [.int .i64 (1 + k)] = some (H7'.setIfInBounds bx (row 44 [.int .i64 (1 + k), .slice rA pj.rhs.length rC, .int .i64 pj.ln, .int .i64 pj.lk])) := by
    rw [stn_row hx7 (by simp) rfl]; rfl
  try simp (maxSteps := 1000000) (disch := omega) only [optH_some, BOps_nil, BOps_cons, Cont_eq, Bev, rd, ev, updO, upd, wantD, bin, optK_some, optH_some, Nat.reduceEqDiff, ↓reduceIte, List.toList_toArray, ne_eq, not_true_eq_false, wrapi, Value.cells, List.size_toArray, List.length_cons, List.length_nil, Nat.zero_add, Nat.add_zero, st3, fld44_0, e8, hst9]
  have hE7 := hE6.set (show H.size ≤ bx by have := hE5.size; omega) (row 44 [.int .i64 (1 + k), .slice rA pj.rhs.length rC, .int .i64 pj.ln, .int .i64 pj.lk])
  have hx8 := get_set (lt_of_get hx7) (row 44 [.int .i64 (1 + k), .slice rA pj.rhs.length rC, .int .i64 pj.ln, .int .i64 pj.lk])
  have hk8 : ∀ c, c < H5.size → (H7'.setIfInBounds bx (row 44 [.int .i64 (1 + k), .slice rA pj.rhs.length rC, .int .i64 pj.ln, .int .i64 pj.lk]))[c]? = H5[c]? := fun c hc => (get_set_ne (by omega) _).trans (hk7 c hc)
  have hs8 : (H7'.setIfInBounds bx (row 44 [.int .i64 (1 + k), .slice rA pj.rhs.length rC, .int .i64 pj.ln, .int .i64 pj.lk])).size = H7'.size := by simp
  have h67 := hxx.size
  generalize H7'.setIfInBounds bx _ = H8 at *
  refine hK _ _ ?_; clear hK K
  have hm8 := (hk8 bm hbm5).trans hm5
  have hb8 := (hk8 b (lt_of_get hb5)).trans hb5
  have lm8 : ldc H8 ⟨bm, 4, none⟩ = some (Value.slice (some ⟨kq, 0, none⟩) g.prods.length k4) := ldc_row hm8 4
  have lx8 : ldn H8 4 ⟨bx, 0, none⟩ = some [.int .i64 (1 + k), .slice rA pj.rhs.length rC, .int .i64 pj.ln, .int .i64 pj.lk] := by rw [ldn_row hx8]; rfl
  first | refine W_regK ?_ | refine W_seq (W_regK ?_)
  intro K hK; simp (maxSteps := 1000000) (disch := omega) only [BOps_cons, Cont_eq, Bev, rd, ev, updO, upd, wantD, optK_some, Nat.reduceEqDiff, ↓reduceIte, List.map, Option.map_some, Nat.zero_add, u25, ld25, fld27_4, ld44, e7, e8, lm8, lx8, bsl25_1]
  have hE9 := (Ext.refl H8).push (row 44 [.int .i64 (1 + k), .slice rA pj.rhs.length rC, .int .i64 pj.ln, .int .i64 pj.lk])
  have hcell : cellsOfSl (H8.push (row 44 [.int .i64 (1 + k), .slice rA pj.rhs.length rC, .int .i64 pj.ln, .int .i64 pj.lk])) 4 (.slice (some ⟨H8.size, 0, none⟩) 1 1) = some (1, [.int .i64 (1 + k), .slice rA pj.rhs.length rC, .int .i64 pj.ln, .int .i64 pj.lk]) := by
    simp [cellsOfSl, row]
  have hs9 : (H8.push (row 44 [.int .i64 (1 + k), .slice rA pj.rhs.length rC, .int .i64 pj.ln, .int .i64 pj.lk])).size = H8.size + 1 := by simp
  have hk9 : ∀ c, c < H5.size → (H8.push (row 44 [.int .i64 (1 + k), .slice rA pj.rhs.length rC, .int .i64 pj.ln, .int .i64 pj.lk]))[c]? = H5[c]? := fun c hc => (hE9.blk c (by omega)).trans (hk8 c hc)
  generalize H8.push _ = H9 at *
  have hpd9 : Own H9 (.slice (some ⟨kq, 0, none⟩) g.prods.length k4) 44 4 g.prods.length es.flatten (some kq) := hcp.pd.keep fun c e => by
    have := hcp.pd.lt c e
    rw [hk9 c (by omega), e45.blk c this]
  refine appK_own slT25 hpd9 hcell rfl ?_ hz44 (by rw [zc44]; rfl) (by omega) (by omega) ?_
  · intro y hy; simp at hy; rcases hy with rfl | rfl | rfl | rfl <;> rfl
  intro v4' H10 Bd' hpd10 hf10 hBd10
  obtain ⟨a4', n4', c4', e4v⟩ : ∃ a n c, v4' = .slice a n c := by
    obtain ⟨_, ⟨_, q, _⟩ | ⟨k, cap, sp, _, q, _⟩⟩ := hpd10
    · exact ⟨_, _, _, q⟩
    · exact ⟨_, _, _, q⟩
  subst e4v
  have hkq4 : kq < H4.size := hcp.pd.lt kq rfl
  have hm10 := hf10.get (hE9.get hm8) (fun e => by injection e with e; omega)
  have hst11 : stn H10 ⟨bm, 4, none⟩ [.slice a4' n4' c4'] = some (H10.setIfInBounds bm (row 27 [Value.slice a0 n0 k0, .slice a1 n1 k1, .slice a2 n2 k2, .slice a3 n3 k3, .slice a4' n4' c4'])) := by
    rw [stn_row hm10 (by simp) rfl]; rfl
  try simp (maxSteps := 1000000) (disch := omega) only [optH_some, BOps_nil, BOps_cons, Cont_eq, Bev, rd, ev, updO, upd, wantD, optK_some, optH_some, Nat.reduceEqDiff, ↓reduceIte, List.toList_toArray, Value.cells, List.size_toArray, List.length_cons, List.length_nil, Nat.zero_add, st25, fld27_4, e7, hst11]
  have hkqS := (hcp.bd kq rfl).1
  have hE11 := (Ext.frm (hE7.trans hE9) hf10 (fun c e => by injection e with e; have := hE3.size; omega)).set (show H.size ≤ bm by have := hE4.size; omega) (row 27 [Value.slice a0 n0 k0, .slice a1 n1 k1, .slice a2 n2 k2, .slice a3 n3 k3, .slice a4' n4' c4'])
  have hm11 := get_set (lt_of_get hm10) (row 27 [Value.slice a0 n0 k0, .slice a1 n1 k1, .slice a2 n2 k2, .slice a3 n3 k3, .slice a4' n4' c4'])
  have hb11 := (get_set_ne (show bm ≠ b by have := f3.size; omega) (row 27 [Value.slice a0 n0 k0, .slice a1 n1 k1, .slice a2 n2 k2, .slice a3 n3 k3, .slice a4' n4' c4'])).trans (hf10.get (hE9.get hb8) (fun e => by injection e with e; omega))
  have hBd' : Bd' = some kq ∨ ∃ nb, H4.size ≤ nb ∧ Bd' = some nb := by
    rcases hBd10 with q | q
    · exact .inl q
    · exact .inr ⟨H9.size, by omega, q⟩
  have hpd11 := hpd10.keep (H' := H10.setIfInBounds bm (row 27 [Value.slice a0 n0 k0, .slice a1 n1 k1, .slice a2 n2 k2, .slice a3 n3 k3, .slice a4' n4' c4'])) fun c e => get_set_ne (by
    rcases hBd10 with q | q
    · rw [q] at e; injection e with e; omega
    · rw [q] at e; injection e with e; omega) _
  have hcp11 := hcp.more (H' := H10.setIfInBounds bm (row 27 [Value.slice a0 n0 k0, .slice a1 n1 k1, .slice a2 n2 k2, .slice a3 n3 k3, .slice a4' n4' c4'])) (v4' := .slice a4' n4' c4') (p := ⟨1 + k, pj.rhs, pj.ln, pj.lk⟩) (r := .slice rA pj.rhs.length rC) (B := Br) (Bd' := Bd') ?_ hb3l ?_ hBd' ?_ ?_ ?_
  rotate_left
  · omega
  · intro c q1 q2 q3
    rw [get_set_ne (by omega), hf10.blk c (by omega) q3, hk9 c (by omega), e45.blk c q1]
  · refine hro.keep fun c e => ?_
    have q1 := hro.lt c e
    rw [get_set_ne (by omega), hf10.blk c (by omega) (hrB c e).2.2, hk9 c (by omega), e45.blk c q1]
  · intro c e
    refine ⟨(hrB c e).1, (hrB c e).2.1, ?_⟩
    rcases hBd' with q | ⟨nb, q1, q⟩
    · rw [q]; exact (hrB c e).2.2
    · rw [q]; intro q2; injection q2 with q2; have := hro.lt c e; omega
  · exact hpd11
  have hfitq : Gm.Fits { g with prods := g.prods ++ [⟨1 + k, pj.rhs, pj.ln, pj.lk⟩] } := by
    refine ⟨hg.fits.t, hg.fits.l, hg.fits.p, hg.fits.n, by simp; omega, ?_, hg.fits.t1, hg.fits.n1, hg.fits.p1⟩
    intro p hp
    rcases List.mem_append.1 hp with hp | hp
    · exact hg.fits.r p hp
    · simp at hp; subst hp; exact hg.fits.r pj hpm
  have hgq := hcp11.gv (fun l hl => by obtain ⟨i, hi, rfl⟩ := List.getElem_of_mem hl; exact hg.p.len i hi) hfitq
  have hgq : GV (H10.setIfInBounds bm (row 27 [Value.slice a0 n0 k0, .slice a1 n1 k1, .slice a2 n2 k2, .slice a3 n3 k3, .slice a4' n4' c4'])) (.slice a0 n0 k0) (.slice a1 n1 k1) (.slice a2 n2 k2) (.slice a3 n3 k3) (.slice a4' n4' c4') (plusG g ⟨1 + k, pj.rhs, pj.ln, pj.lk⟩) := hgq
  clear hcp11 hpd11 hcp hpd9 hpd10 hm10 hst11
  have hokq : GOk (plusG g ⟨1 + k, pj.rhs, pj.ln, pj.lk⟩) := gok_plus hok (by omega) ⟨by simp only; omega, by simp only; omega⟩ (hok.sh.rl pj hpm) (hok.sh.sym pj hpm) (hok.pb pj hpm)
  generalize (⟨1 + k, pj.rhs, pj.ln, pj.lk⟩ : Pr) = q at *
  generalize H10.setIfInBounds bm _ = H11 at *
  refine hK _ _ ?_; clear hK K
  have agm : ∀ (H' : Hp), H'[bm]? = some (row 27 [Value.slice a0 n0 k0, .slice a1 n1 k1, .slice a2 n2 k2, .slice a3 n3 k3, .slice a4' n4' c4']) → ldn H' 5 ⟨bm, 0, none⟩ = some [Value.slice a0 n0 k0, .slice a1 n1 k1, .slice a2 n2 k2, .slice a3 n3 k3, .slice a4' n4' c4'] := by
    intro H' h; rw [ldn_row h]; rfl
  have hg11 := hg.ext hE11
  have l0 := rd5 H11 hb11
  first | refine W_regK ?_ | refine W_seq (W_regK ?_)
  intro K hK; simp (maxSteps := 1000000) (disch := omega) only [BOps_cons, Cont_eq, Bev, rd, ev, updO, upd, wantD, optK_some, Nat.reduceEqDiff, ↓reduceIte, List.map, List.map_toArray, List.append_toArray, List.append_nil, List.nil_append, Option.map_some, ld27, l0, ag, e2, e3]
  refine (terms_spec H11 _ _ _ _ _ v g l 12 (by omega) hg11 (hv.ext hE11) hl hb).mono ?_
  rintro r H12 ⟨f4, ks, hks, hto⟩
  have hE12 := hE11.trans f4
  have hb12 := f4.get hb11
  have hm12 := f4.get hm11
  have hg12 := hg.ext hE12
  have hgq12 := hgq.ext f4
  obtain ⟨ka, kc, rfl⟩ := hks.opn'
  have hkl := hto.len
  have hkok : KOk g ks := ⟨by omega, hto.ok⟩
  have hkokq : KOk (plusG g q) ks := ⟨by omega, hto.ok⟩
  try simp (maxSteps := 1000000) (disch := omega) only [BOps_nil, BOps_cons, Cont_eq, Bev, rd, ev, updO, upd, wantD, optK_some, ↓reduceIte]
  refine hK _ _ ?_; clear hK K
  have l0 := rd5 H12 hb12
  first | refine W_regK ?_ | refine W_seq (W_regK ?_)
  intro K hK; simp (maxSteps := 1000000) (disch := omega) only [BOps_cons, Cont_eq, Bev, rd, ev, updO, upd, wantD, optK_some, Nat.reduceEqDiff, ↓reduceIte, List.map, List.map_toArray, List.append_toArray, List.append_nil, List.nil_append, Option.map_some, ld27, l0, ag, e3]
  refine (counts_ok hg12 hks hok hkok).mono ?_
  rintro r H13 ⟨f5, W, hW, rfl⟩
  have hE13 := hE12.trans f5
  have hb13 := f5.get hb12
  have hm13 := f5.get hm12
  have hg13 := hg.ext hE13
  have hgq13 := hgq12.ext f5
  have hks13 := RdI.ext f5 hks
  try simp (maxSteps := 1000000) (disch := omega) only [List.getElem?_toArray, BOps_nil, BOps_cons, Cont_eq, Bev, rd, ev, updO, upd, wantD, List.getElem?_cons_succ, List.getElem?_cons_zero, optK_some, Nat.reduceEqDiff, ↓reduceIte]
  refine hK _ _ ?_; clear hK K
  have l0 := agm H13 hm13
  first | refine W_regK ?_ | refine W_seq (W_regK ?_)
  intro K hK; simp (maxSteps := 1000000) (disch := omega) only [BOps_cons, Cont_eq, Bev, rd, ev, updO, upd, wantD, optK_some, Nat.reduceEqDiff, ↓reduceIte, List.map, List.map_toArray, List.append_toArray, List.append_nil, List.nil_append, Option.map_some, ld27, l0, e7]
  refine (counts_ok hgq13 hks13 hokq hkokq).mono ?_
  rintro r H14 ⟨f6, W', hW', rfl⟩
  have hE14 := hE13.trans f6
  have hb14 := f6.get hb13
  have hm14 := f6.get hm13
  have hg14 := hg.ext hE14
  have hgq14 := hgq13.ext f6
  have hks14 := RdI.ext f6 hks13
  try simp (maxSteps := 1000000) (disch := omega) only [List.getElem?_toArray, BOps_nil, BOps_cons, Cont_eq, Bev, rd, ev, updO, upd, wantD, List.getElem?_cons_succ, List.getElem?_cons_zero, optK_some, Nat.reduceEqDiff, ↓reduceIte]
  refine hK _ _ ?_; clear hK K
  have l0 := rd5 H14 hb14
  first | refine W_regK ?_ | refine W_seq (W_regK ?_)
  intro K hK; simp (maxSteps := 1000000) (disch := omega) only [BOps_cons, Cont_eq, Bev, rd, ev, updO, upd, wantD, optK_some, Nat.reduceEqDiff, ↓reduceIte, List.map, List.map_toArray, List.append_toArray, List.append_nil, List.nil_append, Option.map_some, ld27, l0, ag, e3]
  refine (viable_ok hg14 hks14 hok hkok).mono ?_
  rintro r H15 ⟨f7, rfl⟩
  have hE15 := hE14.trans f7
  have hb15 := f7.get hb14
  have hm15 := f7.get hm14
  have hgq15 := hgq14.ext f7
  have hks15 := RdI.ext f7 hks14
  try simp (maxSteps := 1000000) (disch := omega) only [List.getElem?_toArray, BOps_nil, BOps_cons, Cont_eq, Bev, rd, ev, updO, upd, wantD, List.getElem?_cons_succ, List.getElem?_cons_zero, optK_some, Nat.reduceEqDiff, ↓reduceIte]
  refine hK _ _ ?_; clear hK K
  have l0 := agm H15 hm15
  first | refine W_regK ?_ | refine W_seq (W_regK ?_)
  intro K hK; simp (maxSteps := 1000000) (disch := omega) only [BOps_cons, Cont_eq, Bev, rd, ev, updO, upd, wantD, optK_some, Nat.reduceEqDiff, ↓reduceIte, List.map, List.map_toArray, List.append_toArray, List.append_nil, List.nil_append, Option.map_some, ld27, l0, e7]
  refine (viable_ok hgq15 hks15 hokq hkokq).mono ?_
  rintro r H16 ⟨f8, rfl⟩
  have hE16 := hE15.trans f8
  try simp (maxSteps := 1000000) (disch := omega) only [List.getElem?_toArray, BOps_nil, BOps_cons, Cont_eq, Bev, rd, ev, updO, upd, wantD, List.getElem?_cons_succ, List.getElem?_cons_zero, optK_some, Nat.reduceEqDiff, ↓reduceIte]
  refine hK _ _ ?_; clear hK K
  have w1 : decide (W' ⟨0, 0, ks.length⟩ ≥ W ⟨0, 0, ks.length⟩) = true := by simpa using lst_plus hW hW' ⟨0, 0, ks.length⟩
  have q2 : viaB g ks = true → viaB (plusG g q) ks = true := fun h => by
    obtain ⟨x, hx⟩ := (viaB_iff g ks).1 h
    exact (viaB_iff _ ks).2 ⟨x, hx.plus hok.sh hkok.2⟩
  cases d2 : viaB g ks <;> cases d3 : viaB (plusG g q) ks <;> rw [d2, d3] at q2 <;> (try (exfalso; simp at q2; done))
  all_goals
    first | refine W_regK ?_ | refine W_seq (W_regK ?_)
    intro K hK; simp (maxSteps := 1000000) (disch := omega) only [BOps_nil, BOps_cons, Cont_eq, Bev, rd, ev, updO, upd, wantD, List.getElem?_cons_succ, List.getElem?_cons_zero, vtf, Bool.not_true, Bool.not_false, bin, optK_some, Nat.reduceEqDiff, ↓reduceIte, List.map, ne_eq, not_true_eq_false, Bool.false_eq_true, w1, beq_self_eq_true]
    refine hK _ _ ?_; clear hK K
    refine W_ret ?_; simp only [retQ, Try.results4, resV1, Option.some.injEq, exists_eq_left', upd, ↓reduceIte, List.toList_toArray, true_and]
    exact hE16
end Go.Proofs.Yteheedbhmggcgaa
