import Derived.Test.YteheedbhmggcgaaE2
namespace Go.Proofs.Yteheedbhmggcgaa
open Go Go.Vy Go.Proofs
set_option linter.unusedSimpArgs false
set_option linter.unusedVariables false
def Long (g : Gm) : Prop := g.nt > 48 ∨ g.nn > 48 ∨ g.prods.length > 128 ∨ ∃ p ∈ g.prods, p.rhs.length > 12
theorem limits_spec (H : Hp) (vt vl vp vn vd : Value) (g : Gm) (hg : GV H vt vl vp vn vd g) :
    CallsV Try.prog 17 [.agg #[vt, vl, vp, vn, vd]].toArray H (fun r H' => Ext H H' ∧ ∃ b : Bool, r = .bool b ∧ (b = true ↔ Long g)) := by
  obtain ⟨at_, ct, al, cl, ap, cp, an, cn, ad, cd, rfl, rfl, rfl, rfl, rfl⟩ := hg.lens
  refine calls_W (m := 24) Try.call17 Try.func17 rfl rfl (by decide +kernel) (by simp) ?_
  first | refine W_regK ?_ | refine W_seq (W_regK ?_)
  intro K hK; simp (maxSteps := 1000000) (disch := omega) only [BOps_nil, BOps_cons, Cont_eq, Bev, rd, ev, updO, wantD, argf, optK_some, ↓reduceIte, List.map, List.toList_toArray, Value.cells]
  generalize hcs : [Value.slice at_ g.nt ct, Value.slice al g.lev.length cl, Value.slice ap g.pats.length cp, Value.slice an g.nn cn, Value.slice ad g.prods.length cd] = cs
  have hE := (Ext.refl H).push (row 27 cs)
  have hb := get_new H (row 27 cs)
  have hg1 := hg.ext hE
  generalize hk0 : H.size = k0 at *
  generalize H.push _ = H1 at *
  refine hK _ _ ?_; clear hK K
  have l0 : ldc H1 ⟨k0, 0, none⟩ = some (.slice at_ g.nt ct) := by rw [ldc_row hb, ← hcs]; rfl
  have l3 : ldc H1 ⟨k0, 3, none⟩ = some (.slice an g.nn cn) := by rw [ldc_row hb, ← hcs]; rfl
  have l4 : ldc H1 ⟨k0, 4, none⟩ = some (.slice ad g.prods.length cd) := by rw [ldc_row hb, ← hcs]; rfl
  by_cases c1 : (g.nt : Int) > 48
  · have c1' : decide ((g.nt : Int) > 48) = true := by simpa using c1
    first | refine W_regK ?_ | refine W_seq (W_regK ?_)
    intro K hK; simp (maxSteps := 1000000) (disch := omega) only [BOps_nil, BOps_cons, Cont_eq, Bev, rd, rdB, ev, updO, upd, wantD, List.getElem?_cons_succ, List.getElem?_cons_zero, vtf, bin, optK_some, lenV, Nat.reduceEqDiff, ↓reduceIte, List.map, ne_eq, not_true_eq_false, Bool.false_eq_true, Nat.add_zero, u22, ld22, fld27_0, l0, c1']
    refine hK _ _ ?_; clear hK K
    refine W_ret ?_; simp only [retQ, Try.results17, resV1, Option.some.injEq, exists_eq_left', upd, ↓reduceIte, List.toList_toArray]
    exact ⟨hE, true, rfl, fun _ => .inl (by omega), fun _ => rfl⟩
  have c1' : decide ((g.nt : Int) > 48) = false := by simpa using c1
  by_cases c2 : (g.nn : Int) > 48
  · have c2' : decide ((g.nn : Int) > 48) = true := by simpa using c2
    first | refine W_regK ?_ | refine W_seq (W_regK ?_)
    intro K hK; simp (maxSteps := 1000000) (disch := omega) only [BOps_nil, BOps_cons, Cont_eq, Bev, rd, rdB, ev, updO, upd, wantD, List.getElem?_cons_succ, List.getElem?_cons_zero, vtf, vff, bin, optK_some, lenV, Nat.reduceEqDiff, ↓reduceIte, List.map, ne_eq, not_true_eq_false, Bool.false_eq_true, Nat.zero_add, Nat.add_zero, u22, ld22, fld27_0, fld27_3, l0, l3, c1', c2']
    refine hK _ _ ?_; clear hK K
    refine W_ret ?_; simp only [retQ, Try.results17, resV1, Option.some.injEq, exists_eq_left', upd, ↓reduceIte, List.toList_toArray]
    exact ⟨hE, true, rfl, fun _ => .inr (.inl (by omega)), fun _ => rfl⟩
  have c2' : decide ((g.nn : Int) > 48) = false := by simpa using c2
  by_cases c3 : (g.prods.length : Int) > 128
  · have c3' : decide ((g.prods.length : Int) > 128) = true := by simpa using c3
    first | refine W_regK ?_ | refine W_seq (W_regK ?_)
    intro K hK; simp (maxSteps := 1000000) (disch := omega) only [BOps_nil, BOps_cons, Cont_eq, Bev, rd, rdB, ev, updO, upd, wantD, List.getElem?_cons_succ, List.getElem?_cons_zero, vtf, vff, bin, optK_some, lenV, Nat.reduceEqDiff, ↓reduceIte, List.map, ne_eq, not_true_eq_false, Bool.false_eq_true, Nat.zero_add, Nat.add_zero, u22, ld22, u25, ld25, fld27_0, fld27_3, fld27_4, l0, l3, l4, c1', c2', c3']
    refine hK _ _ ?_; clear hK K
    refine W_ret ?_; simp only [retQ, Try.results17, resV1, Option.some.injEq, exists_eq_left', upd, ↓reduceIte, List.toList_toArray]
    exact ⟨hE, true, rfl, fun _ => .inr (.inr (.inl (by omega))), fun _ => rfl⟩
  have c3' : decide ((g.prods.length : Int) > 128) = false := by simpa using c3
  first | refine W_regK ?_ | refine W_seq (W_regK ?_)
  intro K hK; simp (maxSteps := 1000000) (disch := omega) only [BOps_cons, Cont_eq, Bev, rd, rdB, ev, updO, upd, wantD, List.getElem?_cons_succ, List.getElem?_cons_zero, vff, bin, optK_some, lenV, Nat.reduceEqDiff, ↓reduceIte, List.map, List.map_toArray, ne_eq, not_true_eq_false, List.append_toArray, List.append_nil, List.nil_append, Bool.false_eq_true, Nat.zero_add, Nat.add_zero, u22, ld22, u25, ld25, fld27_0, fld27_3, fld27_4, l0, l3, l4, c1', c2', c3']
  obtain ⟨es, h1, h2, h3⟩ := hg1.d
  have hfit := hg.fits.d
  refine (contains_prod H1 _ es 28 #[] #[] (fun i => decide (((gp g i).rhs.length : Int) > 12)) h1 (by omega) ?_).mono ?_
  · intro H' hE' i hi
    have hp := h3 i hi (by omega)
    rw [← gp_nat g i (by omega)] at hp
    refine (limits1_spec H' es[i] (gp g i) (hp.ext hE') (hg.fits.r _ (gp_mem (by omega) (by omega)))).mono ?_
    rintro r H2 ⟨rfl, hE2⟩
    exact ⟨rfl, hE2⟩
  rintro r H2 ⟨hE2, b, rfl, hb2⟩
  simp (maxSteps := 1000000) (disch := omega) only [BOps_nil, BOps_cons, Cont_eq, Bev, rd, ev, updO, upd, wantD, optK_some, Nat.reduceEqDiff, ↓reduceIte, Bool.false_eq_true]
  refine hK _ _ ?_; clear hK K
  refine W_ret ?_; simp only [retQ, Try.results17, resV1, Option.some.injEq, exists_eq_left', upd, ↓reduceIte, List.toList_toArray]
  refine ⟨hE.trans hE2, b, rfl, ?_⟩
  rw [hb2]
  constructor
  · rintro ⟨j, hj, hp⟩
    exact .inr (.inr (.inr ⟨gp g j, gp_mem (by omega) (by omega), by simp at hp; omega⟩))
  · rintro (h | h | h | ⟨p, hp, h⟩)
    · omega
    · omega
    · omega
    · obtain ⟨j, j0, j1, rfl⟩ := mem_gp hp
      refine ⟨j.toNat, by omega, ?_⟩
      rw [Int.toNat_of_nonneg j0]; simp; omega
theorem index_bool (H : Hp) (v : Value) (u : List Bool) (hv : Rd H v (u.map Value.bool)) (hl : u.length ≤ 2 ^ 47) :
    CallsV Try.prog 33 [v, .bool false].toArray H (fun r H' => H' = H ∧ ∃ i : Int, r = .int .i64 i ∧ (i ≥ 0 ↔ false ∈ u)) := by
  obtain ⟨a, cap, rfl, hcap, hc⟩ := hv
  simp only [List.length_map] at hc hcap ⊢
  refine calls_W (m := 19) Try.call33 Try.func33 rfl rfl (by decide +kernel) (by simp) ?_
  first | refine W_regK ?_ | refine W_seq (W_regK ?_)
  intro K hK; simp (maxSteps := 1000000) (disch := omega) only [BOps_nil, BOps_cons, Cont_eq, Bev, rd, ev, updO, wantD, optK_some, ↓reduceIte, List.map]
  refine hK _ _ ?_; clear hK K
  first | refine W_regK ?_ | refine W_seq (W_regK ?_)
  intro K hK; simp (maxSteps := 1000000) (disch := omega) only [BOps_nil, BOps_cons, Cont_eq, Bev, rd, rdB, ev, updO, upd, wantD, argf, optK_some, lenV, ↓reduceIte, List.map, reduceCtorEq, u52]
  refine hK _ _ ?_; clear hK K
  first | refine W_seq (W_block (W_loop (fun k f H' => ∃ j : Nat, j ≤ u.length ∧ k = u.length - j ∧ f 0 = .slice a u.length cap ∧ f 1 = .bool false ∧ f 7 = .int .i64 u.length ∧ f 8 = .int .i64 j ∧ H = H' ∧ ∀ i, i < j → u[i]? = some true) u.length ?_ ?_)) | refine W_block (W_loop (fun k f H' => ∃ j : Nat, j ≤ u.length ∧ k = u.length - j ∧ f 0 = .slice a u.length cap ∧ f 1 = .bool false ∧ f 7 = .int .i64 u.length ∧ f 8 = .int .i64 j ∧ H = H' ∧ ∀ i, i < j → u[i]? = some true) u.length ?_ ?_)
  · refine ⟨0, by omega, by omega, ?_, ?_, ?_, ?_, rfl, by omega⟩ <;> simp [upd, argf]
  · rintro k f H' ⟨j, hj, rfl, e0, e1, e7, e8, rfl, hn⟩
    first | refine W_regK ?_ | refine W_seq (W_regK ?_)
    intro K hK; simp (maxSteps := 1000000) (disch := omega) only [BOps_nil, BOps_cons, Cont_eq, Bev, rd, ev, updO, wantD, bin, optK_some, ↓reduceIte, List.map, ne_eq, not_true_eq_false, e7, e8]
    refine hK _ _ ?_; clear hK K
    first | refine W_if (t := _) (by simp only [ev, upd, ↓reduceIte]; rfl) ?_ ?_ | refine W_cond (t := _) (by simp only [ev, upd, argf, Nat.reduceEqDiff, ↓reduceIte, reduceCtorEq, e7, e8]; rfl) ?_ ?_
    · intro h
      have hlt : j < u.length := by simpa using h
      obtain ⟨b, o, rfl, hld⟩ := hc j hlt
      refine W_skip ?_; try simp only [thenQ]
      first | refine W_seq (W_block ?_) | refine W_block ?_
      first | refine W_regK ?_ | refine W_seq (W_regK ?_)
      intro K hK; simp (maxSteps := 1000000) (disch := omega) only [BOps_nil, BOps_cons, Cont_eq, Bev, rd, ev, updO, upd, wantD, optK_some, Nat.reduceEqDiff, ↓reduceIte, List.map, e8]
      refine hK _ _ ?_; clear hK K
      have hld' : ldc H ⟨b, o + j, none⟩ = some (.bool u[j]) := by rw [hld, List.getElem?_map, List.getElem?_eq_getElem hlt]; rfl
      first | refine W_regK ?_ | refine W_seq (W_regK ?_)
      intro K hK; simp (maxSteps := 1000000) (disch := omega) only [BOps_nil, BOps_cons, Cont_eq, Bev, rd, ev, updO, upd, wantD, bin, optK_some, Nat.reduceEqDiff, ↓reduceIte, List.map, reduceCtorEq, inI_pos, u4, ld4, ixk52, e0, e1, Int.toNat_natCast, Nat.mul_one, hld', u4]
      refine hK _ _ ?_; clear hK K
      first | refine W_if (t := _) (by simp only [ev]; rfl) ?_ ?_ | refine W_cond (t := _) (by simp only [ev, upd, ↓reduceIte]; rfl) ?_ ?_
      · intro hpj
        have hpj : u[j] = false := by simpa using hpj
        first | refine W_regK ?_ | refine W_seq (W_regK ?_)
        intro K hK; simp (maxSteps := 1000000) (disch := omega) only [BOps_nil, BOps_cons, Cont_eq, Bev, rd, ev, updO, upd, wantD, optK_some, Nat.reduceEqDiff, ↓reduceIte, List.map]
        refine hK _ _ ?_; clear hK K
        refine W_ret ?_; simp only [thenQ, blockQ, retQ, Try.results33, resV1, Option.some.injEq, exists_eq_left', upd, ↓reduceIte, List.toList_toArray, true_and]
        exact ⟨_, rfl, ⟨fun _ => by rw [← hpj]; exact List.getElem_mem hlt, fun _ => by omega⟩⟩
      · intro hpj
        have hpj : u[j] = true := by simpa using hpj
        refine W_skip ?_; try simp only [thenQ, blockQ]
        refine W_reg ?_; simp (maxSteps := 1000000) (disch := omega) only [BOps_nil, BOps_cons, Cont_eq, Bev, rd, ev, updO, upd, wantD, bin, optK_some, Nat.reduceEqDiff, ↓reduceIte, List.map, ne_eq, not_true_eq_false, wrapi, Int.reduceNeg, e8]
        simp only [thenQ]
        refine ⟨u.length - (j + 1), by omega, j + 1, by omega, rfl, by simp [upd, e0], by simp [upd, e1], by simp [upd, e7], by simp [upd], trivial, ?_⟩
        · intro i hi
          by_cases e : i = j
          · rw [e, List.getElem?_eq_getElem hlt, hpj]
          · exact hn i (by omega)
    · intro h
      have hge : j = u.length := by simp at h; omega
      refine W_exit ?_; simp only [thenQ, blockQ, ↓reduceIte]
      first | refine W_regK ?_ | refine W_seq (W_regK ?_)
      intro K hK; simp (maxSteps := 1000000) (disch := omega) only [BOps_nil, BOps_cons, Cont_eq, Bev, rd, ev, updO, wantD, optK_some, ↓reduceIte, List.map, Int.reduceNeg]
      refine hK _ _ ?_; clear hK K
      refine W_ret ?_; simp only [retQ, Try.results33, resV1, Option.some.injEq, exists_eq_left', upd, ↓reduceIte, List.toList_toArray, true_and, Int.reduceNeg]
      refine ⟨_, rfl, ⟨fun h => by omega, fun hm => ?_⟩⟩
      obtain ⟨i, hi, hf⟩ := List.getElem_of_mem hm
      have := hn i (by omega)
      rw [List.getElem?_eq_getElem hi, hf] at this
      simp at this
theorem contains_bool (H : Hp) (v : Value) (u : List Bool) (hv : Rd H v (u.map Value.bool)) (hl : u.length ≤ 2 ^ 47) :
    CallsV Try.prog 23 [v, .bool false].toArray H (fun r H' => H' = H ∧ ∃ b : Bool, r = .bool b ∧ (b = true ↔ false ∈ u)) := by
  refine calls_W (m := 9) Try.call23 Try.func23 rfl rfl (by decide +kernel) (by simp) ?_
  first | refine W_regK ?_ | refine W_seq (W_regK ?_)
  intro K hK; simp (maxSteps := 1000000) (disch := omega) only [BOps_nil, BOps_cons, Cont_eq, Bev, rd, ev, updO, wantD, optK_some, ↓reduceIte, List.map]
  refine hK _ _ ?_; clear hK K
  first | refine W_regK ?_ | refine W_seq (W_regK ?_)
  intro K hK; simp (maxSteps := 1000000) (disch := omega) only [BOps_cons, Cont_eq, Bev, rd, ev, updO, upd, wantD, argf, optK_some, Nat.reduceEqDiff, ↓reduceIte, List.map, List.map_toArray, reduceCtorEq, List.append_toArray, List.append_nil, List.nil_append]
  refine (index_bool H v u hv hl).mono ?_; rintro r H2 ⟨rfl, i, rfl, hi⟩
  simp (maxSteps := 1000000) (disch := omega) only [BOps_nil, BOps_cons, Cont_eq, Bev, rd, ev, updO, upd, wantD, bin, optK_some, ↓reduceIte, ne_eq, not_true_eq_false]
  refine hK _ _ ?_; clear hK K
  refine W_ret ?_; simp only [retQ, Try.results23, resV1, Option.some.injEq, exists_eq_left', upd, ↓reduceIte, List.toList_toArray, true_and]
  exact ⟨_, rfl, by simpa using hi⟩
def bu (u : List Bool) (i : Int) : Bool := u.getD i.toNat false
theorem bu_ld {H : Hp} {ub : Nat} {u : List Bool} (h : H[ub]? = some (row 4 (u.map Value.bool))) (i : Int) (h0 : 0 ≤ i) (h1 : i < u.length) : ldc H ⟨ub, i.toNat * 1, none⟩ = some (.bool (bu u i)) := by
  rw [ldc_row h, Nat.mul_one, List.getElem?_map]
  have : i.toNat < u.length := by omega
  simp [bu, this]
theorem learn_spec (H : Hp) (ub c : Nat) (u : List Bool) (i : Int) (h : H[ub]? = some (row 4 (u.map Value.bool))) (h0 : 0 ≤ i) (h1 : i < u.length) :
    CallsV Try.prog 32 [.slice (some ⟨ub, 0, none⟩) u.length c, iv i].toArray H (fun r H' => r = .bool (!bu u i) ∧ H' = H.setIfInBounds ub (row 4 ((u.set i.toNat true).map Value.bool))) := by
  have hl := bu_ld h i h0 h1
  refine calls_W (m := 15) Try.call32 Try.func32 rfl rfl (by decide +kernel) (by simp) ?_
  first | refine W_regK ?_ | refine W_seq (W_regK ?_)
  intro K hK; simp (maxSteps := 1000000) (disch := omega) only [BOps_nil, BOps_cons, Cont_eq, Bev, rd, ev, updO, wantD, optK_some, ↓reduceIte, List.map]
  refine hK _ _ ?_; clear hK K
  first | refine W_regK ?_ | refine W_seq (W_regK ?_)
  intro K hK; simp (maxSteps := 1000000) (disch := omega) only [BOps_nil, BOps_cons, Cont_eq, Bev, rd, ev, updO, upd, wantD, argf, optK_some, Nat.reduceEqDiff, ↓reduceIte, List.map, reduceCtorEq, inI_pos, Nat.zero_add, ld4, ixk52, hl]
  refine hK _ _ ?_; clear hK K
  have hs : stn H ⟨ub, i.toNat * 1, none⟩ [.bool true] = some (H.setIfInBounds ub (row 4 ((u.set i.toNat true).map Value.bool))) := by
    rw [stn_row h (by simp; omega) rfl, Nat.mul_one, ow_one (by simp; omega), List.map_set]
  first | refine W_regK ?_ | refine W_seq (W_regK ?_)
  intro K hK; simp (maxSteps := 1000000) (disch := omega) only [optH_some, BOps_nil, BOps_cons, Cont_eq, Bev, rd, ev, updO, upd, wantD, argf, optK_some, optH_some, Nat.reduceEqDiff, ↓reduceIte, List.map, List.toList_toArray, reduceCtorEq, inI_pos, Value.cells, List.size_toArray, List.length_cons, List.length_nil, Nat.zero_add, st4, ixk52, hs, optH_some]
  refine hK _ _ ?_; clear hK K
  first | refine W_regK ?_ | refine W_seq (W_regK ?_)
  intro K hK; simp (maxSteps := 1000000) (disch := omega) only [BOps_nil, BOps_cons, Cont_eq, Bev, rd, ev, updO, upd, wantD, optK_some, Nat.reduceEqDiff, ↓reduceIte, List.map]
  refine hK _ _ ?_; clear hK K
  refine W_ret ?_; simp only [retQ, Try.results32, resV1, Option.some.injEq, exists_eq_left', upd, ↓reduceIte, List.toList_toArray, and_true]
end Go.Proofs.Yteheedbhmggcgaa
