import Derived.Test.YteheedbhmggcgaaE4
namespace Go.Proofs.Yteheedbhmggcgaa
open Go Go.Vy Go.Proofs
set_option linter.unusedSimpArgs false
set_option linter.unusedVariables false
def Sound (g : Gm) (u : List Bool) : Prop := ∀ A : Int, 0 ≤ A → bu u A = true → Useful g A
theorem grow_spec (H0 H : Hp) (k ub : Nat) (vt vl vp vn vd : Value) (g : Gm) (u : List Bool) (h : Kn H0 H k ub [vt, vl, vp, vn, vd] u) (hg : GV H0 vt vl vp vn vd g) (hsh : Shape g) (hu : u.length = g.nn) (hs : Sound g u) :
    CallsV Try.prog 21 [.func (.func 22) [.pointer (some ⟨k, 0, none⟩)].toArray [].toArray].toArray H (fun r H' => ∃ u', Kn H0 H' k ub [vt, vl, vp, vn, vd] u' ∧ u'.length = g.nn ∧ (∀ p ∈ g.prods, Closed g u' p) ∧ Sound g u') := by
  refine calls_W (m := 4) Try.call21 Try.func21 rfl rfl (by decide +kernel) (by simp) ?_
  first | refine W_seq (W_block (W_loop (fun z f H' => ∃ u', z = cntF u' ∧ f 0 = .func (.func 22) [.pointer (some ⟨k, 0, none⟩)].toArray [].toArray ∧ Kn H0 H' k ub [vt, vl, vp, vn, vd] u' ∧ u'.length = g.nn ∧ Sound g u') (cntF u) ?_ ?_)) | refine W_block (W_loop (fun z f H' => ∃ u', z = cntF u' ∧ f 0 = .func (.func 22) [.pointer (some ⟨k, 0, none⟩)].toArray [].toArray ∧ Kn H0 H' k ub [vt, vl, vp, vn, vd] u' ∧ u'.length = g.nn ∧ Sound g u') (cntF u) ?_ ?_)
  · exact ⟨u, rfl, rfl, h, hu, hs⟩
  rintro z f H' ⟨u', rfl, g0, hN, hul, hsd⟩
  first | refine W_regK ?_ | refine W_seq (W_regK ?_)
  intro K hK; simp (maxSteps := 1000000) (disch := omega) only [List.getElem?_toArray, List.getElem_toArray, List.getElem_cons_zero, List.getElem_cons_succ, stn_new_i, stn_new_p, stn_new_ii, stn_new_iii, stn_new_isii, optH_some, prt, BOps_nil, BOps_cons, Cont_eq, Bev, rd, rdB, ev, updO, upd, wantD, List.getElem?_cons_succ, List.getElem?_cons_zero, vtf, vft, vtt, vff, Bool.not_true, Bool.not_false, bin, argf, optK_some, optH_some, lenV, Nat.reduceEqDiff, ↓reduceIte, List.map, List.map_toArray, List.toList_toArray, ne_eq, not_true_eq_false, not_false_eq_true, reduceCtorEq, inI_pos, wrapi, true_and, and_true, List.append_toArray, List.append_nil, List.nil_append, List.cons_append, Value.cells, Option.map_some, Option.map_none, Option.bind_some, Option.bind_none, Bool.false_eq_true, List.size_toArray, List.length_cons, List.length_nil, Nat.reduceAdd, Nat.reduceMul, Nat.zero_add, Nat.add_zero, Nat.reduceLeDiff, Nat.reduceLT, Int.reduceLT, Int.reduceLE, Int.reduceNeg, Int.reduceToNat, Nat.zero_mul, Int.toNat_zero, false_and, and_false, g0]
  refine (useful_spec H0 H' k ub _ _ _ _ _ g u' hN hg hsh hul).mono ?_
  rintro r H2 ⟨u2, fresh, rfl, hN2, hul2, hf1, hf2, hs2⟩
  simp (maxSteps := 1000000) (disch := omega) only [List.getElem?_toArray, List.getElem_toArray, List.getElem_cons_zero, List.getElem_cons_succ, stn_new_i, stn_new_p, stn_new_ii, stn_new_iii, stn_new_isii, optH_some, prt, BOps_nil, BOps_cons, Cont_eq, Bev, rd, rdB, ev, updO, upd, wantD, List.getElem?_cons_succ, List.getElem?_cons_zero, vtf, vft, vtt, vff, Bool.not_true, Bool.not_false, bin, argf, optK_some, optH_some, lenV, Nat.reduceEqDiff, ↓reduceIte, List.map, List.map_toArray, List.toList_toArray, ne_eq, not_true_eq_false, not_false_eq_true, reduceCtorEq, inI_pos, wrapi, true_and, and_true, List.append_toArray, List.append_nil, List.nil_append, List.cons_append, Value.cells, Option.map_some, Option.map_none, Option.bind_some, Option.bind_none, Bool.false_eq_true, List.size_toArray, List.length_cons, List.length_nil, Nat.reduceAdd, Nat.reduceMul, Nat.zero_add, Nat.add_zero, Nat.reduceLeDiff, Nat.reduceLT, Int.reduceLT, Int.reduceLE, Int.reduceNeg, Int.reduceToNat, Nat.zero_mul, Int.toNat_zero, false_and, and_false]
  refine hK _ _ ?_; clear hK K
  first | refine W_if (t := _) (by simp only [ev, upd, argf, Nat.reduceEqDiff, ↓reduceIte, reduceCtorEq]; rfl) ?_ ?_ | refine W_cond (t := _) (by simp only [ev, upd, argf, Nat.reduceEqDiff, ↓reduceIte, reduceCtorEq]; rfl) ?_ ?_
  · intro hf
    refine W_skip ?_; try simp only [thenQ, blockQ, jumpQ]
    first | refine W_seq (W_block ?_) | refine W_block ?_
    refine W_skip ?_; try simp only [thenQ, blockQ, jumpQ]
    exact ⟨_, hf1 hf, u2, rfl, by simp [upd, g0], hN2, hul2, hs2 hsd⟩
  · intro hf
    refine W_exit ?_; simp only [thenQ, blockQ, jumpQ, Nat.reduceEqDiff, ↓reduceIte]
    simp only [Nat.reduceEqDiff, ↓reduceIte, thenQ, blockQ, jumpQ, retQ, Try.results21, resV1, resV2, resV3, resV0, Option.some.injEq, exists_eq_left', List.getElem?_toArray, List.getElem_toArray, List.getElem_cons_zero, List.getElem_cons_succ, stn_new_i, stn_new_p, stn_new_ii, stn_new_iii, stn_new_isii, optH_some, prt, BOps_nil, BOps_cons, Cont_eq, Bev, rd, rdB, ev, updO, upd, wantD, List.getElem?_cons_succ, List.getElem?_cons_zero, vtf, vft, vtt, vff, Bool.not_true, Bool.not_false, bin, argf, optK_some, optH_some, lenV, Nat.reduceEqDiff, ↓reduceIte, List.map, List.map_toArray, List.toList_toArray, ne_eq, not_true_eq_false, not_false_eq_true, reduceCtorEq, inI_pos, wrapi, true_and, and_true, List.append_toArray, List.append_nil, List.nil_append, List.cons_append, Value.cells, Option.map_some, Option.map_none, Option.bind_some, Option.bind_none, Bool.false_eq_true, List.size_toArray, List.length_cons, List.length_nil, Nat.reduceAdd, Nat.reduceMul, Nat.zero_add, Nat.add_zero, Nat.reduceLeDiff, Nat.reduceLT, Int.reduceLT, Int.reduceLE, Int.reduceNeg, Int.reduceToNat, Nat.zero_mul, Int.toNat_zero, false_and, and_false]
    obtain ⟨rfl, hcl⟩ := hf2 hf
    exact ⟨u2, hN2, hul, hcl, hs2 hsd⟩
end Go.Proofs.Yteheedbhmggcgaa
