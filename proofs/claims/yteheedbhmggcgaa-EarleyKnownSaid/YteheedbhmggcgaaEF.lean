import Derived.Test.YteheedbhmggcgaaEE
namespace Go.Proofs.Yteheedbhmggcgaa
open Go Go.Vy Go.Proofs
set_option linter.unusedSimpArgs false
set_option linter.unusedVariables false
theorem bld68' (a b c : Int) : bldV Try.prog 68 [(0, .int .i64 a), (1, .int .i64 b), (2, .int .i64 c)] = some (.agg #[.int .i64 a, .int .i64 b, .int .i64 c]) := bld68 a b c
theorem derives_spec (H : Hp) (vt vl vp vn vd vk : Value) (g : Gm) (ks : List Int) (hg : GV H vt vl vp vn vd g) (hk : RdI H vk ks) (hkl : ks.length ≤ 2 ^ 45) :
    CallsV Try.prog 10 [.agg #[vt, vl, vp, vn, vd], vk].toArray H (fun r H' => Ext H H' ∧ ∃ (b : Bool) (e : Int), r = .tuple #[.bool b, .int .i64 e] ∧ EChk g ks e ∧ (e = 0 → (b = true ↔ Cht g ks ks.length ⟨0, 1, 0⟩)) ∧ (e ≠ 0 → b = false)) := by
  refine calls_W (m := 26) Try.call10 Try.func10 rfl rfl (by decide +kernel) (by simp) ?_
  first | refine W_regK ?_ | refine W_seq (W_regK ?_)
  intro K hK; simp (maxSteps := 1000000) (disch := omega) only [BOps_nil, BOps_cons, Cont_eq, Bev, rd, ev, updO, wantD, argf, optK_some, ↓reduceIte, List.map, List.toList_toArray, Value.cells]
  have hE := (Ext.refl H).push (row 27 [vt, vl, vp, vn, vd])
  have hb := get_new H (row 27 [vt, vl, vp, vn, vd])
  have hg1 := hg.ext hE
  have hk1 := RdI.ext hE hk
  generalize hk0 : H.size = k0 at *
  generalize H.push _ = H1 at *
  refine hK _ _ ?_; clear hK K
  have l0 : ldn H1 5 ⟨k0, 0, none⟩ = some [vt, vl, vp, vn, vd] := by rw [ldn_row hb]; rfl
  first | refine W_regK ?_ | refine W_seq (W_regK ?_)
  intro K hK; simp (maxSteps := 1000000) (disch := omega) only [BOps_cons, Cont_eq, Bev, rd, ev, updO, upd, wantD, argf, optK_some, Nat.reduceEqDiff, ↓reduceIte, List.map, List.map_toArray, List.append_toArray, List.append_nil, List.nil_append, Option.map_some, ld27, l0]
  refine (chartOf_spec H1 _ _ _ _ _ vk g ks hg1 hk1 hkl).mono ?_
  rintro r H2 ⟨hE2, e, hC, hr⟩
  have hE := hE.trans hE2
  rcases hr with ⟨c1, rfl⟩ | ⟨rfl, c, cs, R, mb, B, rv, rfl, hch, hR⟩
  · simp (maxSteps := 1000000) (disch := omega) only [List.getElem?_toArray, BOps_nil, BOps_cons, Cont_eq, Bev, rd, ev, updO, upd, wantD, List.getElem?_cons_succ, List.getElem?_cons_zero, optK_some, Nat.reduceEqDiff, ↓reduceIte]
    refine hK _ _ ?_; clear hK K
    have c1' : (e != 0) = true := bne_iff_ne.2 c1
    first | refine W_regK ?_ | refine W_seq (W_regK ?_)
    intro K hK; simp (maxSteps := 1000000) (disch := omega) only [BOps_nil, BOps_cons, Cont_eq, Bev, rd, ev, updO, upd, wantD, bin, optK_some, ↓reduceIte, List.map, ne_eq, not_true_eq_false, c1']
    refine hK _ _ ?_; clear hK K
    first | refine W_seq (W_cond_t (by simp only [ev]) ?_) | refine W_cond_t (by simp only [ev, upd, ↓reduceIte]) ?_
    first | refine W_regK ?_ | refine W_seq (W_regK ?_)
    intro K hK; simp (maxSteps := 1000000) (disch := omega) only [BOps_nil, BOps_cons, Cont_eq, Bev, rd, ev, updO, upd, wantD, optK_some, Nat.reduceEqDiff, ↓reduceIte, List.map]
    refine hK _ _ ?_; clear hK K
    refine W_ret ?_; simp only [thenQ, retQ, Try.results10, resV2, Option.some.injEq, exists_eq_left', upd, Nat.reduceEqDiff, ↓reduceIte, List.toList_toArray, ne_eq]
    exact ⟨hE, false, e, rfl, hC, fun h => absurd h c1, fun _ => rfl⟩
  · simp (maxSteps := 1000000) (disch := omega) only [List.getElem?_toArray, BOps_nil, BOps_cons, Cont_eq, Bev, rd, ev, updO, upd, wantD, List.getElem?_cons_succ, List.getElem?_cons_zero, optK_some, Nat.reduceEqDiff, ↓reduceIte]
    refine hK _ _ ?_; clear hK K
    have c1' : ((0 : Int) != 0) = false := rfl
    first | refine W_regK ?_ | refine W_seq (W_regK ?_)
    intro K hK; simp (maxSteps := 1000000) (disch := omega) only [BOps_nil, BOps_cons, Cont_eq, Bev, rd, ev, updO, upd, wantD, bin, optK_some, ↓reduceIte, List.map, ne_eq, not_true_eq_false, c1']
    refine hK _ _ ?_; clear hK K
    first | refine W_seq (W_cond_f (by simp only [ev]) ?_) | refine W_cond_f (by simp only [ev, upd, ↓reduceIte]) ?_
    refine W_skip ?_; try simp only [thenQ]
    obtain ⟨hok, hkok⟩ := hC.zero.1 rfl
    have hkl60 := hkok.1
    obtain ⟨ak, ck, rfl⟩ := hk.opn'
    have hlm := hch.map (ks.length : Int) (by omega) (by omega)
    rw [Int.toNat_natCast, Nat.mul_one] at hlm
    have hm := hch.maps ks.length (by omega)
    have hlk := lkp_mobj (ok := false) key68 u61 hz4 hm ⟨0, 1, 0⟩
    rw [aget_items] at hlk
    have hlk' : lkp Try.prog 61 (.map (some (mb ks.length))) (.agg #[.int .i64 0, .int .i64 1, .int .i64 0]) false H2 = some (.bool (decide ((⟨0, 1, 0⟩ : It) ∈ R ks.length))) := by
      refine hlk.trans ?_
      by_cases h : (⟨0, 1, 0⟩ : It) ∈ R ks.length
      · simp [h, lkv]
      · simp [h, lkv, zv4]
    first | refine W_regK ?_ | refine W_seq (W_regK ?_)
    intro K hK; simp (maxSteps := 1000000) (disch := omega) only [BOps_nil, BOps_cons, Cont_eq, Bev, rd, rdB, ev, updO, upd, wantD, argf, optK_some, lenV, Nat.reduceEqDiff, ↓reduceIte, List.map, inI_pos, Nat.zero_add, u28, ld61, ixk64, fld66_3, hlm, Int.toNat_natCast, Nat.mul_one, bld68, hlk']
    refine hK _ _ ?_; clear hK K
    refine W_ret ?_; simp only [retQ, Try.results10, resV2, Option.some.injEq, exists_eq_left', upd, Nat.reduceEqDiff, ↓reduceIte, List.toList_toArray, ne_eq]
    exact ⟨hE, _, 0, rfl, hC, fun _ => by rw [decide_eq_true_iff]; exact hR _ _ (Nat.le_refl _), fun h => absurd rfl h⟩
theorem viable_spec (H : Hp) (vt vl vp vn vd vk : Value) (g : Gm) (ks : List Int) (hg : GV H vt vl vp vn vd g) (hk : RdI H vk ks) (hkl : ks.length ≤ 2 ^ 45) :
    CallsV Try.prog 11 [.agg #[vt, vl, vp, vn, vd], vk].toArray H (fun r H' => Ext H H' ∧ ∃ (b : Bool) (e : Int), r = .tuple #[.bool b, .int .i64 e] ∧ EChk g ks e ∧ (e = 0 → (b = true ↔ ∃ x, Cht g ks ks.length x)) ∧ (e ≠ 0 → b = false)) := by
  refine calls_W (m := 26) Try.call11 Try.func11 rfl rfl (by decide +kernel) (by simp) ?_
  first | refine W_regK ?_ | refine W_seq (W_regK ?_)
  intro K hK; simp (maxSteps := 1000000) (disch := omega) only [BOps_nil, BOps_cons, Cont_eq, Bev, rd, ev, updO, wantD, argf, optK_some, ↓reduceIte, List.map, List.toList_toArray, Value.cells]
  have hE := (Ext.refl H).push (row 27 [vt, vl, vp, vn, vd])
  have hb := get_new H (row 27 [vt, vl, vp, vn, vd])
  have hg1 := hg.ext hE
  have hk1 := RdI.ext hE hk
  generalize hk0 : H.size = k0 at *
  generalize H.push _ = H1 at *
  refine hK _ _ ?_; clear hK K
  have l0 : ldn H1 5 ⟨k0, 0, none⟩ = some [vt, vl, vp, vn, vd] := by rw [ldn_row hb]; rfl
  first | refine W_regK ?_ | refine W_seq (W_regK ?_)
  intro K hK; simp (maxSteps := 1000000) (disch := omega) only [BOps_cons, Cont_eq, Bev, rd, ev, updO, upd, wantD, argf, optK_some, Nat.reduceEqDiff, ↓reduceIte, List.map, List.map_toArray, List.append_toArray, List.append_nil, List.nil_append, Option.map_some, ld27, l0]
  refine (chartOf_spec H1 _ _ _ _ _ vk g ks hg1 hk1 hkl).mono ?_
  rintro r H2 ⟨hE2, e, hC, hr⟩
  have hE := hE.trans hE2
  rcases hr with ⟨c1, rfl⟩ | ⟨rfl, c, cs, R, mb, B, rv, rfl, hch, hR⟩
  · simp (maxSteps := 1000000) (disch := omega) only [List.getElem?_toArray, BOps_nil, BOps_cons, Cont_eq, Bev, rd, ev, updO, upd, wantD, List.getElem?_cons_succ, List.getElem?_cons_zero, optK_some, Nat.reduceEqDiff, ↓reduceIte]
    refine hK _ _ ?_; clear hK K
    have c1' : (e != 0) = true := bne_iff_ne.2 c1
    first | refine W_regK ?_ | refine W_seq (W_regK ?_)
    intro K hK; simp (maxSteps := 1000000) (disch := omega) only [BOps_nil, BOps_cons, Cont_eq, Bev, rd, ev, updO, upd, wantD, bin, optK_some, ↓reduceIte, List.map, ne_eq, not_true_eq_false, c1']
    refine hK _ _ ?_; clear hK K
    first | refine W_seq (W_cond_t (by simp only [ev]) ?_) | refine W_cond_t (by simp only [ev, upd, ↓reduceIte]) ?_
    first | refine W_regK ?_ | refine W_seq (W_regK ?_)
    intro K hK; simp (maxSteps := 1000000) (disch := omega) only [BOps_nil, BOps_cons, Cont_eq, Bev, rd, ev, updO, upd, wantD, optK_some, Nat.reduceEqDiff, ↓reduceIte, List.map]
    refine hK _ _ ?_; clear hK K
    refine W_ret ?_; simp only [thenQ, retQ, Try.results11, resV2, Option.some.injEq, exists_eq_left', upd, Nat.reduceEqDiff, ↓reduceIte, List.toList_toArray, ne_eq]
    exact ⟨hE, false, e, rfl, hC, fun h => absurd h c1, fun _ => rfl⟩
  · simp (maxSteps := 1000000) (disch := omega) only [List.getElem?_toArray, BOps_nil, BOps_cons, Cont_eq, Bev, rd, ev, updO, upd, wantD, List.getElem?_cons_succ, List.getElem?_cons_zero, optK_some, Nat.reduceEqDiff, ↓reduceIte]
    refine hK _ _ ?_; clear hK K
    have c1' : ((0 : Int) != 0) = false := rfl
    first | refine W_regK ?_ | refine W_seq (W_regK ?_)
    intro K hK; simp (maxSteps := 1000000) (disch := omega) only [BOps_nil, BOps_cons, Cont_eq, Bev, rd, ev, updO, upd, wantD, bin, optK_some, ↓reduceIte, List.map, ne_eq, not_true_eq_false, c1']
    refine hK _ _ ?_; clear hK K
    first | refine W_seq (W_cond_f (by simp only [ev]) ?_) | refine W_cond_f (by simp only [ev, upd, ↓reduceIte]) ?_
    refine W_skip ?_; try simp only [thenQ]
    obtain ⟨hok, hkok⟩ := hC.zero.1 rfl
    have hkl60 := hkok.1
    obtain ⟨ak, ck, rfl⟩ := hk.opn'
    have hlr := hch.row (ks.length : Int) (by omega) (by omega)
    rw [Int.toNat_natCast, Nat.mul_one] at hlr
    have hown := hch.own ks.length (by omega)
    obtain ⟨a1, c1, e1⟩ := (own_rde hown).opn'
    rw [List.length_map] at e1
    rw [e1] at hlr
    first | refine W_regK ?_ | refine W_seq (W_regK ?_)
    intro K hK; simp (maxSteps := 1000000) (disch := omega) only [BOps_nil, BOps_cons, Cont_eq, Bev, rd, rdB, ev, updO, upd, wantD, bin, argf, optK_some, lenV, Nat.reduceEqDiff, ↓reduceIte, List.map, ne_eq, not_true_eq_false, inI_pos, Nat.zero_add, u28, u62, ld62, ixk63, fld66_2, hlr, Int.toNat_natCast, Nat.mul_one]
    refine hK _ _ ?_; clear hK K
    refine W_ret ?_; simp only [retQ, Try.results11, resV2, Option.some.injEq, exists_eq_left', upd, Nat.reduceEqDiff, ↓reduceIte, List.toList_toArray, ne_eq]
    refine ⟨hE, _, 0, rfl, hC, fun _ => ?_, fun h => absurd rfl h⟩
    rw [decide_eq_true_iff]
    constructor
    · intro h
      have : 0 < (R ks.length).length := by omega
      exact ⟨_, (hR _ _ (Nat.le_refl _)).1 (List.getElem_mem this)⟩
    · rintro ⟨x, hx⟩
      have := List.length_pos_of_mem ((hR _ _ (Nat.le_refl _)).2 hx)
      omega
end Go.Proofs.Yteheedbhmggcgaa
