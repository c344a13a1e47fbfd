import Derived.Test.YteheedbhmggcgaaEG
namespace Go.Proofs.Yteheedbhmggcgaa
open Go Go.Vy Go.Proofs
set_option linter.unusedSimpArgs false
set_option linter.unusedVariables false
/-- A table of numbers. -/
def tb (n : Nat) (f : Nat → Int) : List Value := (List.range (n + 1)).map fun i => iv (f i)
theorem tb_len (n : Nat) (f : Nat → Int) : (tb n f).length = n + 1 := by simp [tb]
theorem tb_get {n : Nat} {f : Nat → Int} {i : Nat} (h : i ≤ n) : (tb n f)[i]? = some (iv (f i)) := by
  simp [tb, List.getElem?_range (show i < n + 1 by omega)]
theorem tb_set {n : Nat} {f : Nat → Int} {i : Nat} (v : Int) : (tb n f).set i (iv v) = tb n (fun j => if j = i then v else f j) := by
  apply List.ext_getElem?
  intro j
  rw [List.getElem?_set]
  by_cases hj : j ≤ n
  · by_cases e : i = j
    · subst e; rw [if_pos rfl, if_pos (by rw [tb_len]; omega), tb_get hj, if_pos rfl]
    · rw [if_neg e, tb_get hj, tb_get hj, if_neg (fun h => e h.symm)]
  · have h1 : (tb n (fun j => if j = i then v else f j))[j]? = none := List.getElem?_eq_none (by rw [tb_len]; omega)
    rw [h1]
    split
    · rw [if_neg (by rw [tb_len]; omega)]
    · exact List.getElem?_eq_none (by rw [tb_len]; omega)
theorem tb_congr {n : Nat} {f f' : Nat → Int} (h : ∀ i, i ≤ n → f i = f' i) : tb n f = tb n f' := by
  unfold tb
  apply List.map_congr_left
  intro i hi
  rw [h i (by have := List.mem_range.1 hi; omega)]
theorem tb_rep (n : Nat) : rep (n + 1) [.int .i64 0] = tb n (fun _ => 0) := by
  rw [rep_one]
  apply List.ext_getElem?
  intro i
  by_cases h : i ≤ n
  · rw [tb_get h, List.getElem?_replicate, if_pos (by omega)]
  · rw [List.getElem?_eq_none (by simp; omega), List.getElem?_eq_none (by rw [tb_len]; omega)]
/-- A map of numbers in the heap. -/
def MI (H : Hp) (m : Nat) (W : Ways) : Prop := ∃ l, H[m]? = some (mobj encIt l) ∧ (l.map (·.1)).Nodup ∧ ∀ a, (aget l a = none ∧ W a = 0) ∨ aget l a = some (iv (W a))
theorem MI.ext {H H' : Hp} {m : Nat} {W : Ways} (e : Ext H H') (h : MI H m W) : MI H' m W := by
  obtain ⟨l, h1, h2⟩ := h
  exact ⟨l, e.get h1, h2⟩
theorem MI.lt {H : Hp} {m : Nat} {W : Ways} (h : MI H m W) : m < H.size := by
  obtain ⟨l, h1, h2⟩ := h
  exact lt_of_get h1
theorem MI.keep {H H' : Hp} {m : Nat} {W : Ways} (h : MI H m W) (e : H'[m]? = H[m]?) : MI H' m W := by
  obtain ⟨l, h1, h2⟩ := h
  exact ⟨l, e.trans h1, h2⟩
theorem MI.lk {H : Hp} {m : Nat} {W : Ways} (h : MI H m W) (a b c : Int) : lkp Try.prog 71 (.map (some m)) (.agg #[.int .i64 a, .int .i64 b, .int .i64 c]) false H = some (.int .i64 (W ⟨a, b, c⟩)) := by
  obtain ⟨l, h1, h2, h3⟩ := h
  refine (lkp_mobj (ok := false) key75 u71 hz3 h1 ⟨a, b, c⟩).trans ?_
  rcases h3 ⟨a, b, c⟩ with ⟨h4, h5⟩ | h4
  · rw [h4, h5]; simp [lkv, zv3]
  · rw [h4]; simp [lkv]
theorem bld75 (a b c : Int) : bldV Try.prog 75 [(0, .int .i64 a), (1, .int .i64 b), (2, .int .i64 c)] = some (.agg #[.int .i64 a, .int .i64 b, .int .i64 c]) := by
  simp [bldV, plc75, hz75, zc75, bld, ow, Value.cells]
/-- The counter in the heap. -/
structure Ct (H0 H : Hp) (c m : Nat) (cs : List Value) (W : Ways) : Prop where
  ext : Ext H0 H
  hc : H0.size ≤ c
  hm : H0.size ≤ m
  cb : H[c]? = some (row 73 (cs ++ [.map (some m)]))
  mi : MI H m W
  ok : WOk W
theorem Ct.grow {H0 H H' : Hp} {c m : Nat} {cs : List Value} {W : Ways} (h : Ct H0 H c m cs W) (e : Ext H H') : Ct H0 H' c m cs W := ⟨h.ext.trans e, h.hc, h.hm, e.get h.cb, h.mi.ext e, h.ok⟩
theorem Ct.ne {H0 H : Hp} {c m : Nat} {cs : List Value} {W : Ways} (h : Ct H0 H c m cs W) : c ≠ m := by
  intro e
  obtain ⟨l, h1, _⟩ := h.mi
  have := h.cb
  rw [e, h1] at this; cases this
theorem crow_spec (H0 H : Hp) (c m : Nat) (cs : List Value) (W : Ways) (g : Gm) (ks : List Int) (h : Ct H0 H c m cs W) (hd : Hd H0 cs g ks) (lv : Value) (l : List Int) (hl : RdI H lv l) (hll : l.length ≤ 12) (hls : ∀ s ∈ l, 1 ≤ s ∧ s < g.nt + g.nn) (a : Nat) (ha : a ≤ ks.length) :
    CallsV Try.prog 37 [.pointer (some ⟨c, 0, none⟩), lv, .int .i64 a].toArray H (fun r H' => Ext H H' ∧ ∃ b, H.size ≤ b ∧ r = .slice (some ⟨b, 0, none⟩) (ks.length + 1) (ks.length + 1) ∧ H'[b]? = some (row 3 (tb ks.length (rowf g ks W l (unit a))))) := by
  have hsh := hd.sh
  have hkl := hd.kl
  have hnt := hsh.nt
  have hnn := hsh.nn
  obtain ⟨vt, vl, vp, vn, vd, vk, at_, ct, bp, op, cap, ra, rb, ro, rc, rfl, ho⟩ := hd.opn
  obtain ⟨rfl, rfl, hP, hk⟩ := ho
  obtain ⟨ak, ck, rfl⟩ := hk.opn'
  obtain ⟨al, cl, rfl⟩ := hl.opn'
  have hcl := lt_of_get h.cb
  have heads : ∀ H', Ext H H' → ldc H' ⟨c, 0, none⟩ = some (.slice at_ g.nt ct) ∧ ldc H' ⟨c, 5, none⟩ = some (.slice ak ks.length ck) ∧ ldc H' ⟨c, 6, none⟩ = some (.map (some m)) := by
    intro H' e
    have := e.get h.cb
    refine ⟨?_, ?_, ?_⟩ <;> (rw [ldc_row this]; rfl)
  have hwlo := h.ok.lo
  have hwhi := h.ok.hi
  refine calls_W (m := 118) Try.call37 Try.func37 rfl rfl (by decide +kernel) (by simp) ?_
  first | refine W_regK ?_ | refine W_seq (W_regK ?_)
  intro K hK; simp (maxSteps := 1000000) (disch := omega) only [BOps_nil, BOps_cons, Cont_eq, Bev, rd, ev, updO, wantD, optK_some, ↓reduceIte, List.map]
  refine hK _ _ ?_; clear hK K
  obtain ⟨l0, l5, l6⟩ := heads H (.refl H)
  first | refine W_regK ?_ | refine W_seq (W_regK ?_)
  intro K hK; simp (maxSteps := 1000000) (disch := omega) only [BOps_nil, BOps_cons, Cont_eq, Bev, rd, rdB, ev, updO, upd, wantD, bin, argf, optK_some, lenV, ↓reduceIte, List.map, ne_eq, not_true_eq_false, reduceCtorEq, wrapi, true_and, List.length_cons, List.length_nil, Nat.zero_add, hz3, zc3, u28, ld28, slT28, fld73_1, l5, mkSlK]
  refine ⟨by omega, by omega, by omega, by omega, ?_⟩
  have e1 : ((ks.length : Int) + 1).toNat = ks.length + 1 := by omega
  rw [e1, tb_rep]
  have hE := (Ext.refl H).push (row 3 (tb ks.length fun _ => 0))
  have hb := get_new H (row 3 (tb ks.length fun _ => 0))
  generalize hk0 : H.size = nb at hb ⊢
  generalize H.push _ = H1 at *
  try simp (maxSteps := 1000000) (disch := omega) only [List.getElem?_toArray, List.getElem_toArray, List.getElem_cons_zero, List.getElem_cons_succ, stn_new_i, stn_new_p, stn_new_ii, stn_new_iii, stn_new_isii, optH_some, prt, BOps_nil, BOps_cons, Cont_eq, Bev, rd, rdB, ev, updO, upd, wantD, List.getElem?_cons_succ, List.getElem?_cons_zero, vtf, vft, vtt, vff, Bool.not_true, Bool.not_false, bin, argf, optK_some, optH_some, lenV, Nat.reduceEqDiff, ↓reduceIte, List.map, List.map_toArray, List.toList_toArray, ne_eq, not_true_eq_false, not_false_eq_true, reduceCtorEq, inI_pos, wrapi, true_and, and_true, List.append_toArray, List.append_nil, List.nil_append, List.cons_append, Value.cells, Option.map_some, Option.map_none, Option.bind_some, Option.bind_none, Bool.false_eq_true, List.size_toArray, List.length_cons, List.length_nil, Nat.reduceAdd, Nat.reduceMul, Nat.zero_add, Nat.add_zero, Nat.reduceLeDiff, Nat.reduceLT, Int.reduceLT, Int.reduceLE, Int.reduceNeg, Int.reduceToNat, Nat.zero_mul, Int.toNat_zero, false_and, and_false, u3, tk3, hz3, ld3, st3, zc3, zv3, u9, tk9, hz9, ld9, st9, zc9, zv9, u22, tk22, hz22, ld22, st22, ixk22, slT22, zc22, zv22, u23, tk23, hz23, ld23, st23, ixk23, slT23, zc23, zv23, u24, tk24, hz24, ld24, st24, ixk24, slT24, zc24, zv24, u25, tk25, hz25, ld25, st25, ixk25, slT25, zc25, zv25, tk27, hz27, ld27, st27, fld27_0, fld27_1, fld27_2, fld27_3, fld27_4, plc27, zc27, u28, tk28, hz28, ld28, st28, ixk28, slT28, zc28, zv28, u71, tk71, hz71, ld71, st71, zc71, zv71, tk73, hz73, ld73, st73, fld73_0, fld73_1, fld73_2, plc73, zc73, tk75, hz75, ld75, st75, fld75_0, fld75_1, fld75_2, plc75, zc75]
  refine hK _ _ ?_; clear hK K
  have hst : stn H1 ⟨nb, a, none⟩ [.int .i64 1] = some (H1.setIfInBounds nb (row 3 (tb ks.length (unit a)))) := by
    rw [stn_row hb (by rw [tb_len]; simp; omega) rfl, ow_one (by rw [tb_len]; omega), tb_set]
    rfl
  first | refine W_regK ?_ | refine W_seq (W_regK ?_)
  intro K hK; simp (maxSteps := 1000000) (disch := omega) only [optH_some, BOps_nil, BOps_cons, Cont_eq, Bev, rd, ev, updO, upd, wantD, argf, optK_some, optH_some, Nat.reduceEqDiff, ↓reduceIte, List.map, List.toList_toArray, inI_pos, Value.cells, List.size_toArray, List.length_cons, List.length_nil, Nat.zero_add, st3, ixk28, Int.toNat_natCast, Nat.mul_one, hst]
  have hb := get_set (lt_of_get hb) (row 3 (tb ks.length (unit a)))
  have hE := hE.set (by omega : H.size ≤ nb) (row 3 (tb ks.length (unit a)))
  generalize H1.setIfInBounds nb _ = H2 at *
  refine hK _ _ ?_; clear hK K
  first | refine W_regK ?_ | refine W_seq (W_regK ?_)
  intro K hK; simp (maxSteps := 1000000) (disch := omega) only [BOps_nil, BOps_cons, Cont_eq, Bev, rd, rdB, ev, updO, upd, wantD, argf, optK_some, lenV, Nat.reduceEqDiff, ↓reduceIte, List.map, u28]
  refine hK _ _ ?_; clear hK K
  first | refine W_seq (W_block (W_loop (fun z f H' => ∃ (k nb : Nat), k ≤ l.length ∧ z = l.length - k ∧ f 0 = .pointer (some ⟨c, 0, none⟩) ∧ f 7 = .slice (some ⟨nb, 0, none⟩) (ks.length + 1) (ks.length + 1) ∧ f 25 = .slice al l.length cl ∧ f 26 = .int .i64 l.length ∧ f 27 = .int .i64 k ∧ Ext H H' ∧ H.size ≤ nb ∧ H'[nb]? = some (row 3 (tb ks.length (rowf g ks W (l.take k) (unit a))))) l.length ?_ ?_)) | refine W_block (W_loop (fun z f H' => ∃ (k nb : Nat), k ≤ l.length ∧ z = l.length - k ∧ f 0 = .pointer (some ⟨c, 0, none⟩) ∧ f 7 = .slice (some ⟨nb, 0, none⟩) (ks.length + 1) (ks.length + 1) ∧ f 25 = .slice al l.length cl ∧ f 26 = .int .i64 l.length ∧ f 27 = .int .i64 k ∧ Ext H H' ∧ H.size ≤ nb ∧ H'[nb]? = some (row 3 (tb ks.length (rowf g ks W (l.take k) (unit a))))) l.length ?_ ?_)
  · refine ⟨0, nb, by omega, by omega, by simp [upd, argf], by simp [upd], by simp [upd], by simp [upd], by simp [upd], hE, by omega, ?_⟩
    rw [hb]; rfl
  rintro z f H1 ⟨k, nb, hkl1, rfl, g0, g7, g25, g26, g27, hE, hnb, hb⟩
  first | refine W_regK ?_ | refine W_seq (W_regK ?_)
  intro K hK; simp (maxSteps := 1000000) (disch := omega) only [BOps_nil, BOps_cons, Cont_eq, Bev, rd, ev, updO, wantD, bin, optK_some, ↓reduceIte, List.map, ne_eq, not_true_eq_false, g26, g27]
  refine hK _ _ ?_; clear hK K
  first | refine W_if (t := _) (by simp only [ev, upd, ↓reduceIte]; rfl) ?_ ?_ | refine W_cond (t := _) (by simp only [ev, upd, argf, Nat.reduceEqDiff, ↓reduceIte, reduceCtorEq]; rfl) ?_ ?_
  rotate_left
  · intro hc
    have hge : k = l.length := by have : ¬ (k : Int) < l.length := by simpa using hc
                                  omega
    subst hge
    refine W_exit ?_; simp only [thenQ, blockQ, ↓reduceIte]
    first | refine W_regK ?_ | refine W_seq (W_regK ?_)
    intro K hK; simp (maxSteps := 1000000) (disch := omega) only [BOps_nil, BOps_cons, Cont_eq, Bev, rd, ev, updO, upd, wantD, optK_some, Nat.reduceEqDiff, ↓reduceIte, List.map, g7]
    refine hK _ _ ?_; clear hK K
    refine W_ret ?_; simp only [retQ, Try.results37, resV1, Option.some.injEq, exists_eq_left', upd, ↓reduceIte, List.toList_toArray]
    rw [List.take_length] at hb
    exact ⟨hE, nb, hnb, rfl, hb⟩
  intro hc
  have hkl2 : k < l.length := by simpa using hc
  refine W_skip ?_; try simp only [thenQ]
  first | refine W_seq (W_block ?_) | refine W_block ?_
  obtain ⟨bl, ol, cl', el, -, hll'⟩ := hl.opn (by omega)
  injection el with el _ _
  subst el
  have hs := ldc_ext hE (hll' k (by omega) (by omega))
  rw [gi_nat _ _ hkl2, Int.toNat_natCast, Nat.mul_one] at hs
  have hsb := hls _ (List.getElem_mem hkl2)
  generalize hsd : l[k] = s at *
  first | refine W_regK ?_ | refine W_seq (W_regK ?_)
  intro K hK; simp (maxSteps := 1000000) (disch := omega) only [BOps_nil, BOps_cons, Cont_eq, Bev, rd, ev, updO, upd, wantD, optK_some, Nat.reduceEqDiff, ↓reduceIte, List.map, inI_pos, ld3, ixk28, g25, g27, hs, Int.toNat_natCast, Nat.mul_one]
  refine hK _ _ ?_; clear hK K
  first | refine W_regK ?_ | refine W_seq (W_regK ?_)
  intro K hK; simp (maxSteps := 1000000) (disch := omega) only [BOps_nil, BOps_cons, Cont_eq, Bev, rd, rdB, ev, updO, upd, wantD, optK_some, lenV, Nat.reduceEqDiff, ↓reduceIte, List.map, true_and, List.length_cons, List.length_nil, Nat.zero_add, hz3, zc3, u28, slT28, g7, mkSlK]
  refine ⟨by omega, by omega, by omega, by omega, ?_⟩
  have e1 : ((ks.length : Int) + 1).toNat = ks.length + 1 := by omega
  have e1' : ((ks.length + 1 : Nat) : Int).toNat = ks.length + 1 := by omega
  first | rw [e1', tb_rep] | rw [e1, tb_rep]
  have hE2 := hE.push (row 3 (tb ks.length fun _ => 0))
  have hx := get_new H1 (row 3 (tb ks.length fun _ => 0))
  have hb2 := ((Ext.refl H1).push (row 3 (tb ks.length fun _ => 0))).get hb
  have hxn : H1.size ≠ nb := by have := lt_of_get hb; omega
  have hxs := hE.size
  generalize hk0 : H1.size = xb at *
  generalize H1.push _ = H2 at *
  try simp (maxSteps := 1000000) (disch := omega) only [List.getElem?_toArray, List.getElem_toArray, List.getElem_cons_zero, List.getElem_cons_succ, stn_new_i, stn_new_p, stn_new_ii, stn_new_iii, stn_new_isii, optH_some, prt, BOps_nil, BOps_cons, Cont_eq, Bev, rd, rdB, ev, updO, upd, wantD, List.getElem?_cons_succ, List.getElem?_cons_zero, vtf, vft, vtt, vff, Bool.not_true, Bool.not_false, bin, argf, optK_some, optH_some, lenV, Nat.reduceEqDiff, ↓reduceIte, List.map, List.map_toArray, List.toList_toArray, ne_eq, not_true_eq_false, not_false_eq_true, reduceCtorEq, inI_pos, wrapi, true_and, and_true, List.append_toArray, List.append_nil, List.nil_append, List.cons_append, Value.cells, Option.map_some, Option.map_none, Option.bind_some, Option.bind_none, Bool.false_eq_true, List.size_toArray, List.length_cons, List.length_nil, Nat.reduceAdd, Nat.reduceMul, Nat.zero_add, Nat.add_zero, Nat.reduceLeDiff, Nat.reduceLT, Int.reduceLT, Int.reduceLE, Int.reduceNeg, Int.reduceToNat, Nat.zero_mul, Int.toNat_zero, false_and, and_false, u3, tk3, hz3, ld3, st3, zc3, zv3, u9, tk9, hz9, ld9, st9, zc9, zv9, u22, tk22, hz22, ld22, st22, ixk22, slT22, zc22, zv22, u23, tk23, hz23, ld23, st23, ixk23, slT23, zc23, zv23, u24, tk24, hz24, ld24, st24, ixk24, slT24, zc24, zv24, u25, tk25, hz25, ld25, st25, ixk25, slT25, zc25, zv25, tk27, hz27, ld27, st27, fld27_0, fld27_1, fld27_2, fld27_3, fld27_4, plc27, zc27, u28, tk28, hz28, ld28, st28, ixk28, slT28, zc28, zv28, u71, tk71, hz71, ld71, st71, zc71, zv71, tk73, hz73, ld73, st73, fld73_0, fld73_1, fld73_2, plc73, zc73, tk75, hz75, ld75, st75, fld75_0, fld75_1, fld75_2, plc75, zc75]
  refine hK _ _ ?_; clear hK K
  first | refine W_regK ?_ | refine W_seq (W_regK ?_)
  intro K hK; simp (maxSteps := 1000000) (disch := omega) only [BOps_nil, BOps_cons, Cont_eq, Bev, rd, rdB, ev, updO, upd, wantD, optK_some, lenV, Nat.reduceEqDiff, ↓reduceIte, List.map, u28, g7]
  refine hK _ _ ?_; clear hK K
  generalize hnow : rowf g ks W (l.take k) (unit a) = now at *
  have hno : NOk now := by rw [← hnow]; exact rowf_ok h.ok _ (unit_ok a)
  have hnlo := hno.lo
  have hnhi := hno.hi
  first | refine W_seq (W_block (W_loop (fun z f H' => ∃ i : Nat, i ≤ ks.length + 1 ∧ z = ks.length + 1 - i ∧ f 0 = .pointer (some ⟨c, 0, none⟩) ∧ f 9 = .int .i64 s ∧ f 10 = .slice (some ⟨xb, 0, none⟩) (ks.length + 1) (ks.length + 1) ∧ f 25 = .slice (some ⟨bl, ol, none⟩) l.length cl ∧ f 26 = .int .i64 l.length ∧ f 27 = .int .i64 k ∧ f 34 = .slice (some ⟨nb, 0, none⟩) (ks.length + 1) (ks.length + 1) ∧ f 35 = .int .i64 ((ks.length : Int) + 1) ∧ f 36 = .int .i64 i ∧ Ext H H' ∧ H'[nb]? = some (row 3 (tb ks.length now)) ∧ H'[xb]? = some (row 3 (tb ks.length (stpU g ks W s now i)))) (ks.length + 1) ?_ ?_)) | refine W_block (W_loop (fun z f H' => ∃ i : Nat, i ≤ ks.length + 1 ∧ z = ks.length + 1 - i ∧ f 0 = .pointer (some ⟨c, 0, none⟩) ∧ f 9 = .int .i64 s ∧ f 10 = .slice (some ⟨xb, 0, none⟩) (ks.length + 1) (ks.length + 1) ∧ f 25 = .slice (some ⟨bl, ol, none⟩) l.length cl ∧ f 26 = .int .i64 l.length ∧ f 27 = .int .i64 k ∧ f 34 = .slice (some ⟨nb, 0, none⟩) (ks.length + 1) (ks.length + 1) ∧ f 35 = .int .i64 ((ks.length : Int) + 1) ∧ f 36 = .int .i64 i ∧ Ext H H' ∧ H'[nb]? = some (row 3 (tb ks.length now)) ∧ H'[xb]? = some (row 3 (tb ks.length (stpU g ks W s now i)))) (ks.length + 1) ?_ ?_)
  · refine ⟨0, by omega, by omega, by simp [upd, g0], by simp [upd], by simp [upd], by simp [upd, g25], by simp [upd, g26], by simp [upd, g27], by simp [upd], by simp [upd], by simp [upd], hE2, hb2, ?_⟩
    rw [hx]; congr 2; exact tb_congr fun i _ => (stpU_zero g ks W s now i).symm
  · clear hE2 hb2 hx g0 g7 g25 g26 g27 hb hE
    rintro z f2 H3 ⟨i, hi1, rfl, g0, g9, g10, g25, g26, g27, g34, g35, g36, hE, hb, hx⟩
    first | refine W_regK ?_ | refine W_seq (W_regK ?_)
    intro K hK; simp (maxSteps := 1000000) (disch := omega) only [BOps_nil, BOps_cons, Cont_eq, Bev, rd, ev, updO, wantD, bin, optK_some, ↓reduceIte, List.map, ne_eq, not_true_eq_false, g35, g36]
    refine hK _ _ ?_; clear hK K
    first | refine W_if (t := _) (by simp only [ev, upd, ↓reduceIte]; rfl) ?_ ?_ | refine W_cond (t := _) (by simp only [ev, upd, argf, Nat.reduceEqDiff, ↓reduceIte, reduceCtorEq]; rfl) ?_ ?_
    rotate_left
    · intro hc
      have hge : i = ks.length + 1 := by have : ¬ (i : Int) < (ks.length : Int) + 1 := by simpa using hc
                                         omega
      subst hge
      refine W_exit ?_; simp only [thenQ, blockQ, ↓reduceIte]
      refine W_reg ?_; simp (maxSteps := 1000000) (disch := omega) only [BOps_nil, BOps_cons, Cont_eq, Bev, rd, ev, updO, upd, wantD, optK_some, Nat.reduceEqDiff, ↓reduceIte, List.map, g10]
      simp only [thenQ, blockQ]
      refine W_reg ?_; simp (maxSteps := 1000000) (disch := omega) only [BOps_nil, BOps_cons, Cont_eq, Bev, rd, ev, updO, upd, wantD, bin, optK_some, Nat.reduceEqDiff, ↓reduceIte, List.map, ne_eq, not_true_eq_false, wrapi, g27]
      simp only [thenQ]
      refine ⟨l.length - (k + 1), by omega, k + 1, xb, by omega, rfl, by simp [upd, g0], by simp [upd], by simp [upd, g25], by simp [upd, g26], by simp [upd], hE, by omega, ?_⟩
      rw [hx, List.take_add_one, List.getElem?_eq_getElem hkl2, hsd]
      simp only [Option.toList_some, rowf_snoc, hnow]
      rfl
    intro hc
    have hi2 : i ≤ ks.length := by have : (i : Int) < (ks.length : Int) + 1 := by simpa using hc
                                   omega
    refine W_skip ?_; try simp only [thenQ]
    first | refine W_seq (W_block ?_) | refine W_block ?_
    have hni : ldc H3 ⟨nb, i, none⟩ = some (.int .i64 (now i)) := by rw [ldc_row hb, tb_get hi2]
    first | refine W_regK ?_ | refine W_seq (W_regK ?_)
    intro K hK; simp (maxSteps := 1000000) (disch := omega) only [BOps_nil, BOps_cons, Cont_eq, Bev, rd, ev, updO, upd, wantD, optK_some, Nat.reduceEqDiff, ↓reduceIte, List.map, inI_pos, Nat.zero_add, ld3, ixk28, g34, g36, Int.toNat_natCast, Nat.mul_one, hni]
    refine hK _ _ ?_; clear hK K
    obtain ⟨l0, l5, l6⟩ := heads H3 hE
    first | refine W_regK ?_ | refine W_seq (W_regK ?_)
    intro K hK; simp (maxSteps := 1000000) (disch := omega) only [BOps_nil, BOps_cons, Cont_eq, Bev, rd, rdB, ev, updO, upd, wantD, optK_some, lenV, ↓reduceIte, List.map, reduceCtorEq, Nat.add_zero, u22, ld22, fld27_0, fld73_0, g0, l0]
    refine hK _ _ ?_; clear hK K
    first | refine W_seq (W_block ?_) | refine W_block ?_
    have hxx := hx
    have fin : ∀ (f3 : Nat → Value) (H4 : Hp), f3 0 = .pointer (some ⟨c, 0, none⟩) → f3 9 = .int .i64 s → f3 10 = .slice (some ⟨xb, 0, none⟩) (ks.length + 1) (ks.length + 1) → f3 25 = .slice (some ⟨bl, ol, none⟩) l.length cl → f3 26 = .int .i64 l.length → f3 27 = .int .i64 k → f3 34 = .slice (some ⟨nb, 0, none⟩) (ks.length + 1) (ks.length + 1) → f3 35 = .int .i64 ((ks.length : Int) + 1) → f3 36 = .int .i64 ((i : Int) + 1) → Ext H H4 → H4[nb]? = some (row 3 (tb ks.length now)) → H4[xb]? = some (row 3 (tb ks.length (stpU g ks W s now (i + 1)))) →
        ∃ j, j < ks.length + 1 - i ∧ ∃ i : Nat, i ≤ ks.length + 1 ∧ j = ks.length + 1 - i ∧ f3 0 = .pointer (some ⟨c, 0, none⟩) ∧ f3 9 = .int .i64 s ∧ f3 10 = .slice (some ⟨xb, 0, none⟩) (ks.length + 1) (ks.length + 1) ∧ f3 25 = .slice (some ⟨bl, ol, none⟩) l.length cl ∧ f3 26 = .int .i64 l.length ∧ f3 27 = .int .i64 k ∧ f3 34 = .slice (some ⟨nb, 0, none⟩) (ks.length + 1) (ks.length + 1) ∧ f3 35 = .int .i64 ((ks.length : Int) + 1) ∧ f3 36 = .int .i64 i ∧ Ext H H4 ∧ H4[nb]? = some (row 3 (tb ks.length now)) ∧ H4[xb]? = some (row 3 (tb ks.length (stpU g ks W s now i))) := by
      intro f3 H4 q0 q1 q2 q3 q4 q5 q6 q7 q8 q9 q10 q11
      exact ⟨ks.length + 1 - (i + 1), by omega, i + 1, by omega, rfl, q0, q1, q2, q3, q4, q5, q6, q7, q8, q9, q10, q11⟩
    by_cases c1 : now i = 0
    · have c1' : (now i == 0) = true := beq_iff_eq.2 c1
      first | refine W_regK ?_ | refine W_seq (W_regK ?_)
      intro K hK; simp (maxSteps := 1000000) (disch := omega) only [BOps_nil, BOps_cons, Cont_eq, Bev, rd, ev, updO, upd, wantD, bin, optK_some, Nat.reduceEqDiff, ↓reduceIte, List.map, ne_eq, not_true_eq_false, c1']
      refine hK _ _ ?_; clear hK K
      first | refine W_seq (W_cond_t (by simp only [ev]) ?_) | refine W_cond_t (by simp only [ev, upd, ↓reduceIte]) ?_
      refine W_skip ?_; try simp only [thenQ, blockQ]
      refine W_reg ?_; simp (maxSteps := 1000000) (disch := omega) only [BOps_nil, BOps_cons, Cont_eq, Bev, rd, ev, updO, upd, wantD, bin, optK_some, Nat.reduceEqDiff, ↓reduceIte, List.map, ne_eq, not_true_eq_false, wrapi, g36]
      simp only [thenQ]
      refine fin _ _ (by simp [upd, g0]) (by simp [upd, g9]) (by simp [upd, g10]) (by simp [upd, g25]) (by simp [upd, g26]) (by simp [upd, g27]) (by simp [upd, g34]) (by simp [upd, g35]) (by simp [upd]) hE hb ?_
      rw [hx]; congr 2
      refine tb_congr fun j hj => ?_
      by_cases hsn : s ≥ g.nt
      · exact (stpU_name0 c1 hsn h.ok hno j).symm
      · rw [stpU_term hsn]
        split
        · rename_i e
          have : stpU g ks W s now i j = 0 := by
            unfold stpU
            rw [if_neg hsn, if_neg (by omega)]
          rw [this, c1]
        · rfl
    · have c1' : (now i == 0) = false := beq_eq_false_iff_ne.2 c1
      first | refine W_regK ?_ | refine W_seq (W_regK ?_)
      intro K hK; simp (maxSteps := 1000000) (disch := omega) only [BOps_nil, BOps_cons, Cont_eq, Bev, rd, ev, updO, upd, wantD, bin, optK_some, Nat.reduceEqDiff, ↓reduceIte, List.map, ne_eq, not_true_eq_false, c1']
      refine hK _ _ ?_; clear hK K
      first | refine W_seq (W_cond_f (by simp only [ev]) ?_) | refine W_cond_f (by simp only [ev, upd, ↓reduceIte]) ?_
      by_cases c2 : s ≥ g.nt
      · have c2' : decide (s ≥ (g.nt : Int)) = true := by simpa using c2
        first | refine W_regK ?_ | refine W_seq (W_regK ?_)
        intro K hK; simp (maxSteps := 1000000) (disch := omega) only [BOps_nil, BOps_cons, Cont_eq, Bev, rd, ev, updO, upd, wantD, bin, optK_some, Nat.reduceEqDiff, ↓reduceIte, List.map, ne_eq, not_true_eq_false, g9, c2']
        refine hK _ _ ?_; clear hK K
        first | refine W_seq (W_cond_t (by simp only [ev]) ?_) | refine W_cond_t (by simp only [ev, upd, ↓reduceIte]) ?_
        first | refine W_regK ?_ | refine W_seq (W_regK ?_)
        intro K hK; simp (maxSteps := 1000000) (disch := omega) only [BOps_nil, BOps_cons, Cont_eq, Bev, rd, ev, updO, upd, wantD, optK_some, Nat.reduceEqDiff, ↓reduceIte, List.map]
        refine hK _ _ ?_; clear hK K
        first | refine W_seq (W_block (W_loop (fun z f H' => ∃ j : Nat, i ≤ j ∧ j ≤ ks.length + 1 ∧ z = ks.length + 1 - j ∧ f 0 = .pointer (some ⟨c, 0, none⟩) ∧ f 9 = .int .i64 s ∧ f 10 = .slice (some ⟨xb, 0, none⟩) (ks.length + 1) (ks.length + 1) ∧ f 11 = .int .i64 i ∧ f 12 = .int .i64 (now i) ∧ f 13 = .int .i64 g.nt ∧ f 14 = .int .i64 j ∧ f 25 = .slice (some ⟨bl, ol, none⟩) l.length cl ∧ f 26 = .int .i64 l.length ∧ f 27 = .int .i64 k ∧ f 34 = .slice (some ⟨nb, 0, none⟩) (ks.length + 1) (ks.length + 1) ∧ f 35 = .int .i64 ((ks.length : Int) + 1) ∧ f 36 = .int .i64 i ∧ Ext H H' ∧ H'[nb]? = some (row 3 (tb ks.length now)) ∧ H'[xb]? = some (row 3 (tb ks.length (fun j' => if j' < j then stpU g ks W s now (i + 1) j' else stpU g ks W s now i j')))) (ks.length + 1 - i) ?_ ?_)) | refine W_block (W_loop (fun z f H' => ∃ j : Nat, i ≤ j ∧ j ≤ ks.length + 1 ∧ z = ks.length + 1 - j ∧ f 0 = .pointer (some ⟨c, 0, none⟩) ∧ f 9 = .int .i64 s ∧ f 10 = .slice (some ⟨xb, 0, none⟩) (ks.length + 1) (ks.length + 1) ∧ f 11 = .int .i64 i ∧ f 12 = .int .i64 (now i) ∧ f 13 = .int .i64 g.nt ∧ f 14 = .int .i64 j ∧ f 25 = .slice (some ⟨bl, ol, none⟩) l.length cl ∧ f 26 = .int .i64 l.length ∧ f 27 = .int .i64 k ∧ f 34 = .slice (some ⟨nb, 0, none⟩) (ks.length + 1) (ks.length + 1) ∧ f 35 = .int .i64 ((ks.length : Int) + 1) ∧ f 36 = .int .i64 i ∧ Ext H H' ∧ H'[nb]? = some (row 3 (tb ks.length now)) ∧ H'[xb]? = some (row 3 (tb ks.length (fun j' => if j' < j then stpU g ks W s now (i + 1) j' else stpU g ks W s now i j')))) (ks.length + 1 - i) ?_ ?_)
        · refine ⟨i, by omega, by omega, by omega, by simp [upd, g0], by simp [upd, g9], by simp [upd, g10], by simp [upd], by simp [upd], by simp [upd], by simp [upd], by simp [upd, g25], by simp [upd, g26], by simp [upd, g27], by simp [upd, g34], by simp [upd, g35], by simp [upd, g36], hE, hb, ?_⟩
          rw [hx]; congr 2
          refine tb_congr fun j hj => ?_
          split
          · rw [stpU_name h.ok hno c2, if_neg (by omega)]
          · rfl
        · clear hE hb hx hxx g0 g9 g10 g25 g26 g27 g34 g35 g36 l0 l5 l6 hni
          rintro z f4 H4 ⟨j, hij, hj1, rfl, g0, g9, g10, g11, g12, g13, g14, g25, g26, g27, g34, g35, g36, hE, hb, hx⟩
          first | refine W_regK ?_ | refine W_seq (W_regK ?_)
          intro K hK; simp (maxSteps := 1000000) (disch := omega) only [BOps_nil, BOps_cons, Cont_eq, Bev, rd, rdB, ev, updO, upd, wantD, bin, optK_some, lenV, Nat.reduceEqDiff, ↓reduceIte, List.map, ne_eq, not_true_eq_false, u28, g10, g14]
          refine hK _ _ ?_; clear hK K
          first | refine W_if (t := _) (by simp only [ev]; rfl) ?_ ?_ | refine W_cond (t := _) (by simp only [ev, upd, ↓reduceIte]; rfl) ?_ ?_
          rotate_left
          · intro hc
            have hge : j = ks.length + 1 := by have : ¬ (j : Int) < ((ks.length + 1 : Nat) : Int) := by simpa using hc
                                               omega
            subst hge
            refine W_exit ?_; simp only [thenQ, blockQ, ↓reduceIte]
            refine W_reg ?_; simp (maxSteps := 1000000) (disch := omega) only [BOps_nil, BOps_cons, Cont_eq, Bev, rd, ev, updO, upd, wantD, bin, optK_some, Nat.reduceEqDiff, ↓reduceIte, List.map, ne_eq, not_true_eq_false, wrapi, g36]
            simp only [thenQ]
            refine fin _ _ (by simp [upd, g0]) (by simp [upd, g9]) (by simp [upd, g10]) (by simp [upd, g25]) (by simp [upd, g26]) (by simp [upd, g27]) (by simp [upd, g34]) (by simp [upd, g35]) (by simp [upd]) hE hb ?_
            rw [hx]; congr 2
            refine tb_congr fun j hj => ?_
            rw [if_pos (by omega)]
          intro hc
          have hj2 : j ≤ ks.length := by have : (j : Int) < ((ks.length + 1 : Nat) : Int) := by simpa using hc
                                         omega
          refine W_skip ?_; try simp only [thenQ]
          first | refine W_seq (W_block ?_) | refine W_block ?_
          obtain ⟨l0, l5, l6⟩ := heads H4 hE
          have hmi := (h.mi.ext hE).lk (s - g.nt) i j
          have hxj : ldc H4 ⟨xb, j, none⟩ = some (.int .i64 (stpU g ks W s now i j)) := by rw [ldc_row hx, tb_get hj2, if_neg (by omega)]
          have hso := stpU_ok (g := g) (ks := ks) h.ok hno s i
          have hs0 := hso.lo j
          have hs2 := hso.hi j
          have hm0 : 0 ≤ now i * W ⟨s - g.nt, i, j⟩ := Int.mul_nonneg (hnlo _) (hwlo _)
          have hm4 : now i * W ⟨s - g.nt, i, j⟩ ≤ 2 * 2 := mul_mono (hnlo _) (hnhi _) (hwlo _) (hwhi _)
          have hst : stn H4 ⟨xb, j, none⟩ [.int .i64 (if 2 < stpU g ks W s now i j + now i * W ⟨s - g.nt, i, j⟩ then 2 else stpU g ks W s now i j + now i * W ⟨s - g.nt, i, j⟩)] = some (H4.setIfInBounds xb (row 3 (tb ks.length (fun j' => if j' < j + 1 then stpU g ks W s now (i + 1) j' else stpU g ks W s now i j')))) := by
            rw [stn_row hx (by rw [tb_len]; simp; omega) rfl, ow_one (by rw [tb_len]; omega), tb_set]
            congr 3
            refine tb_congr fun j' hj' => ?_
            by_cases e : j' = j
            · subst e; rw [if_pos rfl, if_pos (show j' < j' + 1 by omega), stpU_name h.ok hno c2, if_pos hij]; rfl
            · rw [if_neg e]
              by_cases e2 : j' < j
              · rw [if_pos e2, if_pos (by omega)]
              · rw [if_neg e2, if_neg (by omega)]
          refine W_chain 21 mixed (by decide +kernel) (by decide +kernel) ?_; simp (maxSteps := 1000000) (disch := omega) only [List.take_succ_cons, List.take_zero, List.drop_succ_cons, List.drop_zero, optQ_some, QOps_nil, QOps_cons, QCont_eq, QBev, rq, optH_some, BOps_nil, BOps_cons, Cont_eq, Bev, rd, rdB, ev, updO, upd, wantD, bin, optK_some, optH_some, Nat.reduceEqDiff, ↓reduceIte, List.map, List.toList_toArray, ne_eq, not_true_eq_false, reduceCtorEq, inI_pos, wrapi, Value.cells, List.size_toArray, List.length_cons, List.length_nil, Nat.zero_add, ld3, st3, ixk28, ld71, fld73_2, g0, g9, g10, g11, g12, g13, g14, l6, bld75, hmi, hxj, Int.toNat_natCast, Nat.mul_one, hst]
          simp only [thenQ, blockQ]
          have hE' := hE.set (by omega : H.size ≤ xb) (row 3 (tb ks.length (fun j' => if j' < j + 1 then stpU g ks W s now (i + 1) j' else stpU g ks W s now i j')))
          have hx' := get_set (lt_of_get hx) (row 3 (tb ks.length (fun j' => if j' < j + 1 then stpU g ks W s now (i + 1) j' else stpU g ks W s now i j')))
          have hb' := (get_set_ne (fun e => hxn e) (row 3 (tb ks.length (fun j' => if j' < j + 1 then stpU g ks W s now (i + 1) j' else stpU g ks W s now i j')))).trans hb
          generalize H4.setIfInBounds xb _ = H5 at *
          refine W_reg ?_; simp (maxSteps := 1000000) (disch := omega) only [BOps_nil, BOps_cons, Cont_eq, Bev, rd, ev, updO, upd, wantD, bin, optK_some, Nat.reduceEqDiff, ↓reduceIte, List.map, ne_eq, not_true_eq_false, wrapi, g14]
          simp only [thenQ]
          exact ⟨ks.length + 1 - (j + 1), by omega, j + 1, by omega, by omega, rfl, by simp [upd, g0], by simp [upd, g9], by simp [upd, g10], by simp [upd, g11], by simp [upd, g12], by simp [upd, g13], by simp [upd], by simp [upd, g25], by simp [upd, g26], by simp [upd, g27], by simp [upd, g34], by simp [upd, g35], by simp [upd, g36], hE', hb', hx'⟩
      · have c2' : decide (s ≥ (g.nt : Int)) = false := by simpa using c2
        first | refine W_regK ?_ | refine W_seq (W_regK ?_)
        intro K hK; simp (maxSteps := 1000000) (disch := omega) only [BOps_nil, BOps_cons, Cont_eq, Bev, rd, ev, updO, upd, wantD, bin, optK_some, Nat.reduceEqDiff, ↓reduceIte, List.map, ne_eq, not_true_eq_false, g9, c2']
        refine hK _ _ ?_; clear hK K
        first | refine W_seq (W_cond_f (by simp only [ev]) ?_) | refine W_cond_f (by simp only [ev, upd, ↓reduceIte]) ?_
        by_cases c3 : i < ks.length
        · have c3' : decide ((i : Int) < ks.length) = true := by simpa using c3
          obtain ⟨bk, ok, ck', ek, -, hkk⟩ := (RdI.ext (h.ext.trans hE) hk).opn (by omega)
          injection ek with ek _ _
          subst ek
          have hki := hkk i (by omega) (by omega)
          rw [Int.toNat_natCast, Nat.mul_one] at hki
          by_cases c4 : gi ks i = s
          · have c4' : (gi ks i == s) = true := beq_iff_eq.2 c4
            first | refine W_regK ?_ | refine W_seq (W_regK ?_)
            intro K hK; simp (maxSteps := 1000000) (disch := omega) only [BOps_nil, BOps_cons, Cont_eq, Bev, rd, rdB, ev, updO, upd, wantD, List.getElem?_cons_succ, List.getElem?_cons_zero, vtt, bin, optK_some, lenV, Nat.reduceEqDiff, ↓reduceIte, List.map, ne_eq, not_true_eq_false, reduceCtorEq, inI_pos, Nat.zero_add, ld3, u28, ld28, ixk28, fld73_1, g0, g9, l5, c3', hki, c4', Int.toNat_natCast, Nat.mul_one]
            refine hK _ _ ?_; clear hK K
            first | refine W_seq (W_cond_t (by simp only [ev]) ?_) | refine W_cond_t (by simp only [ev, upd, ↓reduceIte]) ?_
            have e1 : ((i : Int) + 1).toNat = i + 1 := by omega
            have h0 : stpU g ks W s now i (i + 1) = 0 := by unfold stpU; rw [if_neg c2, if_neg (by omega)]
            have hxj : ldc H3 ⟨xb, i + 1, none⟩ = some (.int .i64 0) := by rw [ldc_row hx, tb_get (by omega), h0]
            have hn0 := hnlo i
            have hn2 := hnhi i
            have hst : stn H3 ⟨xb, i + 1, none⟩ [.int .i64 (if 2 < 0 + now i then 2 else 0 + now i)] = some (H3.setIfInBounds xb (row 3 (tb ks.length (stpU g ks W s now (i + 1))))) := by
              rw [stn_row hx (by rw [tb_len]; simp; omega) rfl, ow_one (by rw [tb_len]; omega), tb_set]
              congr 3
              refine tb_congr fun j' hj' => ?_
              rw [stpU_term c2]
              by_cases e : j' = i + 1
              · subst e; rw [if_pos rfl, if_neg (show ¬ 2 < 0 + now i by omega), Int.zero_add, if_pos ⟨rfl, c4, c3⟩]
              · rw [if_neg e, if_neg (fun h => e h.1)]
            refine W_reg ?_; simp (maxSteps := 1000000) (disch := omega) only [optH_some, BOps_nil, BOps_cons, Cont_eq, Bev, rd, rdB, ev, updO, upd, wantD, bin, optK_some, optH_some, Nat.reduceEqDiff, ↓reduceIte, List.map, List.toList_toArray, ne_eq, not_true_eq_false, inI_pos, wrapi, Value.cells, List.size_toArray, List.length_cons, List.length_nil, Nat.zero_add, ld3, st3, ixk28, g10, e1, hxj, Nat.mul_one, hst]
            simp only [thenQ, blockQ]
            have hE' := hE.set (by omega : H.size ≤ xb) (row 3 (tb ks.length (stpU g ks W s now (i + 1))))
            have hx' := get_set (lt_of_get hx) (row 3 (tb ks.length (stpU g ks W s now (i + 1))))
            have hb' := (get_set_ne (fun e => hxn e) (row 3 (tb ks.length (stpU g ks W s now (i + 1))))).trans hb
            generalize H3.setIfInBounds xb _ = H5 at *
            refine W_reg ?_; simp (maxSteps := 1000000) (disch := omega) only [BOps_nil, BOps_cons, Cont_eq, Bev, rd, ev, updO, upd, wantD, bin, optK_some, Nat.reduceEqDiff, ↓reduceIte, List.map, ne_eq, not_true_eq_false, wrapi, g36]
            simp only [thenQ]
            exact fin _ _ (by simp [upd, g0]) (by simp [upd, g9]) (by simp [upd, g10]) (by simp [upd, g25]) (by simp [upd, g26]) (by simp [upd, g27]) (by simp [upd, g34]) (by simp [upd, g35]) (by simp [upd]) hE' hb' hx'
          · have c4' : (gi ks i == s) = false := beq_eq_false_iff_ne.2 c4
            first | refine W_regK ?_ | refine W_seq (W_regK ?_)
            intro K hK; simp (maxSteps := 1000000) (disch := omega) only [BOps_nil, BOps_cons, Cont_eq, Bev, rd, rdB, ev, updO, upd, wantD, List.getElem?_cons_succ, List.getElem?_cons_zero, vtt, bin, optK_some, lenV, Nat.reduceEqDiff, ↓reduceIte, List.map, ne_eq, not_true_eq_false, reduceCtorEq, inI_pos, Nat.zero_add, ld3, u28, ld28, ixk28, fld73_1, g0, g9, l5, c3', hki, c4', Int.toNat_natCast, Nat.mul_one]
            refine hK _ _ ?_; clear hK K
            first | refine W_seq (W_cond_f (by simp only [ev]) ?_) | refine W_cond_f (by simp only [ev, upd, ↓reduceIte]) ?_
            refine W_skip ?_; try simp only [thenQ, blockQ]
            refine W_reg ?_; simp (maxSteps := 1000000) (disch := omega) only [BOps_nil, BOps_cons, Cont_eq, Bev, rd, ev, updO, upd, wantD, bin, optK_some, Nat.reduceEqDiff, ↓reduceIte, List.map, ne_eq, not_true_eq_false, wrapi, g36]
            simp only [thenQ]
            refine fin _ _ (by simp [upd, g0]) (by simp [upd, g9]) (by simp [upd, g10]) (by simp [upd, g25]) (by simp [upd, g26]) (by simp [upd, g27]) (by simp [upd, g34]) (by simp [upd, g35]) (by simp [upd]) hE hb ?_
            rw [hx]; congr 2
            refine tb_congr fun j hj => ?_
            rw [stpU_term c2, if_neg (fun h => c4 h.2.1)]
        · have c3' : decide ((i : Int) < ks.length) = false := by simpa using c3
          first | refine W_regK ?_ | refine W_seq (W_regK ?_)
          intro K hK; simp (maxSteps := 1000000) (disch := omega) only [BOps_nil, BOps_cons, Cont_eq, Bev, rd, rdB, ev, updO, upd, wantD, List.getElem?_cons_succ, List.getElem?_cons_zero, vft, bin, optK_some, lenV, Nat.reduceEqDiff, ↓reduceIte, List.map, ne_eq, not_true_eq_false, reduceCtorEq, Bool.false_eq_true, Nat.zero_add, u28, ld28, fld73_1, g0, l5, c3']
          refine hK _ _ ?_; clear hK K
          first | refine W_seq (W_cond_f (by simp only [ev]) ?_) | refine W_cond_f (by simp only [ev, upd, ↓reduceIte]) ?_
          refine W_skip ?_; try simp only [thenQ, blockQ]
          refine W_reg ?_; simp (maxSteps := 1000000) (disch := omega) only [BOps_nil, BOps_cons, Cont_eq, Bev, rd, ev, updO, upd, wantD, bin, optK_some, Nat.reduceEqDiff, ↓reduceIte, List.map, ne_eq, not_true_eq_false, wrapi, g36]
          simp only [thenQ]
          refine fin _ _ (by simp [upd, g0]) (by simp [upd, g9]) (by simp [upd, g10]) (by simp [upd, g25]) (by simp [upd, g26]) (by simp [upd, g27]) (by simp [upd, g34]) (by simp [upd, g35]) (by simp [upd]) hE hb ?_
          rw [hx]; congr 2
          refine tb_congr fun j hj => ?_
          rw [stpU_term c2, if_neg (fun h => c3 h.2.2)]
end Go.Proofs.Yteheedbhmggcgaa
