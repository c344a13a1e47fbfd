import Derived.Test.YteheedbhmggcgaaEO
namespace Go.Proofs.Yteheedbhmggcgaa
open Go Go.Vy Go.Proofs
set_option linter.unusedSimpArgs false
set_option linter.unusedVariables false
theorem stn_gram (H : Hp) {p1 p2 p3 p4 p5 : Option Addr} {n1 n2 n3 n4 n5 c1 c2 c3 c4 c5 : Nat} {l : List Value} (hl : l.length = 5) : stn (H.push (row 27 l)) ⟨H.size, 0, none⟩ [.slice p1 n1 c1, .slice p2 n2 c2, .slice p3 n3 c3, .slice p4 n4 c4, .slice p5 n5 c5] = some (H.push (row 27 [.slice p1 n1 c1, .slice p2 n2 c2, .slice p3 n3 c3, .slice p4 n4 c4, .slice p5 n5 c5])) := stn_new (by rw [hl]; rfl) rfl
theorem works_spec (H : Hp) : CallsV Try.prog 6 [].toArray H (fun r H' => r = .bool true ∧ Ext H H') := by
  refine calls_W (m := 30) Try.call6 Try.func6 rfl rfl (by decide +kernel) (by simp) ?_
  first | refine W_regK ?_ | refine W_seq (W_regK ?_)
  intro K hK; simp (maxSteps := 1000000) (disch := omega) only [BOps_nil, BOps_cons, Cont_eq, Bev, rd, ev, updO, wantD, argf, optK_some, ↓reduceIte, List.map]
  refine hK _ _ ?_; clear hK K
  first | refine W_regK ?_ | refine W_seq (W_regK ?_)
  intro K hK; simp (maxSteps := 1000000) (disch := omega) only [BOps_cons, Bev, ev, wantD, ↓reduceIte, List.map, List.map_toArray, List.append_toArray, List.append_nil]
  refine (sums_spec H).mono ?_
  rintro r H1 ⟨hE1, vt, vl, vp, vn, vd, rfl, hg1⟩
  have hgx := hg1
  obtain ⟨at_, ct, al, cl, ap, cp, an, cn, ad, cd, rfl, rfl, rfl, rfl, rfl⟩ := hgx.lens
  have hst := stn_gram H1 (p1 := at_) (p2 := al) (p3 := ap) (p4 := an) (p5 := ad) (n1 := gSums.nt) (n2 := gSums.lev.length) (n3 := gSums.pats.length) (n4 := gSums.nn) (n5 := gSums.prods.length) (c1 := ct) (c2 := cl) (c3 := cp) (c4 := cn) (c5 := cd) (l := zc Try.prog 27) (by rw [zc27]; rfl)
  rw [zc27] at hst
  try simp (maxSteps := 1000000) (disch := omega) only [optH_some, BOps_nil, BOps_cons, Cont_eq, Bev, ev, updO, upd, wantD, optH_some, Nat.reduceEqDiff, ↓reduceIte, List.toList_toArray, Value.cells, List.size_toArray, List.length_cons, List.length_nil, Nat.reduceAdd, Nat.zero_add, hz27, st27, zc27, hz27, hst]
  have hE2 := hE1.push (row 27 [Value.slice at_ gSums.nt ct, .slice al gSums.lev.length cl, .slice ap gSums.pats.length cp, .slice an gSums.nn cn, .slice ad gSums.prods.length cd])
  have hb2 := get_new H1 (row 27 [Value.slice at_ gSums.nt ct, .slice al gSums.lev.length cl, .slice ap gSums.pats.length cp, .slice an gSums.nn cn, .slice ad gSums.prods.length cd])
  have hg2 := hg1.ext ((Ext.refl H1).push (row 27 [Value.slice at_ gSums.nt ct, .slice al gSums.lev.length cl, .slice ap gSums.pats.length cp, .slice an gSums.nn cn, .slice ad gSums.prods.length cd]))
  generalize hk0 : H1.size = b at *
  generalize H1.push (row 27 [Value.slice at_ gSums.nt ct, .slice al gSums.lev.length cl, .slice ap gSums.pats.length cp, .slice an gSums.nn cn, .slice ad gSums.prods.length cd]) = H2 at *
  refine hK _ _ ?_; clear hK K
  have l2 : ldn H2 5 ⟨b, 0, none⟩ = some [Value.slice at_ gSums.nt ct, .slice al gSums.lev.length cl, .slice ap gSums.pats.length cp, .slice an gSums.nn cn, .slice ad gSums.prods.length cd] := by rw [ldn_row hb2]; rfl
  first | refine W_regK ?_ | refine W_seq (W_regK ?_)
  intro K hK; simp (maxSteps := 1000000) (disch := omega) only [BOps_cons, Cont_eq, Bev, rd, ev, updO, upd, wantD, optK_some, Nat.reduceEqDiff, ↓reduceIte, List.map, List.map_toArray, List.append_toArray, List.append_nil, List.nil_append, Option.map_some, ld27, l2, bslI3]
  have e2 := (Ext.refl H2).push (row 3 [iv 1, iv 2, iv 1])
  have hr : RdI (H2.push (row 3 [iv 1, iv 2, iv 1])) (.slice (some ⟨H2.size, 0, none⟩) 3 3) [1, 2, 1] := rdI_new H2 [1, 2, 1] 3 rfl
  have hb3 := e2.get hb2
  have hg3 := hg2.ext e2
  have hE3 := hE2.trans e2
  generalize H2.push (row 3 [iv 1, iv 2, iv 1]) = H3 at *
  refine (tells_spec H3 _ _ _ _ _ _ gSums [1, 2, 1] hg3 hr _ _ _ tv0).mono ?_
  rintro r H4 ⟨rfl, f3⟩
  clear hr
  have hb4 := f3.get hb3
  have hg4 := hg3.ext f3
  have hE4 := hE3.trans f3
  have l4 : ldn H4 5 ⟨b, 0, none⟩ = some [Value.slice at_ gSums.nt ct, .slice al gSums.lev.length cl, .slice ap gSums.pats.length cp, .slice an gSums.nn cn, .slice ad gSums.prods.length cd] := by rw [ldn_row hb4]; rfl
  try simp (maxSteps := 1000000) (disch := omega) only [BOps_cons, Cont_eq, Bev, rd, ev, updO, upd, wantD, List.getElem?_cons_succ, List.getElem?_cons_zero, vtt, optK_some, Nat.reduceEqDiff, ↓reduceIte, List.map, List.map_toArray, List.append_toArray, List.append_nil, List.nil_append, Option.map_some, ld27, l4, bslI2]
  have e4 := (Ext.refl H4).push (row 3 [iv 1, iv 2])
  have hr : RdI (H4.push (row 3 [iv 1, iv 2])) (.slice (some ⟨H4.size, 0, none⟩) 2 2) [1, 2] := rdI_new H4 [1, 2] 2 rfl
  have hb5 := e4.get hb4
  have hg5 := hg4.ext e4
  have hE5 := hE4.trans e4
  generalize H4.push (row 3 [iv 1, iv 2]) = H5 at *
  refine (tells_spec H5 _ _ _ _ _ _ gSums [1, 2] hg5 hr _ _ _ tv1).mono ?_
  rintro r H6 ⟨rfl, f5⟩
  clear hr
  have hb6 := f5.get hb5
  have hg6 := hg5.ext f5
  have hE6 := hE5.trans f5
  have l6 : ldn H6 5 ⟨b, 0, none⟩ = some [Value.slice at_ gSums.nt ct, .slice al gSums.lev.length cl, .slice ap gSums.pats.length cp, .slice an gSums.nn cn, .slice ad gSums.prods.length cd] := by rw [ldn_row hb6]; rfl
  try simp (maxSteps := 1000000) (disch := omega) only [BOps_cons, Cont_eq, Bev, rd, ev, updO, upd, wantD, List.getElem?_cons_succ, List.getElem?_cons_zero, vtt, optK_some, Nat.reduceEqDiff, ↓reduceIte, List.map, List.map_toArray, List.append_toArray, List.append_nil, List.nil_append, Option.map_some, ld27, l6, bslI2]
  have e6 := (Ext.refl H6).push (row 3 [iv 1, iv 1])
  have hr : RdI (H6.push (row 3 [iv 1, iv 1])) (.slice (some ⟨H6.size, 0, none⟩) 2 2) [1, 1] := rdI_new H6 [1, 1] 2 rfl
  have hb7 := e6.get hb6
  have hg7 := hg6.ext e6
  have hE7 := hE6.trans e6
  generalize H6.push (row 3 [iv 1, iv 1]) = H7 at *
  refine (tells_spec H7 _ _ _ _ _ _ gSums [1, 1] hg7 hr _ _ _ tv2).mono ?_
  rintro r H8 ⟨rfl, f7⟩
  clear hr
  have hb8 := f7.get hb7
  have hg8 := hg7.ext f7
  have hE8 := hE7.trans f7
  have l8 : ldn H8 5 ⟨b, 0, none⟩ = some [Value.slice at_ gSums.nt ct, .slice al gSums.lev.length cl, .slice ap gSums.pats.length cp, .slice an gSums.nn cn, .slice ad gSums.prods.length cd] := by rw [ldn_row hb8]; rfl
  try simp (maxSteps := 1000000) (disch := omega) only [BOps_cons, Cont_eq, Bev, rd, ev, updO, upd, wantD, List.getElem?_cons_succ, List.getElem?_cons_zero, vtt, optK_some, Nat.reduceEqDiff, ↓reduceIte, List.map, List.map_toArray, List.append_toArray, List.append_nil, List.nil_append, Option.map_some, ld27, l8, bslI1]
  have e8 := (Ext.refl H8).push (row 3 [iv 1])
  have hr : RdI (H8.push (row 3 [iv 1])) (.slice (some ⟨H8.size, 0, none⟩) 1 1) [1] := rdI_new H8 [1] 1 rfl
  have hb9 := e8.get hb8
  have hg9 := hg8.ext e8
  have hE9 := hE8.trans e8
  generalize H8.push (row 3 [iv 1]) = H9 at *
  refine (tells_spec H9 _ _ _ _ _ _ gSums [1] hg9 hr _ _ _ tv3).mono ?_
  rintro r H10 ⟨rfl, f9⟩
  clear hr
  have hb10 := f9.get hb9
  have hg10 := hg9.ext f9
  have hE10 := hE9.trans f9
  have l10 : ldn H10 5 ⟨b, 0, none⟩ = some [Value.slice at_ gSums.nt ct, .slice al gSums.lev.length cl, .slice ap gSums.pats.length cp, .slice an gSums.nn cn, .slice ad gSums.prods.length cd] := by rw [ldn_row hb10]; rfl
  try simp (maxSteps := 1000000) (disch := omega) only [BOps_cons, Cont_eq, Bev, rd, ev, updO, upd, wantD, List.getElem?_cons_succ, List.getElem?_cons_zero, vtt, optK_some, Nat.reduceEqDiff, ↓reduceIte, List.map, List.map_toArray, List.append_toArray, List.append_nil, List.nil_append, Option.map_some, ld27, l10, bslI5]
  have e10 := (Ext.refl H10).push (row 3 [iv 1, iv 2, iv 1, iv 2, iv 1])
  have hr : RdI (H10.push (row 3 [iv 1, iv 2, iv 1, iv 2, iv 1])) (.slice (some ⟨H10.size, 0, none⟩) 5 5) [1, 2, 1, 2, 1] := rdI_new H10 [1, 2, 1, 2, 1] 5 rfl
  have hb11 := e10.get hb10
  have hg11 := hg10.ext e10
  have hE11 := hE10.trans e10
  generalize H10.push (row 3 [iv 1, iv 2, iv 1, iv 2, iv 1]) = H11 at *
  refine (tells_spec H11 _ _ _ _ _ _ gSums [1, 2, 1, 2, 1] hg11 hr _ _ _ tv4).mono ?_
  rintro r H12 ⟨rfl, f11⟩
  clear hr
  have hb12 := f11.get hb11
  have hg12 := hg11.ext f11
  have hE12 := hE11.trans f11
  have l12 : ldn H12 5 ⟨b, 0, none⟩ = some [Value.slice at_ gSums.nt ct, .slice al gSums.lev.length cl, .slice ap gSums.pats.length cp, .slice an gSums.nn cn, .slice ad gSums.prods.length cd] := by rw [ldn_row hb12]; rfl
  try simp (maxSteps := 1000000) (disch := omega) only [BOps_cons, Cont_eq, Bev, rd, ev, updO, upd, wantD, List.getElem?_cons_succ, List.getElem?_cons_zero, vtt, optK_some, Nat.reduceEqDiff, ↓reduceIte, List.map, List.map_toArray, List.append_toArray, List.append_nil, List.nil_append, Option.map_some, ld27, l12]
  have hr := rdI_nil H12
  refine (tells_spec H12 _ _ _ _ _ _ gSums [] hg12 hr _ _ _ tv5).mono ?_
  rintro r H13 ⟨rfl, f12⟩
  clear hr
  have hb13 := f12.get hb12
  have hg13 := hg12.ext f12
  have hE13 := hE12.trans f12
  try simp (maxSteps := 1000000) (disch := omega) only [BOps_nil, BOps_cons, Cont_eq, Bev, rd, ev, updO, upd, wantD, optK_some, Nat.reduceEqDiff, ↓reduceIte]
  refine hK _ _ ?_; clear hK K
  refine W_ret ?_; simp only [retQ, Try.results6, resV1, Option.some.injEq, exists_eq_left', upd, ↓reduceIte, List.toList_toArray, true_and]
  exact hE13
/-- Terms of a grammar, by numbers. -/
structure TermsOk (g : Gm) (ks : List Int) (most : Nat) : Prop where
  len : ks.length ≤ most
  ok : ∀ k ∈ ks, 1 ≤ k ∧ k < (g.nt : Int)
def PhiT (g : Gm) (b : Nat) (w : Value) (l : List Int) (lv : Value) (ba oa : Nat) (i : Nat) (at_ : Option Addr) (ct : Nat) (ks : List Int) (B : Option Nat) (S : Nat) : Fact
  | 0, v, _, _, _ => v = w
  | 1, v, _, _, _ => v = lv
  | 2, v, _, _, _ => v = .int .i64 i
  | 3, v, _, _, _ => v = .pointer (some ⟨ba, oa + i, none⟩)
  | 4, v, _, _, _ => v = .int .i64 (gi l i)
  | 5, v, _, _, _ => v = .pointer (some ⟨b, 0, none⟩)
  | 6, v, _, _, _ => v = .slice at_ g.nt ct
  | 7, v, _, _, _ => v = .int .i64 g.nt
  | 8, v, _, _, _ => v = .int .i64 ((g.nt : Int) - 1)
  | 9, v, _, _, _ => ∃ k : Int, v = .int .i64 k ∧ 0 ≤ k ∧ k < (g.nt : Int) - 1
  | 10, v, _, _, _ => ∃ k : Int, v = .int .i64 k ∧ 1 ≤ k ∧ k < (g.nt : Int)
  | 11, v, _, _, H => ∃ (k : Int) (nb : Nat), S ≤ nb ∧ v = .slice (some ⟨nb, 0, none⟩) 1 1 ∧ H[nb]? = some (row 3 [iv k]) ∧ 1 ≤ k ∧ k < (g.nt : Int)
  | 12, v, _, _, H => ∃ (k : Int) (B' : Option Nat), Own H v 3 1 (ks.length + 1) (ks.map iv ++ [iv k]) B' ∧ (B' = B ∨ ∃ b, S ≤ b ∧ B' = some b) ∧ 1 ≤ k ∧ k < (g.nt : Int)
  | _, _, _, _, _ => True
theorem terms_spec (H : Hp) (vt vl vp vn vd v : Value) (g : Gm) (l : List Int) (most : Nat) (hm : most ≤ 60) (hg : GV H vt vl vp vn vd g) (hv : RdI H v l) (hl : l.length ≤ 2 ^ 45) (hb : ∀ k ∈ l, -9223372036854775808 ≤ k ∧ k ≤ 9223372036854775807) :
    CallsV Try.prog 8 [.agg #[vt, vl, vp, vn, vd], v, .int .i64 most].toArray H (fun r H' => Ext H H' ∧ ∃ ks, RdI H' r ks ∧ TermsOk g ks most) := by
  have hgx := hg
  obtain ⟨at_, ct, al, cl, ap, cp, an, cn, ad, cd, rfl, rfl, rfl, rfl, rfl⟩ := hgx.lens
  have hfit := hg.fits.t
  have hnt : g.nt ≤ 2 ^ 45 := hfit
  obtain ⟨pa, pc, rfl⟩ := hv.opn'
  refine calls_W (m := 40) Try.call8 Try.func8 rfl rfl (by decide +kernel) (by simp) ?_
  first | refine W_regK ?_ | refine W_seq (W_regK ?_)
  intro K hK; simp (maxSteps := 1000000) (disch := omega) only [BOps_nil, BOps_cons, Cont_eq, Bev, rd, ev, updO, wantD, argf, optK_some, ↓reduceIte, List.map, List.toList_toArray, Value.cells]
  have hE1 := (Ext.refl H).push (row 27 [Value.slice at_ g.nt ct, .slice al g.lev.length cl, .slice ap g.pats.length cp, .slice an g.nn cn, .slice ad g.prods.length cd])
  have hb1 := get_new H (row 27 [Value.slice at_ g.nt ct, .slice al g.lev.length cl, .slice ap g.pats.length cp, .slice an g.nn cn, .slice ad g.prods.length cd])
  generalize hk0 : H.size = b at hb1 ⊢
  generalize H.push _ = H1 at *
  refine hK _ _ ?_; clear hK K
  first | refine W_regK ?_ | refine W_seq (W_regK ?_)
  intro K hK; simp (maxSteps := 1000000) (disch := omega) only [BOps_nil, BOps_cons, Cont_eq, Bev, rd, ev, updO, wantD, optK_some, ↓reduceIte, List.map]
  refine hK _ _ ?_; clear hK K
  first | refine W_regK ?_ | refine W_seq (W_regK ?_)
  intro K hK; simp (maxSteps := 1000000) (disch := omega) only [BOps_nil, BOps_cons, Cont_eq, Bev, rd, ev, updO, wantD, optK_some, ↓reduceIte, List.map]
  refine hK _ _ ?_; clear hK K
  first | refine W_seq (W_block (W_loop (fun z f H' => ∃ (i : Nat) (ks : List Int) (B : Option Nat), z = most - i ∧ i ≤ most ∧ f 1 = .slice pa l.length pc ∧ f 2 = .int .i64 most ∧ f 3 = .pointer (some ⟨b, 0, none⟩) ∧ f 8 = .int .i64 i ∧ Ext H H' ∧ H'[b]? = some (row 27 [Value.slice at_ g.nt ct, .slice al g.lev.length cl, .slice ap g.pats.length cp, .slice an g.nn cn, .slice ad g.prods.length cd]) ∧ Own H' (f 7) 3 1 ks.length (ks.map iv) B ∧ (∀ k, B = some k → H.size < k) ∧ ks.length = i ∧ ∀ k ∈ ks, 1 ≤ k ∧ k < (g.nt : Int)) most ?_ ?_)) | refine W_block (W_loop (fun z f H' => ∃ (i : Nat) (ks : List Int) (B : Option Nat), z = most - i ∧ i ≤ most ∧ f 1 = .slice pa l.length pc ∧ f 2 = .int .i64 most ∧ f 3 = .pointer (some ⟨b, 0, none⟩) ∧ f 8 = .int .i64 i ∧ Ext H H' ∧ H'[b]? = some (row 27 [Value.slice at_ g.nt ct, .slice al g.lev.length cl, .slice ap g.pats.length cp, .slice an g.nn cn, .slice ad g.prods.length cd]) ∧ Own H' (f 7) 3 1 ks.length (ks.map iv) B ∧ (∀ k, B = some k → H.size < k) ∧ ks.length = i ∧ ∀ k ∈ ks, 1 ≤ k ∧ k < (g.nt : Int)) most ?_ ?_)
  · exact ⟨0, [], none, by omega, by omega, by simp [upd, argf], by simp [upd, argf], by simp [upd], by simp [upd], hE1, hb1, by simp [upd]; exact Own.nil _ _ _, by simp, rfl, by simp⟩
  clear hE1 hb1 H1
  rintro z f H1 ⟨i, ks, B, rfl, hi, g1, g2, g3, g8, hE1, hb1, hown, hB, hki, hks⟩
  have l0 : ldc H1 ⟨b, 0, none⟩ = some (Value.slice at_ g.nt ct) := by rw [ldc_row hb1]; rfl
  by_cases c1 : (i : Int) < l.length
  rotate_left
  · have c1' : decide ((i : Int) < l.length) = false := by simpa using c1
    first | refine W_regK ?_ | refine W_seq (W_regK ?_)
    intro K hK; simp (maxSteps := 1000000) (disch := omega) only [BOps_nil, BOps_cons, Cont_eq, Bev, rd, rdB, ev, updO, upd, wantD, List.getElem?_cons_succ, List.getElem?_cons_zero, vft, bin, optK_some, lenV, Nat.reduceEqDiff, ↓reduceIte, List.map, ne_eq, not_true_eq_false, Bool.false_eq_true, u28, g1, g8, c1']
    refine hK _ _ ?_; clear hK K
    first | refine W_seq (W_cond_f (by simp only [ev]) ?_) | refine W_cond_f (by simp only [ev, upd, ↓reduceIte]) ?_
    refine W_exit ?_; simp only [thenQ, blockQ, ↓reduceIte]
    first | refine W_regK ?_ | refine W_seq (W_regK ?_)
    intro K hK; simp (maxSteps := 1000000) (disch := omega) only [BOps_nil, BOps_cons, Cont_eq, Bev, rd, ev, updO, upd, wantD, optK_some, Nat.reduceEqDiff, ↓reduceIte, List.map]
    refine hK _ _ ?_; clear hK K
    refine W_ret ?_; simp only [retQ, Try.results8, resV1, Option.some.injEq, exists_eq_left', upd, ↓reduceIte, List.toList_toArray]
    exact ⟨hE1, ks, hown.rd, by omega, hks⟩
  have c1' : decide ((i : Int) < l.length) = true := by simpa using c1
  by_cases c2 : (i : Int) < most
  rotate_left
  · have c2' : decide ((i : Int) < most) = false := by simpa using c2
    first | refine W_regK ?_ | refine W_seq (W_regK ?_)
    intro K hK; simp (maxSteps := 1000000) (disch := omega) only [BOps_nil, BOps_cons, Cont_eq, Bev, rd, rdB, ev, updO, upd, wantD, List.getElem?_cons_succ, List.getElem?_cons_zero, vft, vtt, bin, optK_some, lenV, Nat.reduceEqDiff, ↓reduceIte, List.map, ne_eq, not_true_eq_false, Bool.false_eq_true, u28, g1, g2, g8, c1', c2']
    refine hK _ _ ?_; clear hK K
    first | refine W_seq (W_cond_f (by simp only [ev]) ?_) | refine W_cond_f (by simp only [ev, upd, ↓reduceIte]) ?_
    refine W_exit ?_; simp only [thenQ, blockQ, ↓reduceIte]
    first | refine W_regK ?_ | refine W_seq (W_regK ?_)
    intro K hK; simp (maxSteps := 1000000) (disch := omega) only [BOps_nil, BOps_cons, Cont_eq, Bev, rd, ev, updO, upd, wantD, optK_some, Nat.reduceEqDiff, ↓reduceIte, List.map]
    refine hK _ _ ?_; clear hK K
    refine W_ret ?_; simp only [retQ, Try.results8, resV1, Option.some.injEq, exists_eq_left', upd, ↓reduceIte, List.toList_toArray]
    exact ⟨hE1, ks, hown.rd, by omega, hks⟩
  have c2' : decide ((i : Int) < most) = true := by simpa using c2
  by_cases c3 : (g.nt : Int) > 1
  rotate_left
  · have c3' : decide ((g.nt : Int) > 1) = false := by simpa using c3
    first | refine W_regK ?_ | refine W_seq (W_regK ?_)
    intro K hK; simp (maxSteps := 1000000) (disch := omega) only [BOps_nil, BOps_cons, Cont_eq, Bev, rd, rdB, ev, updO, upd, wantD, List.getElem?_cons_succ, List.getElem?_cons_zero, vtt, bin, optK_some, lenV, Nat.reduceEqDiff, ↓reduceIte, List.map, ne_eq, not_true_eq_false, Nat.add_zero, u22, ld22, fld27_0, u28, g1, g2, g3, g8, l0, c1', c2', c3']
    refine hK _ _ ?_; clear hK K
    first | refine W_seq (W_cond_f (by simp only [ev]) ?_) | refine W_cond_f (by simp only [ev, upd, ↓reduceIte]) ?_
    refine W_exit ?_; simp only [thenQ, blockQ, ↓reduceIte]
    first | refine W_regK ?_ | refine W_seq (W_regK ?_)
    intro K hK; simp (maxSteps := 1000000) (disch := omega) only [BOps_nil, BOps_cons, Cont_eq, Bev, rd, ev, updO, upd, wantD, optK_some, Nat.reduceEqDiff, ↓reduceIte, List.map]
    refine hK _ _ ?_; clear hK K
    refine W_ret ?_; simp only [retQ, Try.results8, resV1, Option.some.injEq, exists_eq_left', upd, ↓reduceIte, List.toList_toArray]
    exact ⟨hE1, ks, hown.rd, by omega, hks⟩
  have c3' : decide ((g.nt : Int) > 1) = true := by simpa using c3
  first | refine W_regK ?_ | refine W_seq (W_regK ?_)
  intro K hK; simp (maxSteps := 1000000) (disch := omega) only [BOps_nil, BOps_cons, Cont_eq, Bev, rd, rdB, ev, updO, upd, wantD, List.getElem?_cons_succ, List.getElem?_cons_zero, vtt, bin, optK_some, lenV, Nat.reduceEqDiff, ↓reduceIte, List.map, ne_eq, not_true_eq_false, Nat.add_zero, u22, ld22, fld27_0, u28, g1, g2, g3, g8, l0, c1', c2', c3']
  refine hK _ _ ?_; clear hK K
  first | refine W_seq (W_cond_t (by simp only [ev]) ?_) | refine W_cond_t (by simp only [ev, upd, ↓reduceIte]) ?_
  refine W_skip ?_; try simp only [thenQ]
  first | refine W_seq (W_block ?_) | refine W_block ?_
  obtain ⟨ba, oa, pc', el, -, hll⟩ := hv.opn (by omega)
  injection el with el _ _
  subst el
  have hkb := hb (gi l i) (by rw [gi_nat _ _ (by omega)]; exact List.getElem_mem _)
  have hli := ldc_ext hE1 (hll i (by omega) (by omega))
  rw [Int.toNat_natCast, Nat.mul_one] at hli
  have hbB : ∀ k, B = some k → k ≠ b := fun k e => by have := hB k e; omega
  have hBlt : ∀ k, B = some k → k < H1.size := fun k e => hown.lt k e
  have hal : ba < H.size := by have := ldc_lt (hll i (by omega) (by omega)); exact this
  have hbaB : ∀ k, B = some k → k ≠ ba := fun k e => by have := hB k e; omega
  refine W_par 13 12 (fun a b => Frm a b B) (PhiT g b (f 7) l (.slice (some ⟨ba, oa, none⟩) l.length pc) ba oa i at_ ct ks B H1.size) mixed (by decide +kernel) (frm_pre _) ?_ ?_ ?_
  · intro k v lo hi Hx Hy hx hp
    match k, hp with
    | 0, hp | 1, hp | 2, hp | 3, hp | 4, hp | 5, hp | 6, hp | 7, hp | 8, hp | 9, hp | 10, hp => exact hp
    | 11, hp =>
      obtain ⟨k, nb, h1, h2, h3, h4⟩ := hp
      have hx : Frm Hx Hy B := hx
      exact ⟨k, nb, h1, h2, hx.get h3 fun e => by have := hBlt nb e; omega, h4⟩
    | 12, hp =>
      obtain ⟨k, B', h1, h2⟩ := hp
      have hx : Ext Hx Hy := hx
      exact ⟨k, B', h1.keep fun b e => hx.blk b (h1.lt b e), h2⟩
    | k + 13, hp => trivial
  · simp only [ParSteps, List.take_succ_cons, List.take_zero]
    refine ⟨?_, ?_, ?_, ?_, ?_, ?_, ?_, ?_, ?_, ?_, ?_, ?_, ?_, trivial⟩
    · intro f1 Hy hx hout hdep; simp [depsOf, Region.binds, DepFacts] at hdep
      have e7 : f1 7 = f 7 := by rw [hout 7 (by decide +kernel)]; simp [upd]
      simp (maxSteps := 1000000) (disch := omega) only [wantB, Bev, rd, ev, optK_some, ↓reduceIte, reduceCtorEq, and_true, e7, PhiT]
      exact .refl _
    · intro f1 Hy hx hout hdep; simp [depsOf, Region.binds, DepFacts] at hdep
      have e1 : f1 1 = .slice (some ⟨ba, oa, none⟩) l.length pc := by rw [hout 1 (by decide +kernel)]; simp [upd, g1]
      simp (maxSteps := 1000000) (disch := omega) only [wantB, Bev, rd, ev, optK_some, Nat.reduceEqDiff, ↓reduceIte, and_true, Nat.zero_add, e1, PhiT]
      exact .refl _
    · intro f1 Hy hx hout hdep; simp [depsOf, Region.binds, DepFacts] at hdep
      have e8 : f1 8 = .int .i64 i := by rw [hout 8 (by decide +kernel)]; simp [upd, g8]
      simp (maxSteps := 1000000) (disch := omega) only [wantB, Bev, rd, ev, optK_some, Nat.reduceEqDiff, ↓reduceIte, and_true, Nat.reduceAdd, Nat.zero_add, e8, PhiT]
      exact .refl _
    · intro f1 Hy hx hout hdep; simp [depsOf, Region.binds, DepFacts, factAt, dstAt, PhiT] at hdep
      simp (maxSteps := 1000000) (disch := omega) only [wantB, Bev, rd, ev, optK_some, Nat.reduceEqDiff, ↓reduceIte, inI_pos, and_true, Nat.reduceAdd, Nat.zero_add, ixk28, hdep.1, hdep.2, PhiT, Int.toNat_natCast, Nat.mul_one]
      exact .refl _
    · intro f1 Hy hx hout hdep; simp [depsOf, Region.binds, DepFacts, factAt, dstAt, PhiT] at hdep
      have hx : Frm H1 Hy B := hx
      have hl : ldc Hy ⟨ba, oa + i, none⟩ = some (.int .i64 (gi l i)) := by
        rw [ldc_blk (hx.blk ba (by have := hE1.size; omega) (fun e => hbaB ba e rfl))]; exact hli
      simp (maxSteps := 1000000) (disch := omega) only [wantB, Bev, rd, ev, optK_some, Nat.reduceEqDiff, ↓reduceIte, and_true, Nat.reduceAdd, Nat.zero_add, ld3, hdep, PhiT, hl]
      exact .refl _
    · intro f1 Hy hx hout hdep; simp [depsOf, Region.binds, DepFacts] at hdep
      have e3 : f1 3 = .pointer (some ⟨b, 0, none⟩) := by rw [hout 3 (by decide +kernel)]; simp [upd, g3]
      simp (maxSteps := 1000000) (disch := omega) only [wantB, Bev, rd, ev, optK_some, Nat.reduceEqDiff, ↓reduceIte, and_true, Nat.reduceAdd, Nat.zero_add, Nat.add_zero, fld27_0, e3, PhiT]
      exact .refl _
    · intro f1 Hy hx hout hdep; simp [depsOf, Region.binds, DepFacts, factAt, dstAt, PhiT] at hdep
      have hx : Frm H1 Hy B := hx
      have hl : ldc Hy ⟨b, 0, none⟩ = some (Value.slice at_ g.nt ct) := by
        rw [ldc_blk (hx.blk b (lt_of_get hb1) (fun e => hbB b e rfl))]; exact l0
      simp (maxSteps := 1000000) (disch := omega) only [wantB, Bev, rd, ev, optK_some, Nat.reduceEqDiff, ↓reduceIte, and_true, Nat.reduceAdd, Nat.zero_add, ld22, hdep, PhiT, hl]
      exact .refl _
    · intro f1 Hy hx hout hdep; simp [depsOf, Region.binds, DepFacts, factAt, dstAt, PhiT] at hdep
      simp (maxSteps := 1000000) (disch := omega) only [wantB, Bev, rdB, ev, optK_some, lenV, Nat.reduceEqDiff, ↓reduceIte, List.map, and_true, Nat.reduceAdd, Nat.zero_add, u22, hdep, PhiT]
      exact .refl _
    · intro f1 Hy hx hout hdep; simp [depsOf, Region.binds, DepFacts, factAt, dstAt, PhiT] at hdep
      simp (maxSteps := 1000000) (disch := omega) only [wantB, Bev, rd, ev, bin, optK_some, Nat.reduceEqDiff, ↓reduceIte, ne_eq, not_true_eq_false, wrapi, and_true, Nat.reduceAdd, Nat.zero_add, hdep, PhiT]
      exact .refl _
    · intro f1 Hy hx hout hdep; simp [depsOf, Region.binds, DepFacts, factAt, dstAt, PhiT] at hdep
      simp (maxSteps := 1000000) (disch := omega) only [wantB, Bev, ev, Nat.reduceEqDiff, ↓reduceIte, List.map, List.map_toArray, List.append_toArray, List.append_nil, List.nil_append, Nat.reduceAdd, Nat.zero_add, hdep.1, hdep.2, PhiT]
      refine (bring_spec Hy (gi l i) ((g.nt : Int) - 1) hkb.1 hkb.2 (by omega)).mono ?_
      rintro r H' ⟨rfl, k, rfl, -, hk⟩
      have := hk (by omega)
      exact ⟨.refl _, k, rfl, this.1, this.2⟩
    · intro f1 Hy hx hout hdep; simp [depsOf, Region.binds, DepFacts, factAt, dstAt, PhiT] at hdep
      obtain ⟨k, hk, h1, h2⟩ := hdep
      simp (maxSteps := 1000000) (disch := omega) only [wantB, Bev, rd, ev, bin, optK_some, Nat.reduceEqDiff, ↓reduceIte, ne_eq, not_true_eq_false, wrapi, Nat.reduceAdd, Nat.zero_add, hk, PhiT]
      exact ⟨.refl _, _, rfl, by omega, by omega⟩
    · intro f1 Hy hx hout hdep; simp [depsOf, Region.binds, DepFacts, factAt, dstAt, PhiT] at hdep
      obtain ⟨k, hk, h1, h2⟩ := hdep
      have hx : Frm H1 Hy B := hx
      simp (maxSteps := 1000000) (disch := omega) only [wantB, Bev, ev, Nat.reduceEqDiff, ↓reduceIte, List.map, Nat.reduceAdd, Nat.zero_add, hk, PhiT, bslI1]
      exact ⟨(Ext.refl _).push _, k, Hy.size, hx.size, rfl, get_new _ _, h1, h2⟩
    · intro f1 Hy hx hout hdep; simp [depsOf, Region.binds, DepFacts, factAt, dstAt, PhiT] at hdep
      have hx : Ext H1 Hy := hx
      obtain ⟨hd0, ⟨k, nb, hnb, hv11, hrow, h1, h2⟩, -⟩ := hdep
      simp (maxSteps := 1000000) (disch := omega) only [wantB, Bev, ev, ↓reduceIte, List.map, Nat.reduceAdd, Nat.zero_add, u28, hd0, hv11, PhiT]
      have hs := hown.keep fun b e => hx.blk b (hown.lt b e)
      have hc : cellsOfSl Hy 1 (.slice (some ⟨nb, 0, none⟩) 1 1) = some (1, [iv k]) := by simp [cellsOfSl, hrow, row]
      refine appK_own slT28 hs hc rfl ?_ hz3 rfl ?_ ?_ ?_
      · intro y hy; simp at hy; subst hy; rfl
      · omega
      · omega
      intro v' H' B' ho hf hB'
      refine ⟨hf, k, B', ho, ?_, h1, h2⟩
      rcases hB' with rfl | rfl
      · exact .inl rfl
      · exact .inr ⟨_, hx.size, rfl⟩
  · intro f1 Hy lo hi2 hx hout hf hdis
    have hf12 := (hf 12 (by omega)).1
    simp [factAt, dstAt, PhiT] at hf12
    have hx : Frm H1 Hy B := hx
    obtain ⟨k, B', ho, hB', hk1, hk2⟩ := hf12
    simp only [List.drop_succ_cons, List.drop_zero]
    try simp (maxSteps := 1000000) (disch := omega) only [BOps_nil, BOps_cons, Cont_eq, Bev, rd, ev, updO, wantD, optK_some, ↓reduceIte, List.map]
    simp only [thenQ, blockQ]
    have e1 : f1 1 = .slice (some ⟨ba, oa, none⟩) l.length pc := by rw [hout 1 (by decide +kernel)]; simp [upd, g1]
    have e2 : f1 2 = .int .i64 most := by rw [hout 2 (by decide +kernel)]; simp [upd, g2]
    have e3 : f1 3 = .pointer (some ⟨b, 0, none⟩) := by rw [hout 3 (by decide +kernel)]; simp [upd, g3]
    have e8 : f1 8 = .int .i64 i := by rw [hout 8 (by decide +kernel)]; simp [upd, g8]
    refine W_reg ?_; simp (maxSteps := 1000000) (disch := omega) only [BOps_nil, BOps_cons, Cont_eq, Bev, rd, ev, updO, upd, wantD, bin, optK_some, Nat.reduceEqDiff, ↓reduceIte, List.map, ne_eq, not_true_eq_false, wrapi, e8]
    simp only [thenQ]
    have hb2 : Hy[b]? = _ := (hx.blk b (lt_of_get hb1) (fun e => hbB b e rfl)).trans hb1
    refine ⟨most - (i + 1), by omega, i + 1, ks ++ [k], B', rfl, by omega, by simp [upd, e1], by simp [upd, e2], by simp [upd, e3], by simp [upd], Ext.frm hE1 hx (fun b e => by have := hB b e; omega), hb2, by simpa [upd] using ho, ?_, by simp [hki], ?_⟩
    · intro b' e
      rcases hB' with e2 | ⟨b2, h2, e2⟩
      · exact hB b' (by rw [← e2, e])
      · rw [e2] at e; injection e with e; have := lt_of_get hb1; omega
    · intro y hy
      rcases List.mem_append.1 hy with hy | hy
      · exact hks y hy
      · simp at hy; subst hy; exact ⟨hk1, hk2⟩
end Go.Proofs.Yteheedbhmggcgaa
