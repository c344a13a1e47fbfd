import Derived.Test.YteheedbhmggcgaaED
namespace Go.Proofs.Yteheedbhmggcgaa
open Go Go.Vy Go.Proofs
set_option linter.unusedSimpArgs false
set_option linter.unusedVariables false
theorem Cht.in_of {g : Gm} {ks : List Int} {R : Nat → List It} (h0 : (⟨0, 0, 0⟩ : It) ∈ R 0) (hg : Good g ks R) (hc : ∀ a, a ≤ ks.length → Clo g ks R a) {i : Nat} {x : It} (h : Cht g ks i x) : i ≤ ks.length ∧ x ∈ R i := by
  induction h with
  | init => exact ⟨Nat.zero_le _, h0⟩
  | pred _ hn k0 k1 hk hs ih => exact ⟨ih.1, (hc _ ih.1).P _ ih.2 _ hn hs _ k0 k1 hk⟩
  | scan _ hn hi hk ih => exact ⟨hi, (hc _ ih.1).S _ ih.2 _ hn hi hk⟩
  | comp _ hn _ hm ih1 ih2 => exact ⟨ih1.1, (hc _ ih1.1).C _ ih1.2 hn _ ih2.2 hm⟩
def ch0 (a b c d e f : Value) : List Value := [a, b, c, d, e, f] ++ List.replicate 61 (Value.slice none 0 0) ++ List.replicate 61 (Value.map none)
theorem bld66' (a b c d e : Value) (p : Option Addr) (m n : Nat) : bldV Try.prog 66 [(0, .agg #[a, b, c, d, e]), (1, .slice p m n)] = some (.agg (ch0 a b c d e (.slice p m n)).toArray) := by
  simp [ch0, bldV, plc66, hz66, zc66, bld, ow, Value.cells]
theorem bld68z : bldV Try.prog 68 [] = some (.agg #[.int .i64 0, .int .i64 0, .int .i64 0]) := by
  simp [bldV, plc68, hz68, zc68, bld]
theorem Clo.keep {g : Gm} {ks : List Int} {R R' : Nat → List It} {a i : Nat} (hg : Good g ks R) (h : Clo g ks R i) (hi : i < a) (hgr : Gr R R') (ho : Oth a R R') : Clo g ks R' i := by
  have e : R' i = R i := ho i (by omega) (by omega)
  refine ⟨fun y hy => ?_, fun y hy s h1 h2 h3 => ?_, fun x hx hn y hy => ?_⟩
  · rw [e] at hy ⊢; exact h.P y hy
  · rw [e] at hy; exact hgr.mem (h.S y hy s h1 h2 h3)
  · rw [e] at hx ⊢
    have h1 := hg.fr i x hx
    have h2 := (hg.ok i x hx).f0
    rw [ho x.f.toNat (by omega) (by omega)] at hy
    exact h.C x hx hn y hy
theorem chartOf_spec (H : Hp) (vt vl vp vn vd vk : Value) (g : Gm) (ks : List Int) (hg : GV H vt vl vp vn vd g) (hk : RdI H vk ks) (hkl : ks.length ≤ 2 ^ 45) :
    CallsV Try.prog 24 [.agg #[vt, vl, vp, vn, vd], vk].toArray H (fun r H' => Ext H H' ∧ ∃ e : Int, EChk g ks e ∧
      ((e ≠ 0 ∧ r = .tuple #[.pointer none, .int .i64 e]) ∨ (e = 0 ∧ ∃ c cs R mb B rv, r = .tuple #[.pointer (some ⟨c, 0, none⟩), .int .i64 0] ∧ Ch H H' c cs R mb B rv ∧ ∀ i x, i ≤ ks.length → (x ∈ R i ↔ Cht g ks i x)))) := by
  refine calls_W (m := 44) Try.call24 Try.func24 rfl rfl (by decide +kernel) (by simp) ?_
  first | refine W_regK ?_ | refine W_seq (W_regK ?_)
  intro K hK; simp (maxSteps := 1000000) (disch := omega) only [BOps_nil, BOps_cons, Cont_eq, Bev, rd, ev, updO, wantD, argf, optK_some, ↓reduceIte, List.map, List.toList_toArray, Value.cells]
  have hE := (Ext.refl H).push (row 27 [vt, vl, vp, vn, vd])
  have hb := get_new H (row 27 [vt, vl, vp, vn, vd])
  have hg1 := hg.ext hE
  have hk1 := RdI.ext hE hk
  generalize hk0 : H.size = k0 at *
  generalize H.push _ = H1 at *
  refine hK _ _ ?_; clear hK K
  have l0 : ldn H1 5 ⟨k0, 0, none⟩ = some [vt, vl, vp, vn, vd] := by rw [ldn_row hb]; rfl
  first | refine W_regK ?_ | refine W_seq (W_regK ?_)
  intro K hK; simp (maxSteps := 1000000) (disch := omega) only [BOps_cons, Cont_eq, Bev, rd, ev, updO, upd, wantD, argf, optK_some, Nat.reduceEqDiff, ↓reduceIte, List.map, List.map_toArray, List.append_toArray, List.append_nil, List.nil_append, Option.map_some, ld27, l0]
  refine (echeck_spec H1 _ _ _ _ _ vk g ks hg1 hk1 hkl).mono ?_
  rintro r H2 ⟨hE2, e, rfl, hC⟩
  have hE := hE.trans hE2
  have hb2 := hE2.get hb
  simp (maxSteps := 1000000) (disch := omega) only [BOps_nil, BOps_cons, Cont_eq, Bev, rd, ev, updO, upd, wantD, optK_some, ↓reduceIte]
  refine hK _ _ ?_; clear hK K
  by_cases c1 : e = 0
  rotate_left
  · have c1' : (e != 0) = true := bne_iff_ne.2 c1
    first | refine W_regK ?_ | refine W_seq (W_regK ?_)
    intro K hK; simp (maxSteps := 1000000) (disch := omega) only [BOps_nil, BOps_cons, Cont_eq, Bev, rd, ev, updO, upd, wantD, bin, optK_some, ↓reduceIte, List.map, ne_eq, not_true_eq_false, c1']
    refine hK _ _ ?_; clear hK K
    first | refine W_seq (W_cond_t (by simp only [ev]) ?_) | refine W_cond_t (by simp only [ev, upd, ↓reduceIte]) ?_
    first | refine W_regK ?_ | refine W_seq (W_regK ?_)
    intro K hK; simp (maxSteps := 1000000) (disch := omega) only [BOps_nil, BOps_cons, Cont_eq, Bev, rd, ev, updO, upd, wantD, optK_some, Nat.reduceEqDiff, ↓reduceIte, List.map]
    refine hK _ _ ?_; clear hK K
    refine W_ret ?_; simp only [thenQ, retQ, Try.results24, resV2, Option.some.injEq, exists_eq_left', upd, Nat.reduceEqDiff, ↓reduceIte, List.toList_toArray, ne_eq]
    exact ⟨hE, e, hC, .inl ⟨c1, rfl⟩⟩
  have c1' : (e != 0) = false := bne_eq_false_iff_eq.2 c1
  obtain ⟨hok, hkok⟩ := hC.zero.1 c1
  first | refine W_regK ?_ | refine W_seq (W_regK ?_)
  intro K hK; simp (maxSteps := 1000000) (disch := omega) only [BOps_nil, BOps_cons, Cont_eq, Bev, rd, ev, updO, upd, wantD, bin, optK_some, ↓reduceIte, List.map, ne_eq, not_true_eq_false, c1']
  refine hK _ _ ?_; clear hK K
  first | refine W_seq (W_cond_f (by simp only [ev]) ?_) | refine W_cond_f (by simp only [ev, upd, ↓reduceIte]) ?_
  refine W_skip ?_; try simp only [thenQ]
  have l0 : ldn H2 5 ⟨k0, 0, none⟩ = some [vt, vl, vp, vn, vd] := by rw [ldn_row hb2]; rfl
  obtain ⟨ak, ck, rfl⟩ := hk.opn'
  first | refine W_regK ?_ | refine W_seq (W_regK ?_)
  intro K hK; simp (maxSteps := 1000000) (disch := omega) only [BOps_nil, BOps_cons, Cont_eq, Bev, rd, ev, updO, upd, wantD, argf, optK_some, Nat.reduceEqDiff, ↓reduceIte, List.map, List.toList_toArray, Value.cells, Option.map_some, ld27, l0, bld66']
  have hcz := hE.size
  have hE3 := hE.push (row 66 (ch0 vt vl vp vn vd (.slice ak ks.length ck)))
  have hc3 := get_new H2 (row 66 (ch0 vt vl vp vn vd (.slice ak ks.length ck)))
  have hs3 : (H2.push (row 66 (ch0 vt vl vp vn vd (.slice ak ks.length ck)))).size = H2.size + 1 := by simp
  generalize hk2 : H2.size = c at *
  generalize H2.push _ = H3 at *
  refine hK _ _ ?_; clear hK K
  first | refine W_regK ?_ | refine W_seq (W_regK ?_)
  intro K hK; simp (maxSteps := 1000000) (disch := omega) only [BOps_nil, BOps_cons, Cont_eq, Bev, rd, ev, updO, wantD, optK_some, ↓reduceIte, List.map]
  refine hK _ _ ?_; clear hK K
  first | refine W_seq (W_block (W_loop (fun z f H' => ∃ k : Nat, k ≤ 61 ∧ z = 61 - k ∧ f 7 = .pointer (some ⟨c, 0, none⟩) ∧ f 1 = .slice ak ks.length ck ∧ f 20 = .int .i64 k ∧ Ext H H' ∧ H'.size = c + 1 + k ∧ (∃ l, H'[c]? = some (row 66 l) ∧ l.length = 128 ∧ (∀ i, i < 6 → l[i]? = [vt, vl, vp, vn, vd, .slice ak ks.length ck][i]?) ∧ (∀ i, i < 61 → l[6 + i]? = some (.slice none 0 0)) ∧ (∀ i, i < k → l[67 + i]? = some (.map (some (c + 1 + i))))) ∧ (∀ i, i < k → H'[c + 1 + i]? = some (.map #[] 0))) 61 ?_ ?_)) | refine W_block (W_loop (fun z f H' => ∃ k : Nat, k ≤ 61 ∧ z = 61 - k ∧ f 7 = .pointer (some ⟨c, 0, none⟩) ∧ f 1 = .slice ak ks.length ck ∧ f 20 = .int .i64 k ∧ Ext H H' ∧ H'.size = c + 1 + k ∧ (∃ l, H'[c]? = some (row 66 l) ∧ l.length = 128 ∧ (∀ i, i < 6 → l[i]? = [vt, vl, vp, vn, vd, .slice ak ks.length ck][i]?) ∧ (∀ i, i < 61 → l[6 + i]? = some (.slice none 0 0)) ∧ (∀ i, i < k → l[67 + i]? = some (.map (some (c + 1 + i))))) ∧ (∀ i, i < k → H'[c + 1 + i]? = some (.map #[] 0))) 61 ?_ ?_)
  · refine ⟨0, by omega, by omega, by simp [upd], by simp [upd, argf], by simp [upd], hE3, hs3, ⟨_, hc3, by simp [ch0], ?_, ?_, by omega⟩, by omega⟩
    · intro i hi; rw [ch0, List.append_assoc, List.getElem?_append_left (by simpa using hi)]
    · intro i hi; rw [ch0, List.append_assoc, List.getElem?_append_right (by simp), List.getElem?_append_left (by simp; omega), List.getElem?_replicate, if_pos (by simp; omega)]
  clear hE3 hc3 hs3 H3
  · rintro z f H3 ⟨k, hk61, rfl, g7, g1, g20, hE3, hs3, ⟨l, hl, hll, hl1, hl2, hl3⟩, hm3⟩
    first | refine W_regK ?_ | refine W_seq (W_regK ?_)
    intro K hK; simp (maxSteps := 1000000) (disch := omega) only [BOps_nil, BOps_cons, Cont_eq, Bev, rd, ev, updO, wantD, bin, optK_some, ↓reduceIte, List.map, ne_eq, not_true_eq_false, g20]
    refine hK _ _ ?_; clear hK K
    first | refine W_if (t := _) (by simp only [ev, upd, ↓reduceIte]; rfl) ?_ ?_ | refine W_cond (t := _) (by simp only [ev, upd, argf, Nat.reduceEqDiff, ↓reduceIte, reduceCtorEq]; rfl) ?_ ?_
    · intro hc
      have hklt : k < 61 := by have : (k : Int) < 61 := by simpa using hc
                               omega
      refine W_skip ?_; try simp only [thenQ]
      first | refine W_seq (W_block ?_) | refine W_block ?_
      first | refine W_regK ?_ | refine W_seq (W_regK ?_)
      intro K hK; simp (maxSteps := 1000000) (disch := omega) only [BOps_nil, BOps_cons, Cont_eq, Bev, rd, ev, updO, upd, wantD, optK_some, Nat.reduceEqDiff, ↓reduceIte, List.map, g20]
      refine hK _ _ ?_; clear hK K
      have hst : stn (H3.push (.map #[] 0)) ⟨c, 67 + k * 1, none⟩ [.map (some (c + 1 + k))] = some ((H3.push (.map #[] 0)).setIfInBounds c (row 66 (l.set (67 + k) (.map (some (c + 1 + k)))))) := by
        rw [stn_row ((Ext.refl H3).push _ |>.get hl) (by simp; omega) rfl, Nat.mul_one, ow_one (by omega)]
      refine W_reg ?_; simp (maxSteps := 1000000) (disch := omega) only [optH_some, BOps_nil, BOps_cons, Cont_eq, Bev, rd, ev, updO, upd, wantD, optK_some, optH_some, Nat.reduceEqDiff, ↓reduceIte, List.map, List.toList_toArray, ne_eq, inI_pos, Value.cells, List.size_toArray, List.length_cons, List.length_nil, Nat.zero_add, st61, ixk64, fld66_3, g7, hs3, Int.toNat_natCast, hst]
      simp only [thenQ, blockQ]
      refine W_reg ?_; simp (maxSteps := 1000000) (disch := omega) only [BOps_nil, BOps_cons, Cont_eq, Bev, rd, ev, updO, upd, wantD, bin, optK_some, Nat.reduceEqDiff, ↓reduceIte, List.map, ne_eq, not_true_eq_false, wrapi, g20]
      simp only [thenQ]
      have hcl : c < H3.size := by omega
      refine ⟨61 - (k + 1), by omega, k + 1, by omega, rfl, by simp [upd, g7], by simp [upd, g1], by simp [upd], (hE3.push _).set hcz _, by simp; omega, ⟨_, get_set (by simp; omega) _, by simpa using hll, ?_, ?_, ?_⟩, ?_⟩
      · intro i hi; rw [List.getElem?_set, if_neg (by omega)]; exact hl1 i hi
      · intro i hi; rw [List.getElem?_set, if_neg (by omega)]; exact hl2 i hi
      · intro i hi
        rw [List.getElem?_set]
        by_cases e : i = k
        · subst e; simp; omega
        · rw [if_neg (by omega)]; exact hl3 i (by omega)
      · intro i hi
        rw [get_set_ne (by omega)]
        by_cases e : i = k
        · subst e; rw [← hs3]; exact get_new _ _
        · rw [Array.getElem?_push, if_neg (by omega)]; exact hm3 i (by omega)
    · intro hc
      have hge : k = 61 := by have : ¬ (k : Int) < 61 := by simpa using hc
                              omega
      subst hge
      refine W_exit ?_; simp only [thenQ, blockQ, ↓reduceIte]
      have hCh : Ch H H3 c [vt, vl, vp, vn, vd, .slice ak ks.length ck] (fun _ => []) (fun i => c + 1 + i) (fun _ => none) (fun _ => .slice none 0 0) := by
        refine ⟨hE3, hcz, ⟨l, hl, hll, hl1, hl2, hl3⟩, fun i hi => Own.nil _ _ _, ?_, ?_, fun i hi => ⟨by omega, by omega⟩, fun i j hi hj hn => by omega, ?_, fun i hi => hm3 i hi, fun i hi => List.nodup_nil⟩
        · intro i hi b e; cases e
        · intro i j hi hj hn b e; cases e
        · intro i j hi hj e; cases e
      have hd : Hd H [vt, vl, vp, vn, vd, .slice ak ks.length ck] g ks := ⟨⟨vt, vl, vp, vn, vd, .slice ak ks.length ck, rfl, hg, hk⟩, hok.sh, hkok.1, hkok.2⟩
      have hkl60 := hkok.1
      first | refine W_regK ?_ | refine W_seq (W_regK ?_)
      intro K hK; simp (maxSteps := 1000000) (disch := omega) only [BOps_cons, Cont_eq, Bev, rd, ev, updO, upd, wantD, optK_some, Nat.reduceEqDiff, ↓reduceIte, List.map, List.map_toArray, List.append_toArray, List.append_nil, List.nil_append, g7, bld68z]
      refine (add_spec H H3 c _ (fun _ => []) _ _ _ hCh 0 (by omega) (by omega) ⟨0, 0, 0⟩ (by simp)).mono ?_
      rintro r H4 ⟨B4, rv4, h4, -, -⟩
      simp (maxSteps := 1000000) (disch := omega) only [BOps_nil, Cont_eq, updO]
      refine hK _ _ ?_; clear hK K
      first | refine W_regK ?_ | refine W_seq (W_regK ?_)
      intro K hK; simp (maxSteps := 1000000) (disch := omega) only [BOps_nil, BOps_cons, Cont_eq, Bev, rd, rdB, ev, updO, upd, wantD, bin, optK_some, lenV, Nat.reduceEqDiff, ↓reduceIte, List.map, ne_eq, not_true_eq_false, wrapi, u28, g1]
      refine hK _ _ ?_; clear hK K
      have hg4 : Good g ks (addR (fun _ => []) (0 : Int).toNat ⟨0, 0, 0⟩) := by
        refine Good.add ⟨fun i x hx => (by cases hx), fun i x hx => (by cases hx), fun i x hx => (by cases hx), fun i => List.nodup_nil⟩ .init ⟨Int.le_refl 0, ?_, Int.le_refl 0, Int.natCast_nonneg _, Int.le_refl 0, by show (0 : Int) < 61; omega⟩ (Int.le_refl _)
        have := hok.sh.np1
        show (0 : Int) < _
        omega
      have hm4 : (⟨0, 0, 0⟩ : It) ∈ addR (fun _ => []) (0 : Int).toNat ⟨0, 0, 0⟩ 0 := mem_addR.2 (.inr ⟨rfl, rfl⟩)
      generalize addR (fun _ => []) (0 : Int).toNat ⟨0, 0, 0⟩ = R4 at *
      first | refine W_seq (W_block (W_loop (fun z f H' => ∃ (a : Nat) (R5 : Nat → List It) (B5 : Nat → Option Nat) (rv5 : Nat → Value), a ≤ ks.length + 1 ∧ z = ks.length + 1 - a ∧ f 7 = .pointer (some ⟨c, 0, none⟩) ∧ f 35 = .int .i64 ((ks.length : Int) + 1) ∧ f 36 = .int .i64 a ∧ Ch H H' c [vt, vl, vp, vn, vd, .slice ak ks.length ck] R5 (fun i => c + 1 + i) B5 rv5 ∧ Good g ks R5 ∧ (⟨0, 0, 0⟩ : It) ∈ R5 0 ∧ ∀ i, i < a → Clo g ks R5 i) (ks.length + 1) ?_ ?_)) | refine W_block (W_loop (fun z f H' => ∃ (a : Nat) (R5 : Nat → List It) (B5 : Nat → Option Nat) (rv5 : Nat → Value), a ≤ ks.length + 1 ∧ z = ks.length + 1 - a ∧ f 7 = .pointer (some ⟨c, 0, none⟩) ∧ f 35 = .int .i64 ((ks.length : Int) + 1) ∧ f 36 = .int .i64 a ∧ Ch H H' c [vt, vl, vp, vn, vd, .slice ak ks.length ck] R5 (fun i => c + 1 + i) B5 rv5 ∧ Good g ks R5 ∧ (⟨0, 0, 0⟩ : It) ∈ R5 0 ∧ ∀ i, i < a → Clo g ks R5 i) (ks.length + 1) ?_ ?_)
      · exact ⟨0, R4, B4, rv4, by omega, by omega, by simp [upd, g7], by simp [upd], by simp [upd], h4, hg4, hm4, by omega⟩
      · clear h4 hg4 hm4 hCh g7 g1 g20
        rintro z f2 H5 ⟨a, R5, B5, rv5, ha, rfl, g7, g35, g36, h5, hg5, hm5, hc5⟩
        first | refine W_regK ?_ | refine W_seq (W_regK ?_)
        intro K hK; simp (maxSteps := 1000000) (disch := omega) only [BOps_nil, BOps_cons, Cont_eq, Bev, rd, ev, updO, wantD, bin, optK_some, ↓reduceIte, List.map, ne_eq, not_true_eq_false, g35, g36]
        refine hK _ _ ?_; clear hK K
        first | refine W_if (t := _) (by simp only [ev, upd, ↓reduceIte]; rfl) ?_ ?_ | refine W_cond (t := _) (by simp only [ev, upd, argf, Nat.reduceEqDiff, ↓reduceIte, reduceCtorEq]; rfl) ?_ ?_
        · intro hc
          have halt : a ≤ ks.length := by have : (a : Int) < (ks.length : Int) + 1 := by simpa using hc
                                          omega
          refine W_skip ?_; try simp only [thenQ]
          first | refine W_seq (W_block ?_) | refine W_block ?_
          first | refine W_regK ?_ | refine W_seq (W_regK ?_)
          intro K hK; simp (maxSteps := 1000000) (disch := omega) only [BOps_nil, BOps_cons, Cont_eq, Bev, rd, ev, updO, upd, wantD, optK_some, Nat.reduceEqDiff, ↓reduceIte, List.map, g36]
          refine hK _ _ ?_; clear hK K
          refine W_reg ?_; simp (maxSteps := 1000000) (disch := omega) only [BOps_cons, Cont_eq, Bev, rd, ev, updO, upd, wantD, optK_some, Nat.reduceEqDiff, ↓reduceIte, List.map, List.map_toArray, ne_eq, List.append_toArray, List.append_nil, List.nil_append, g7]
          refine (row_spec H H5 c _ R5 _ B5 rv5 g ks h5 hd hg5 a halt).mono ?_
          rintro r H6 ⟨R6, B6, rv6, h6, hg6, hgr6, ho6, hc6⟩
          simp (maxSteps := 1000000) (disch := omega) only [BOps_nil, Cont_eq, updO]
          simp only [thenQ, blockQ]
          refine W_reg ?_; simp (maxSteps := 1000000) (disch := omega) only [BOps_nil, BOps_cons, Cont_eq, Bev, rd, ev, updO, upd, wantD, bin, optK_some, Nat.reduceEqDiff, ↓reduceIte, List.map, ne_eq, not_true_eq_false, wrapi, g36]
          simp only [thenQ]
          refine ⟨ks.length + 1 - (a + 1), by omega, a + 1, R6, B6, rv6, by omega, rfl, by simp [upd, g7], by simp [upd, g35], by simp [upd], h6, hg6, hgr6.mem hm5, ?_⟩
          intro i hi
          by_cases e : i = a
          · subst e; exact hc6
          · exact Clo.keep hg5 (hc5 i (by omega)) (by omega) hgr6 ho6
        · intro hc
          have hge : a = ks.length + 1 := by have : ¬ (a : Int) < (ks.length : Int) + 1 := by simpa using hc
                                             omega
          subst hge
          refine W_exit ?_; simp only [thenQ, blockQ, ↓reduceIte]
          first | refine W_regK ?_ | refine W_seq (W_regK ?_)
          intro K hK; simp (maxSteps := 1000000) (disch := omega) only [BOps_nil, BOps_cons, Cont_eq, Bev, rd, ev, updO, upd, wantD, optK_some, Nat.reduceEqDiff, ↓reduceIte, List.map, g7]
          refine hK _ _ ?_; clear hK K
          refine W_ret ?_; simp only [retQ, Try.results24, resV2, Option.some.injEq, exists_eq_left', upd, Nat.reduceEqDiff, ↓reduceIte, List.toList_toArray, ne_eq]
          refine ⟨h5.ext, e, hC, .inr ⟨c1, c, _, R5, _, B5, rv5, rfl, h5, fun i x hi => ⟨fun h => hg5.cht i x h, fun h => (Cht.in_of hm5 hg5 (fun a ha => hc5 a (by omega)) h).2⟩⟩⟩
end Go.Proofs.Yteheedbhmggcgaa
